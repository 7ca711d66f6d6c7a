/- Texts of one proof, put together: WB. -/
import Derived.Test.YtkabgmohgjljkaaGreatDoorZRD13

/- The reference's runs: a call. -/
namespace Go.Proofs.YtkabgmohgjljkaaGreatDoor
set_option linter.unusedSimpArgs false
set_option linter.unusedVariables false
open Go Go.RowKit


set_option maxRecDepth 100000 in
set_option maxHeartbeats 12800000 in
theorem rstdo_call_no (a1 a2 a3 : Option Addr) (c1 c2 c3 : Nat) (P : PP) (k : Nat) (x : PS) (hxk : P.stmts[k]? = some x) (hg : P.Good x) (hkx : x.isK kCall = true) (hF : ∀ f ∈ P.funs, P.GoodF f) (s : Rn) (hs : s.Ok P) (w : World) (n0 sb : Nat) (vv tv pv : Value) (hR : RfAt w n0 sb vv tv pv s) (hP : ProgR w n0 (.slice a1 P.vars.length c1) (.slice a2 P.funs.length c2) (.slice a3 P.stmts.length c3) P) (hn0 : n0 ≤ w.heap.size) (hsm : s.things.length ≤ 100000) (hno : ∀ n, s.at x.y ≠ .fn n) :
    Calls Tryz.prog 13 #[.pointer (some ⟨sb, 0, none⟩), pval a1 a2 a3 c1 c2 c3 P, .int .i64 (k : Int)] w fun e w' => e = .returned (.tuple #[]) ∧ (∃ vv' tv' pv', RfAt w' n0 sb vv' tv' pv' (s)) ∧ Old n0 w w' := by
  have hk : k < P.stmts.length := by
    rcases Nat.lt_or_ge k P.stmts.length with h | h
    · exact h
    · rw [List.getElem?_eq_none h] at hxk; cases hxk
  have hml := hP.stmts.len
  obtain ⟨W1, hW1⟩ : ∃ W1, W1 = w.alloc (.cells (pcells a1 a2 a3 c1 c2 c3 P) 26) := ⟨_, rfl⟩
  have hx1 : Ext w W1 := by rw [hW1]; exact (Ext.refl _).alloc _
  obtain ⟨y, x', av, cv, rfl, hxk', e0, e1, e2, e3, hI⟩ := (hP.ext hx1).stmts.at hk
  obtain rfl := Option.some.inj (hxk.symm.trans hxk')
  obtain ⟨W2, hW2⟩ : ∃ W2, W2 = W1.alloc (.cells (scells x av cv) 58) := ⟨_, rfl⟩
  have hx2 : Ext W1 W2 := by rw [hW2]; exact (Ext.refl _).alloc _
  have HW2 := hid (hx1.trans hx2)
  have HB1 : Hid (Blk W2 w.heap.size (pcells a1 a2 (some y) c1 c2 c3 P) 26) := hid (by
    have : Blk W1 w.heap.size (pcells a1 a2 (some y) c1 c2 c3 P) 26 := by rw [hW1]; exact Blk.new _ _ _
    exact this.ext hx2)
  have hs1 : W1.heap.size = w.heap.size + 1 := by rw [hW1, heap_size_alloc]
  have HB2 : Hid (Blk W2 (w.heap.size + 1) (scells x av cv) 58) := hid (by
    rw [← hs1, hW2]; exact Blk.new _ _ _)
  have HR2 := hid (hR.ext HW2.out)
  have HP2 := hid (hP.ext HW2.out)
  have HI := hid (hI.old (hx2.old n0))
  have Hs := hid hs
  have Hg := hid hg
  have HF := hid hF
  have Hn0 := hid hn0
  have hgx := hg.gx
  rw [hW1] at e0 e1 e2 e3
  have HW2e : Hid (W2 = (w.alloc (.cells #[.slice a1 P.vars.length c1, .slice a2 P.funs.length c2, .slice (some y) P.stmts.length c3] 26)).alloc (.cells #[.string x.kind, .int .i64 x.x, .int .i64 x.y, .slice av x.args.length cv] 58)) := hid (by rw [hW2, hW1]; rfl)
  unfold pcells at e0 e1 e2 e3
  obtain ⟨X, hX⟩ := Int.eq_ofNat_of_zero_le hgx.1
  have HX : Hid (X < s.vars.length) := hid (by rw [hs.lv]; omega)
  have HXe := hid hX
  have hXl := HX.out
  obtain ⟨g, cap, hvv⟩ := own_some hR.vars (by have := HX.out; omega)
  subst hvv
  have hnv : s.vars.length = P.vars.length := hs.lv
  have d0 := HR2.out.blk.kc (X := fun _ => False) (fun e => e) 0 rfl
  have d1 := HR2.out.blk.kc (X := fun _ => False) (fun e => e) 1 rfl
  have d2 := HR2.out.blk.kc (X := fun _ => False) (fun e => e) 2 rfl
  have m1 := HB2.out.kc (X := fun _ => False) (fun e => e) 1 rfl
  have m2 := HB2.out.kc (X := fun _ => False) (fun e => e) 2 rfl
  have m3 := HB2.out.kc (X := fun _ => False) (fun e => e) 3 rfl
  simp only [scells, List.getElem_toArray, List.getElem_cons_zero, List.getElem_cons_succ] at d0 d1 d2 m1 m2 m3
  rw [hX] at m1
  have hsbl := hR.blk.lt
  have Hgw := hid (World.ownsRow.lt hR.vars g rfl).2
  have Hkx := hid hkx
  have hkk := hkx
  unfold PS.isK kCall at hkk
  clear hF hxk hxk' hW1 hW2 hx1 hx2 hs1 hR hP hI hs hg hX hgx hkx hn0
  unfold pval
  have h1 : (x.kind.toList == [97, 100, 100, 114]) = false := isK_ne Hkx.out (k' := kAddr) rfl
  have h2 : (x.kind.toList == [99, 111, 112, 121]) = false := isK_ne Hkx.out (k' := kCopy) rfl
  have h3 : (x.kind.toList == [108, 111, 97, 100]) = false := isK_ne Hkx.out (k' := kLoad) rfl
  have h4 : (x.kind.toList == [115, 116, 111, 114, 101]) = false := isK_ne Hkx.out (k' := kStore) rfl
  have h5 : (x.kind.toList == [110, 101, 119]) = false := isK_ne Hkx.out (k' := kNew) rfl
  have h6 : (x.kind.toList == [102, 117, 110]) = false := isK_ne Hkx.out (k' := kFun) rfl
  have hf : x.isK kFun = false := isK_ne Hkx.out rfl
  have hn : x.isK kNew = false := isK_ne Hkx.out rfl
  have hyv := Hg.out.yv hf hn
  obtain ⟨Y, hY⟩ := Int.eq_ofNat_of_zero_le hyv.1
  have HYl : Hid (Y < s.vars.length) := hid (by rw [hnv]; omega)
  have HY := hid hY
  rw [hY] at m2
  obtain ⟨v, hv⟩ : ∃ v, v = s.vars.getD Y .none := ⟨_, rfl⟩
  have HVy := hid (at_some HYl.out)
  rw [← hv] at HVy
  have HVat : Hid (s.at x.y = v) := hid (by unfold Rn.at; rw [hY, hv]; rfl)
  clear hY hyv hv
  have v0 : ∀ w1, Keep (fun _ => False) W2 w1 → w1.cell? ⟨g, Y * 2, none⟩ = some (.string v.kind) := fun w1 k => (own_v (HR2.out.ext k.ext).vars HVy.out).1
  have v1 : ∀ w1, Keep (fun _ => False) W2 w1 → w1.cell? ⟨g, Y * 2 + 1, none⟩ = some (.int .i64 (v.num : Int)) := fun w1 k => (own_v (HR2.out.ext k.ext).vars HVy.out).2
  have hYl := HYl.out
  clear hf hn
  rw [HVat.out] at hno
  cases v with
  | fn n => exact absurd rfl (hno n)
  | none =>
    simp only [Vl.kind, Vl.num] at v0 v1
    go_enter Tryz.func13, Tryz.ntmps13
    go_wp2
    rw [← HW2e.out]
    refine wp_flowT (fun _ => False) (by kernel_rfl) (by kernel_rfl) ?_
    repeat (apply FlowT.d; (intro w1 hk; unfold does; go_simp; (try go_ints); (first | exact DetR.mk | (simp only [↓IntWalk.iteOmega, Oper.doesUpon_value]; exact DetR.mk) | (simp only [↓IntWalk.iteOmega]; go_simp; (try go_ints); exact DetR.mk))); simp only [Act.put, List.setIfInBounds_toArray, List.set_cons_zero, List.set_cons_succ])
    refine FlowT.s (fun t w' => ∃ b, t = .pointer (some ⟨b, 0, none⟩) ∧ Blk w' b #[.string ⟨#[]⟩, .int .i64 0] 52 ∧ Ext W2 w' ∧ (W2).heap.size ≤ b) 8 rfl (by kernel_rfl) (fun _ _ _ ⟨b, e, h1, h2, h3⟩ y => ⟨b, e, h1.ext y, h2.trans y, h3⟩) (fun w1 hC hk => ?_) (fun _ ⟨_, hb⟩ => ?_)
    · unfold does
      go_simp
      exact ⟨hk.alloc _, _, rfl, Blk.new _ _ _, hC.alloc _, hC.size⟩
    obtain ⟨b, rfl, _, _, hbs⟩ := hb
    simp only [Act.put, List.setIfInBounds_toArray, List.set_cons_zero, List.set_cons_succ]
    have Hbs := hid hbs
    clear hbs
    refine FlowT.last (fun _ w' => Blk w' b #[.string ⟨#[110, 111, 110, 101]⟩, .int .i64 0] 52 ∧ Ext W2 w') 9 rfl (by kernel_rfl) (by kernel_rfl) (fun w1 hC hk => ?_) (fun _ w3 hR3 => ?_)
    · obtain ⟨b', eb, hB, hx, _⟩ := hC
      obtain rfl : b = b' := by simpa using eb
      have z0 := hB.av 0 rfl
      have z1 := hB.av 1 rfl
      have f0 := hB.free 0
      have f1 := hB.free 1
      have hB3 := two (v0 := .string ⟨#[110, 111, 110, 101]⟩) (v1 := .int .i64 0) hB
      have hx3 := Keep.new hx (two_keep w1 b (.string ⟨#[110, 111, 110, 101]⟩) (.int .i64 0)) fun q e => by subst e; exact Hbs.out
      clear hk eb
      unfold does
      go_simp
    obtain ⟨hB3, hx3⟩ := hR3
    simp only [Act.put, List.setIfInBounds_toArray, List.set_cons_zero, List.set_cons_succ]
    have HB3 := hid hB3
    have HR3 := hid (HR2.out.ext hx3)
    have HW3 := hid (HW2.out.trans hx3)
    have Hx3 := hid hx3
    have b0 := hB3.av 0 rfl
    have b1 := hB3.av 1 rfl
    have p1 := (HB1.out.ext hx3).av 1 rfl
    have m3 := (HB2.out.ext hx3).av 3 rfl
    simp only [pcells, scells, List.getElem_toArray, List.getElem_cons_zero, List.getElem_cons_succ] at b0 b1 p1 m3
    clear hB3 v0 v1 m2 d0 d1 d2
    clear hx3
    go_wp2
    refine bodyPost_ret (results_none rfl _ _ _) rfl ?_
    exact ⟨rfl, ⟨_, _, _, HR3.out⟩, HW3.out.old n0⟩
  | var n =>
    simp only [Vl.kind, Vl.num] at v0 v1
    go_enter Tryz.func13, Tryz.ntmps13
    go_wp2
    rw [← HW2e.out]
    refine wp_flowT (fun _ => False) (by kernel_rfl) (by kernel_rfl) ?_
    repeat (apply FlowT.d; (intro w1 hk; unfold does; go_simp; (try go_ints); (first | exact DetR.mk | (simp only [↓IntWalk.iteOmega, Oper.doesUpon_value]; exact DetR.mk) | (simp only [↓IntWalk.iteOmega]; go_simp; (try go_ints); exact DetR.mk))); simp only [Act.put, List.setIfInBounds_toArray, List.set_cons_zero, List.set_cons_succ])
    refine FlowT.s (fun t w' => ∃ b, t = .pointer (some ⟨b, 0, none⟩) ∧ Blk w' b #[.string ⟨#[]⟩, .int .i64 0] 52 ∧ Ext W2 w' ∧ (W2).heap.size ≤ b) 8 rfl (by kernel_rfl) (fun _ _ _ ⟨b, e, h1, h2, h3⟩ y => ⟨b, e, h1.ext y, h2.trans y, h3⟩) (fun w1 hC hk => ?_) (fun _ ⟨_, hb⟩ => ?_)
    · unfold does
      go_simp
      exact ⟨hk.alloc _, _, rfl, Blk.new _ _ _, hC.alloc _, hC.size⟩
    obtain ⟨b, rfl, _, _, hbs⟩ := hb
    simp only [Act.put, List.setIfInBounds_toArray, List.set_cons_zero, List.set_cons_succ]
    have Hbs := hid hbs
    clear hbs
    refine FlowT.last (fun _ w' => Blk w' b #[.string ⟨#[118, 97, 114]⟩, .int .i64 (n : Int)] 52 ∧ Ext W2 w') 9 rfl (by kernel_rfl) (by kernel_rfl) (fun w1 hC hk => ?_) (fun _ w3 hR3 => ?_)
    · obtain ⟨b', eb, hB, hx, _⟩ := hC
      obtain rfl : b = b' := by simpa using eb
      have z0 := hB.av 0 rfl
      have z1 := hB.av 1 rfl
      have f0 := hB.free 0
      have f1 := hB.free 1
      have hB3 := two (v0 := .string ⟨#[118, 97, 114]⟩) (v1 := .int .i64 (n : Int)) hB
      have hx3 := Keep.new hx (two_keep w1 b (.string ⟨#[118, 97, 114]⟩) (.int .i64 (n : Int))) fun q e => by subst e; exact Hbs.out
      clear hk eb
      unfold does
      go_simp
    obtain ⟨hB3, hx3⟩ := hR3
    simp only [Act.put, List.setIfInBounds_toArray, List.set_cons_zero, List.set_cons_succ]
    have HB3 := hid hB3
    have HR3 := hid (HR2.out.ext hx3)
    have HW3 := hid (HW2.out.trans hx3)
    have Hx3 := hid hx3
    have b0 := hB3.av 0 rfl
    have b1 := hB3.av 1 rfl
    have p1 := (HB1.out.ext hx3).av 1 rfl
    have m3 := (HB2.out.ext hx3).av 3 rfl
    simp only [pcells, scells, List.getElem_toArray, List.getElem_cons_zero, List.getElem_cons_succ] at b0 b1 p1 m3
    clear hB3 v0 v1 m2 d0 d1 d2
    clear hx3
    go_wp2
    refine bodyPost_ret (results_none rfl _ _ _) rfl ?_
    exact ⟨rfl, ⟨_, _, _, HR3.out⟩, HW3.out.old n0⟩
  | thing n =>
    simp only [Vl.kind, Vl.num] at v0 v1
    go_enter Tryz.func13, Tryz.ntmps13
    go_wp2
    rw [← HW2e.out]
    refine wp_flowT (fun _ => False) (by kernel_rfl) (by kernel_rfl) ?_
    repeat (apply FlowT.d; (intro w1 hk; unfold does; go_simp; (try go_ints); (first | exact DetR.mk | (simp only [↓IntWalk.iteOmega, Oper.doesUpon_value]; exact DetR.mk) | (simp only [↓IntWalk.iteOmega]; go_simp; (try go_ints); exact DetR.mk))); simp only [Act.put, List.setIfInBounds_toArray, List.set_cons_zero, List.set_cons_succ])
    refine FlowT.s (fun t w' => ∃ b, t = .pointer (some ⟨b, 0, none⟩) ∧ Blk w' b #[.string ⟨#[]⟩, .int .i64 0] 52 ∧ Ext W2 w' ∧ (W2).heap.size ≤ b) 8 rfl (by kernel_rfl) (fun _ _ _ ⟨b, e, h1, h2, h3⟩ y => ⟨b, e, h1.ext y, h2.trans y, h3⟩) (fun w1 hC hk => ?_) (fun _ ⟨_, hb⟩ => ?_)
    · unfold does
      go_simp
      exact ⟨hk.alloc _, _, rfl, Blk.new _ _ _, hC.alloc _, hC.size⟩
    obtain ⟨b, rfl, _, _, hbs⟩ := hb
    simp only [Act.put, List.setIfInBounds_toArray, List.set_cons_zero, List.set_cons_succ]
    have Hbs := hid hbs
    clear hbs
    refine FlowT.last (fun _ w' => Blk w' b #[.string ⟨#[116, 104, 105, 110, 103]⟩, .int .i64 (n : Int)] 52 ∧ Ext W2 w') 9 rfl (by kernel_rfl) (by kernel_rfl) (fun w1 hC hk => ?_) (fun _ w3 hR3 => ?_)
    · obtain ⟨b', eb, hB, hx, _⟩ := hC
      obtain rfl : b = b' := by simpa using eb
      have z0 := hB.av 0 rfl
      have z1 := hB.av 1 rfl
      have f0 := hB.free 0
      have f1 := hB.free 1
      have hB3 := two (v0 := .string ⟨#[116, 104, 105, 110, 103]⟩) (v1 := .int .i64 (n : Int)) hB
      have hx3 := Keep.new hx (two_keep w1 b (.string ⟨#[116, 104, 105, 110, 103]⟩) (.int .i64 (n : Int))) fun q e => by subst e; exact Hbs.out
      clear hk eb
      unfold does
      go_simp
    obtain ⟨hB3, hx3⟩ := hR3
    simp only [Act.put, List.setIfInBounds_toArray, List.set_cons_zero, List.set_cons_succ]
    have HB3 := hid hB3
    have HR3 := hid (HR2.out.ext hx3)
    have HW3 := hid (HW2.out.trans hx3)
    have Hx3 := hid hx3
    have b0 := hB3.av 0 rfl
    have b1 := hB3.av 1 rfl
    have p1 := (HB1.out.ext hx3).av 1 rfl
    have m3 := (HB2.out.ext hx3).av 3 rfl
    simp only [pcells, scells, List.getElem_toArray, List.getElem_cons_zero, List.getElem_cons_succ] at b0 b1 p1 m3
    clear hB3 v0 v1 m2 d0 d1 d2
    clear hx3
    go_wp2
    refine bodyPost_ret (results_none rfl _ _ _) rfl ?_
    exact ⟨rfl, ⟨_, _, _, HR3.out⟩, HW3.out.old n0⟩
set_option maxRecDepth 100000 in
set_option maxHeartbeats 12800000 in
theorem rstdo_call_far (a1 a2 a3 : Option Addr) (c1 c2 c3 : Nat) (P : PP) (k : Nat) (x : PS) (hxk : P.stmts[k]? = some x) (hg : P.Good x) (hkx : x.isK kCall = true) (hF : ∀ f ∈ P.funs, P.GoodF f) (s : Rn) (hs : s.Ok P) (w : World) (n0 sb : Nat) (vv tv pv : Value) (hR : RfAt w n0 sb vv tv pv s) (hP : ProgR w n0 (.slice a1 P.vars.length c1) (.slice a2 P.funs.length c2) (.slice a3 P.stmts.length c3) P) (hn0 : n0 ≤ w.heap.size) (hsm : s.things.length ≤ 100000) (n : Nat) (hvn : s.at x.y = .fn n) (hlen : ∀ f, P.funs[n]? = some f → f.params.length ≠ x.args.length) :
    Calls Tryz.prog 13 #[.pointer (some ⟨sb, 0, none⟩), pval a1 a2 a3 c1 c2 c3 P, .int .i64 (k : Int)] w fun e w' => e = .returned (.tuple #[]) ∧ (∃ vv' tv' pv', RfAt w' n0 sb vv' tv' pv' (s)) ∧ Old n0 w w' := by
  have hk : k < P.stmts.length := by
    rcases Nat.lt_or_ge k P.stmts.length with h | h
    · exact h
    · rw [List.getElem?_eq_none h] at hxk; cases hxk
  have hml := hP.stmts.len
  obtain ⟨W1, hW1⟩ : ∃ W1, W1 = w.alloc (.cells (pcells a1 a2 a3 c1 c2 c3 P) 26) := ⟨_, rfl⟩
  have hx1 : Ext w W1 := by rw [hW1]; exact (Ext.refl _).alloc _
  obtain ⟨y, x', av, cv, rfl, hxk', e0, e1, e2, e3, hI⟩ := (hP.ext hx1).stmts.at hk
  obtain rfl := Option.some.inj (hxk.symm.trans hxk')
  obtain ⟨W2, hW2⟩ : ∃ W2, W2 = W1.alloc (.cells (scells x av cv) 58) := ⟨_, rfl⟩
  have hx2 : Ext W1 W2 := by rw [hW2]; exact (Ext.refl _).alloc _
  have HW2 := hid (hx1.trans hx2)
  have HB1 : Hid (Blk W2 w.heap.size (pcells a1 a2 (some y) c1 c2 c3 P) 26) := hid (by
    have : Blk W1 w.heap.size (pcells a1 a2 (some y) c1 c2 c3 P) 26 := by rw [hW1]; exact Blk.new _ _ _
    exact this.ext hx2)
  have hs1 : W1.heap.size = w.heap.size + 1 := by rw [hW1, heap_size_alloc]
  have HB2 : Hid (Blk W2 (w.heap.size + 1) (scells x av cv) 58) := hid (by
    rw [← hs1, hW2]; exact Blk.new _ _ _)
  have HR2 := hid (hR.ext HW2.out)
  have HP2 := hid (hP.ext HW2.out)
  have HI := hid (hI.old (hx2.old n0))
  have Hs := hid hs
  have Hg := hid hg
  have HF := hid hF
  have Hn0 := hid hn0
  have hgx := hg.gx
  rw [hW1] at e0 e1 e2 e3
  have HW2e : Hid (W2 = (w.alloc (.cells #[.slice a1 P.vars.length c1, .slice a2 P.funs.length c2, .slice (some y) P.stmts.length c3] 26)).alloc (.cells #[.string x.kind, .int .i64 x.x, .int .i64 x.y, .slice av x.args.length cv] 58)) := hid (by rw [hW2, hW1]; rfl)
  unfold pcells at e0 e1 e2 e3
  obtain ⟨X, hX⟩ := Int.eq_ofNat_of_zero_le hgx.1
  have HX : Hid (X < s.vars.length) := hid (by rw [hs.lv]; omega)
  have HXe := hid hX
  have hXl := HX.out
  obtain ⟨g, cap, hvv⟩ := own_some hR.vars (by have := HX.out; omega)
  subst hvv
  have hnv : s.vars.length = P.vars.length := hs.lv
  have d0 := HR2.out.blk.kc (X := fun _ => False) (fun e => e) 0 rfl
  have d1 := HR2.out.blk.kc (X := fun _ => False) (fun e => e) 1 rfl
  have d2 := HR2.out.blk.kc (X := fun _ => False) (fun e => e) 2 rfl
  have m1 := HB2.out.kc (X := fun _ => False) (fun e => e) 1 rfl
  have m2 := HB2.out.kc (X := fun _ => False) (fun e => e) 2 rfl
  have m3 := HB2.out.kc (X := fun _ => False) (fun e => e) 3 rfl
  simp only [scells, List.getElem_toArray, List.getElem_cons_zero, List.getElem_cons_succ] at d0 d1 d2 m1 m2 m3
  rw [hX] at m1
  have hsbl := hR.blk.lt
  have Hgw := hid (World.ownsRow.lt hR.vars g rfl).2
  have Hkx := hid hkx
  have hkk := hkx
  unfold PS.isK kCall at hkk
  clear hF hxk hxk' hW1 hW2 hx1 hx2 hs1 hR hP hI hs hg hX hgx hkx hn0
  unfold pval
  have h1 : (x.kind.toList == [97, 100, 100, 114]) = false := isK_ne Hkx.out (k' := kAddr) rfl
  have h2 : (x.kind.toList == [99, 111, 112, 121]) = false := isK_ne Hkx.out (k' := kCopy) rfl
  have h3 : (x.kind.toList == [108, 111, 97, 100]) = false := isK_ne Hkx.out (k' := kLoad) rfl
  have h4 : (x.kind.toList == [115, 116, 111, 114, 101]) = false := isK_ne Hkx.out (k' := kStore) rfl
  have h5 : (x.kind.toList == [110, 101, 119]) = false := isK_ne Hkx.out (k' := kNew) rfl
  have h6 : (x.kind.toList == [102, 117, 110]) = false := isK_ne Hkx.out (k' := kFun) rfl
  have hf : x.isK kFun = false := isK_ne Hkx.out rfl
  have hn : x.isK kNew = false := isK_ne Hkx.out rfl
  have hyv := Hg.out.yv hf hn
  obtain ⟨Y, hY⟩ := Int.eq_ofNat_of_zero_le hyv.1
  have HYl : Hid (Y < s.vars.length) := hid (by rw [hnv]; omega)
  have HY := hid hY
  rw [hY] at m2
  obtain ⟨v, hv⟩ : ∃ v, v = s.vars.getD Y .none := ⟨_, rfl⟩
  have HVy := hid (at_some HYl.out)
  rw [← hv] at HVy
  have HVat : Hid (s.at x.y = v) := hid (by unfold Rn.at; rw [hY, hv]; rfl)
  clear hY hyv hv
  have v0 : ∀ w1, Keep (fun _ => False) W2 w1 → w1.cell? ⟨g, Y * 2, none⟩ = some (.string v.kind) := fun w1 k => (own_v (HR2.out.ext k.ext).vars HVy.out).1
  have v1 : ∀ w1, Keep (fun _ => False) W2 w1 → w1.cell? ⟨g, Y * 2 + 1, none⟩ = some (.int .i64 (v.num : Int)) := fun w1 k => (own_v (HR2.out.ext k.ext).vars HVy.out).2
  have hYl := HYl.out
  clear hf hn
  obtain rfl : v = .fn n := HVat.out.symm.trans hvn
  have Hlen := hid hlen
  clear hlen hvn
  have hnf : n < P.funs.length := by have := Hs.out.at x.y; rw [HVat.out] at this; exact this
  simp only [Vl.kind, Vl.num] at v0 v1
  obtain ⟨yf, f, pa, pc, rfl, hfk, f0, f1, f2, hIp⟩ := HP2.out.funs.at hnf
  have HFk := hid hfk
  have HGf := hid (HF.out f (List.mem_of_getElem? hfk))
  have HIp := hid hIp
  have HF1 := hid f1
  have HF2 := hid f2
  have HF0 := hid f0
  clear hfk hIp f0 f1 f2
  go_enter Tryz.func13, Tryz.ntmps13
  go_wp2
  rw [← HW2e.out]
  refine wp_flowT (fun _ => False) (by kernel_rfl) (by kernel_rfl) ?_
  repeat (apply FlowT.d; (intro w1 hk; unfold does; go_simp; (try go_ints); (first | exact DetR.mk | (simp only [↓IntWalk.iteOmega, Oper.doesUpon_value]; exact DetR.mk) | (simp only [↓IntWalk.iteOmega]; go_simp; (try go_ints); exact DetR.mk))); simp only [Act.put, List.setIfInBounds_toArray, List.set_cons_zero, List.set_cons_succ])
  refine FlowT.s (fun t w' => ∃ b, t = .pointer (some ⟨b, 0, none⟩) ∧ Blk w' b #[.string ⟨#[]⟩, .int .i64 0] 52 ∧ Ext W2 w' ∧ (W2).heap.size ≤ b) 8 rfl (by kernel_rfl) (fun _ _ _ ⟨b, e, h1, h2, h3⟩ y => ⟨b, e, h1.ext y, h2.trans y, h3⟩) (fun w1 hC hk => ?_) (fun _ ⟨_, hb⟩ => ?_)
  · unfold does
    go_simp
    exact ⟨hk.alloc _, _, rfl, Blk.new _ _ _, hC.alloc _, hC.size⟩
  obtain ⟨b, rfl, _, _, hbs⟩ := hb
  simp only [Act.put, List.setIfInBounds_toArray, List.set_cons_zero, List.set_cons_succ]
  have Hbs := hid hbs
  clear hbs
  refine FlowT.last (fun _ w' => Blk w' b #[.string ⟨#[102, 117, 110]⟩, .int .i64 (n : Int)] 52 ∧ Ext W2 w') 9 rfl (by kernel_rfl) (by kernel_rfl) (fun w1 hC hk => ?_) (fun _ w3 hR3 => ?_)
  · obtain ⟨b', eb, hB, hx, _⟩ := hC
    obtain rfl : b = b' := by simpa using eb
    have z0 := hB.av 0 rfl
    have z1 := hB.av 1 rfl
    have f0 := hB.free 0
    have f1 := hB.free 1
    have hB3 := two (v0 := .string ⟨#[102, 117, 110]⟩) (v1 := .int .i64 (n : Int)) hB
    have hx3 := Keep.new hx (two_keep w1 b (.string ⟨#[102, 117, 110]⟩) (.int .i64 (n : Int))) fun q e => by subst e; exact Hbs.out
    clear hk eb
    unfold does
    go_simp
  obtain ⟨hB3, hx3⟩ := hR3
  simp only [Act.put, List.setIfInBounds_toArray, List.set_cons_zero, List.set_cons_succ]
  have HB3 := hid hB3
  have HR3 := hid (HR2.out.ext hx3)
  have HW3 := hid (HW2.out.trans hx3)
  have Hx3 := hid hx3
  have b0 := hB3.av 0 rfl
  have b1 := hB3.av 1 rfl
  have p1 := (HB1.out.ext hx3).av 1 rfl
  have m3 := (HB2.out.ext hx3).av 3 rfl
  simp only [pcells, scells, List.getElem_toArray, List.getElem_cons_zero, List.getElem_cons_succ] at b0 b1 p1 m3
  clear hB3 v0 v1 m2 d0 d1 d2
  have g0 := hx3.cellx HF0.out
  have g1 := hx3.cellx HF1.out
  have g2 := hx3.cellx HF2.out
  clear hx3
  have hne := Hlen.out f HFk.out
  have hneb : ((f.params.length : Int) != (x.args.length : Int)) = true := bne_iff_ne.2 (by omega)
  have m3' : (w3.alloc (.cells #[.string f.name, .slice pa f.params.length pc, .int .i64 f.ret] 60)).cell? ⟨w.heap.size + 1, 3, none⟩ = some (.slice av x.args.length cv) := ((Ext.refl _).alloc _).cellx m3
  have HR4 := hid (HR3.out.ext ((Ext.refl w3).alloc (.cells #[.string f.name, .slice pa f.params.length pc, .int .i64 f.ret] 60)))
  have HW4 := hid (HW3.out.alloc (.cells #[.string f.name, .slice pa f.params.length pc, .int .i64 f.ret] 60))
  go_wp2
  refine bodyPost_ret (results_none rfl _ _ _) rfl ?_
  exact ⟨rfl, ⟨_, _, _, HR4.out⟩, HW4.out.old n0⟩
end Go.Proofs.YtkabgmohgjljkaaGreatDoor
