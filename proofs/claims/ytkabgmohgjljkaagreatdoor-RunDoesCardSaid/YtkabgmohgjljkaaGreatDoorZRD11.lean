/- Texts of one proof, put together: W9. -/
import Derived.Test.YtkabgmohgjljkaaGreatDoorZRD10

/- The reference's runs: store. -/
namespace Go.Proofs.YtkabgmohgjljkaaGreatDoor
set_option linter.unusedSimpArgs false
set_option linter.unusedVariables false
open Go Go.RowKit

set_option maxRecDepth 100000 in
set_option maxHeartbeats 12800000 in
theorem rstdo_store (a1 a2 a3 : Option Addr) (c1 c2 c3 : Nat) (P : PP) (k : Nat) (x : PS) (hxk : P.stmts[k]? = some x) (hg : P.Good x) (hkx : x.isK kStore = true)  (s : Rn) (hs : s.Ok P) (w : World) (n0 sb : Nat) (vv tv pv : Value) (hR : RfAt w n0 sb vv tv pv s) (hP : ProgR w n0 (.slice a1 P.vars.length c1) (.slice a2 P.funs.length c2) (.slice a3 P.stmts.length c3) P) (hn0 : n0 ≤ w.heap.size) (hsm : s.things.length ≤ 100000) :
    Calls Tryz.prog 13 #[.pointer (some ⟨sb, 0, none⟩), pval a1 a2 a3 c1 c2 c3 P, .int .i64 (k : Int)] w fun e w' => e = .returned (.tuple #[]) ∧ (∃ vv' tv' pv', RfAt w' n0 sb vv' tv' pv' (s.stmt P k x)) ∧ Old n0 w w' := by
  have hk : k < P.stmts.length := by
    rcases Nat.lt_or_ge k P.stmts.length with h | h
    · exact h
    · rw [List.getElem?_eq_none h] at hxk; cases hxk
  have hml := hP.stmts.len
  obtain ⟨W1, hW1⟩ : ∃ W1, W1 = w.alloc (.cells (pcells a1 a2 a3 c1 c2 c3 P) 26) := ⟨_, rfl⟩
  have hx1 : Ext w W1 := by rw [hW1]; exact (Ext.refl _).alloc _
  obtain ⟨y, x', av, cv, rfl, hxk', e0, e1, e2, e3, hI⟩ := (hP.ext hx1).stmts.at hk
  obtain rfl := Option.some.inj (hxk.symm.trans hxk')
  obtain ⟨W2, hW2⟩ : ∃ W2, W2 = W1.alloc (.cells (scells x av cv) 58) := ⟨_, rfl⟩
  have hx2 : Ext W1 W2 := by rw [hW2]; exact (Ext.refl _).alloc _
  have HW2 := hid (hx1.trans hx2)
  have HB1 : Hid (Blk W2 w.heap.size (pcells a1 a2 (some y) c1 c2 c3 P) 26) := hid (by
    have : Blk W1 w.heap.size (pcells a1 a2 (some y) c1 c2 c3 P) 26 := by rw [hW1]; exact Blk.new _ _ _
    exact this.ext hx2)
  have hs1 : W1.heap.size = w.heap.size + 1 := by rw [hW1, heap_size_alloc]
  have HB2 : Hid (Blk W2 (w.heap.size + 1) (scells x av cv) 58) := hid (by
    rw [← hs1, hW2]; exact Blk.new _ _ _)
  have HR2 := hid (hR.ext HW2.out)
  have HP2 := hid (hP.ext HW2.out)
  have HI := hid (hI.old (hx2.old n0))
  have Hs := hid hs
  have Hg := hid hg
  have Hn0 := hid hn0
  have hgx := hg.gx
  rw [hW1] at e0 e1 e2 e3
  have HW2e : Hid (W2 = (w.alloc (.cells #[.slice a1 P.vars.length c1, .slice a2 P.funs.length c2, .slice (some y) P.stmts.length c3] 26)).alloc (.cells #[.string x.kind, .int .i64 x.x, .int .i64 x.y, .slice av x.args.length cv] 58)) := hid (by rw [hW2, hW1]; rfl)
  unfold pcells at e0 e1 e2 e3
  obtain ⟨X, hX⟩ := Int.eq_ofNat_of_zero_le hgx.1
  have HX : Hid (X < s.vars.length) := hid (by rw [hs.lv]; omega)
  have HXe := hid hX
  have hXl := HX.out
  obtain ⟨g, cap, hvv⟩ := own_some hR.vars (by have := HX.out; omega)
  subst hvv
  have hnv : s.vars.length = P.vars.length := hs.lv
  have d0 := HR2.out.blk.kc (X := fun _ => False) (fun e => e) 0 rfl
  have d1 := HR2.out.blk.kc (X := fun _ => False) (fun e => e) 1 rfl
  have d2 := HR2.out.blk.kc (X := fun _ => False) (fun e => e) 2 rfl
  have m1 := HB2.out.kc (X := fun _ => False) (fun e => e) 1 rfl
  have m2 := HB2.out.kc (X := fun _ => False) (fun e => e) 2 rfl
  have m3 := HB2.out.kc (X := fun _ => False) (fun e => e) 3 rfl
  simp only [scells, List.getElem_toArray, List.getElem_cons_zero, List.getElem_cons_succ] at d0 d1 d2 m1 m2 m3
  rw [hX] at m1
  have hsbl := hR.blk.lt
  have Hkx := hid hkx
  have hkk := hkx
  unfold PS.isK kStore at hkk
  clear hxk hxk' hW1 hW2 hx1 hx2 hs1 hR hP hI hs hg hX hgx hkx hn0
  unfold pval
  have hf : x.isK kFun = false := isK_ne Hkx.out rfl
  have hn : x.isK kNew = false := isK_ne Hkx.out rfl
  have h1 : (x.kind.toList == [97, 100, 100, 114]) = false := isK_ne Hkx.out (k' := kAddr) rfl
  have h2 : (x.kind.toList == [99, 111, 112, 121]) = false := isK_ne Hkx.out (k' := kCopy) rfl
  have h3 : (x.kind.toList == [108, 111, 97, 100]) = false := isK_ne Hkx.out (k' := kLoad) rfl
  have hyv := Hg.out.yv hf hn
  obtain ⟨Y, hY⟩ := Int.eq_ofNat_of_zero_le hyv.1
  have HYl : Hid (Y < s.vars.length) := hid (by rw [hnv]; omega)
  have HY := hid hY
  rw [hY] at m2
  obtain ⟨u, hu⟩ : ∃ u, u = s.vars.getD Y .none := ⟨_, rfl⟩
  have HUy := hid (at_some HYl.out)
  rw [← hu] at HUy
  have HUat : Hid (s.at x.y = u) := hid (by unfold Rn.at; rw [hY, hu]; rfl)
  clear hY hyv hu
  have hYl := HYl.out
  clear hf hn
  obtain ⟨v, hv⟩ : ∃ v, v = s.vars.getD X .none := ⟨_, rfl⟩
  have HVx := hid (at_some HX.out)
  rw [← hv] at HVx
  have HVax : Hid (s.at x.x = v) := hid (by unfold Rn.at; rw [HXe.out, hv]; rfl)
  clear hv
  have x0 : ∀ w1, Keep (fun _ => False) W2 w1 → w1.cell? ⟨g, X * 2, none⟩ = some (.string v.kind) := fun w1 k => (own_v (HR2.out.ext k.ext).vars HVx.out).1
  have x1 : ∀ w1, Keep (fun _ => False) W2 w1 → w1.cell? ⟨g, X * 2 + 1, none⟩ = some (.int .i64 (v.num : Int)) := fun w1 k => (own_v (HR2.out.ext k.ext).vars HVx.out).2
  have HIn : Hid (v.In s.vars.length s.things.length P.funs.length) := hid (by rw [hnv, ← HVax.out]; exact Hs.out.at _)
  cases v with
  | none =>
    simp only [Vl.kind, Vl.num] at x0 x1
    go_enter Tryz.func13, Tryz.ntmps13
    go_wp2
    rw [← HW2e.out]
    refine wp_flowT (fun _ => False) (by kernel_rfl) (by kernel_rfl) ?_
    repeat (apply FlowT.d; (intro w1 hk; unfold does; go_simp; (try go_ints); (first | exact DetR.mk | (simp only [↓IntWalk.iteOmega, Oper.doesUpon_value]; exact DetR.mk) | (simp only [↓IntWalk.iteOmega]; go_simp; (try go_ints); exact DetR.mk))); simp only [Act.put, List.setIfInBounds_toArray, List.set_cons_zero, List.set_cons_succ])
    refine FlowT.s (fun t w' => ∃ b, t = .pointer (some ⟨b, 0, none⟩) ∧ Blk w' b #[.string ⟨#[]⟩, .int .i64 0] 52 ∧ Ext W2 w' ∧ (W2).heap.size ≤ b) 8 rfl (by kernel_rfl) (fun _ _ _ ⟨b, e, h1, h2, h3⟩ y => ⟨b, e, h1.ext y, h2.trans y, h3⟩) (fun w1 hC hk => ?_) (fun _ ⟨_, hb⟩ => ?_)
    · unfold does
      go_simp
      exact ⟨hk.alloc _, _, rfl, Blk.new _ _ _, hC.alloc _, hC.size⟩
    obtain ⟨b, rfl, _, _, hbs⟩ := hb
    simp only [Act.put, List.setIfInBounds_toArray, List.set_cons_zero, List.set_cons_succ]
    have Hbs := hid hbs
    clear hbs
    refine FlowT.last (fun _ w' => Blk w' b #[.string ⟨#[110, 111, 110, 101]⟩, .int .i64 0] 52 ∧ Ext W2 w') 9 rfl (by kernel_rfl) (by kernel_rfl) (fun w1 hC hk => ?_) (fun _ w3 hR3 => ?_)
    · obtain ⟨b', eb, hB, hx, _⟩ := hC
      obtain rfl : b = b' := by simpa using eb
      have z0 := hB.av 0 rfl
      have z1 := hB.av 1 rfl
      have f0 := hB.free 0
      have f1 := hB.free 1
      have hB3 := two (v0 := .string ⟨#[110, 111, 110, 101]⟩) (v1 := .int .i64 0) hB
      have hx3 := Keep.new hx (two_keep w1 b (.string ⟨#[110, 111, 110, 101]⟩) (.int .i64 0)) fun q e => by subst e; exact Hbs.out
      clear hk eb
      unfold does
      go_simp
    obtain ⟨hB3, hx3⟩ := hR3
    simp only [Act.put, List.setIfInBounds_toArray, List.set_cons_zero, List.set_cons_succ]
    have HB3 := hid hB3
    have HR3 := hid (HR2.out.ext hx3)
    have HW3 := hid (HW2.out.trans hx3)
    have b0 := hB3.kc (X := fun _ => False) (fun e => e) 0 rfl
    have b1 := hB3.kc (X := fun _ => False) (fun e => e) 1 rfl
    have b0' := hB3.av 0 rfl
    simp only [List.getElem_toArray, List.getElem_cons_zero, List.getElem_cons_succ] at b0 b1 b0'
    replace d0 := fun w1 (k : Keep (fun _ => False) w3 w1) => d0 w1 ((hx3.keep _).trans k)
    replace d1 := fun w1 (k : Keep (fun _ => False) w3 w1) => d1 w1 ((hx3.keep _).trans k)
    replace m2 := fun w1 (k : Keep (fun _ => False) w3 w1) => m2 w1 ((hx3.keep _).trans k)
    have u0 : ∀ w1, Keep (fun _ => False) w3 w1 → w1.cell? ⟨g, Y * 2, none⟩ = some (.string u.kind) := fun w1 k => (own_v (HR3.out.ext k.ext).vars HUy.out).1
    have u1 : ∀ w1, Keep (fun _ => False) w3 w1 → w1.cell? ⟨g, Y * 2 + 1, none⟩ = some (.int .i64 (u.num : Int)) := fun w1 k => (own_v (HR3.out.ext k.ext).vars HUy.out).2
    clear hx3 hB3 x0 x1
    have HS : Hid (s.stmt P k x = s) := hid (by
      unfold Rn.stmt; rw [isK_ne Hkx.out (k' := kAddr) rfl, isK_ne Hkx.out (k' := kCopy) rfl, isK_ne Hkx.out (k' := kLoad) rfl, Hkx.out]; simp only [cond_true, cond_false, HVax.out, HUat.out, Rn.put]
      )
    go_wp2
    go_end0
    exact ⟨rfl, ⟨_, _, _, by rw [HS.out]; exact HR3.out⟩, HW3.out.old n0⟩
  | fn n =>
    simp only [Vl.kind, Vl.num] at x0 x1
    go_enter Tryz.func13, Tryz.ntmps13
    go_wp2
    rw [← HW2e.out]
    refine wp_flowT (fun _ => False) (by kernel_rfl) (by kernel_rfl) ?_
    repeat (apply FlowT.d; (intro w1 hk; unfold does; go_simp; (try go_ints); (first | exact DetR.mk | (simp only [↓IntWalk.iteOmega, Oper.doesUpon_value]; exact DetR.mk) | (simp only [↓IntWalk.iteOmega]; go_simp; (try go_ints); exact DetR.mk))); simp only [Act.put, List.setIfInBounds_toArray, List.set_cons_zero, List.set_cons_succ])
    refine FlowT.s (fun t w' => ∃ b, t = .pointer (some ⟨b, 0, none⟩) ∧ Blk w' b #[.string ⟨#[]⟩, .int .i64 0] 52 ∧ Ext W2 w' ∧ (W2).heap.size ≤ b) 8 rfl (by kernel_rfl) (fun _ _ _ ⟨b, e, h1, h2, h3⟩ y => ⟨b, e, h1.ext y, h2.trans y, h3⟩) (fun w1 hC hk => ?_) (fun _ ⟨_, hb⟩ => ?_)
    · unfold does
      go_simp
      exact ⟨hk.alloc _, _, rfl, Blk.new _ _ _, hC.alloc _, hC.size⟩
    obtain ⟨b, rfl, _, _, hbs⟩ := hb
    simp only [Act.put, List.setIfInBounds_toArray, List.set_cons_zero, List.set_cons_succ]
    have Hbs := hid hbs
    clear hbs
    refine FlowT.last (fun _ w' => Blk w' b #[.string ⟨#[102, 117, 110]⟩, .int .i64 (n : Int)] 52 ∧ Ext W2 w') 9 rfl (by kernel_rfl) (by kernel_rfl) (fun w1 hC hk => ?_) (fun _ w3 hR3 => ?_)
    · obtain ⟨b', eb, hB, hx, _⟩ := hC
      obtain rfl : b = b' := by simpa using eb
      have z0 := hB.av 0 rfl
      have z1 := hB.av 1 rfl
      have f0 := hB.free 0
      have f1 := hB.free 1
      have hB3 := two (v0 := .string ⟨#[102, 117, 110]⟩) (v1 := .int .i64 (n : Int)) hB
      have hx3 := Keep.new hx (two_keep w1 b (.string ⟨#[102, 117, 110]⟩) (.int .i64 (n : Int))) fun q e => by subst e; exact Hbs.out
      clear hk eb
      unfold does
      go_simp
    obtain ⟨hB3, hx3⟩ := hR3
    simp only [Act.put, List.setIfInBounds_toArray, List.set_cons_zero, List.set_cons_succ]
    have HB3 := hid hB3
    have HR3 := hid (HR2.out.ext hx3)
    have HW3 := hid (HW2.out.trans hx3)
    have b0 := hB3.kc (X := fun _ => False) (fun e => e) 0 rfl
    have b1 := hB3.kc (X := fun _ => False) (fun e => e) 1 rfl
    have b0' := hB3.av 0 rfl
    simp only [List.getElem_toArray, List.getElem_cons_zero, List.getElem_cons_succ] at b0 b1 b0'
    replace d0 := fun w1 (k : Keep (fun _ => False) w3 w1) => d0 w1 ((hx3.keep _).trans k)
    replace d1 := fun w1 (k : Keep (fun _ => False) w3 w1) => d1 w1 ((hx3.keep _).trans k)
    replace m2 := fun w1 (k : Keep (fun _ => False) w3 w1) => m2 w1 ((hx3.keep _).trans k)
    have u0 : ∀ w1, Keep (fun _ => False) w3 w1 → w1.cell? ⟨g, Y * 2, none⟩ = some (.string u.kind) := fun w1 k => (own_v (HR3.out.ext k.ext).vars HUy.out).1
    have u1 : ∀ w1, Keep (fun _ => False) w3 w1 → w1.cell? ⟨g, Y * 2 + 1, none⟩ = some (.int .i64 (u.num : Int)) := fun w1 k => (own_v (HR3.out.ext k.ext).vars HUy.out).2
    clear hx3 hB3 x0 x1
    have HS : Hid (s.stmt P k x = s) := hid (by
      unfold Rn.stmt; rw [isK_ne Hkx.out (k' := kAddr) rfl, isK_ne Hkx.out (k' := kCopy) rfl, isK_ne Hkx.out (k' := kLoad) rfl, Hkx.out]; simp only [cond_true, cond_false, HVax.out, HUat.out, Rn.put]
      )
    go_wp2
    go_end0
    exact ⟨rfl, ⟨_, _, _, by rw [HS.out]; exact HR3.out⟩, HW3.out.old n0⟩
  | var n =>
    have hn : n < s.vars.length := HIn.out
    simp only [Vl.kind, Vl.num] at x0 x1
    have HE : Hid (s.stmt P k x = { s with vars := s.vars.set n u }) := hid (by
      unfold Rn.stmt; rw [isK_ne Hkx.out (k' := kAddr) rfl, isK_ne Hkx.out (k' := kCopy) rfl, isK_ne Hkx.out (k' := kLoad) rfl, Hkx.out]; simp only [cond_true, cond_false, HVax.out, HUat.out, Rn.put]
      )
    go_enter Tryz.func13, Tryz.ntmps13
    go_wp2
    rw [← HW2e.out]
    refine wp_flowT (fun _ => False) (by kernel_rfl) (by kernel_rfl) ?_
    repeat (apply FlowT.d; (intro w1 hk; unfold does; go_simp; (try go_ints); (first | exact DetR.mk | (simp only [↓IntWalk.iteOmega, Oper.doesUpon_value]; exact DetR.mk) | (simp only [↓IntWalk.iteOmega]; go_simp; (try go_ints); exact DetR.mk))); simp only [Act.put, List.setIfInBounds_toArray, List.set_cons_zero, List.set_cons_succ])
    refine FlowT.s (fun t w' => ∃ b, t = .pointer (some ⟨b, 0, none⟩) ∧ Blk w' b #[.string ⟨#[]⟩, .int .i64 0] 52 ∧ Ext W2 w' ∧ (W2).heap.size ≤ b) 8 rfl (by kernel_rfl) (fun _ _ _ ⟨b, e, h1, h2, h3⟩ y => ⟨b, e, h1.ext y, h2.trans y, h3⟩) (fun w1 hC hk => ?_) (fun _ ⟨_, hb⟩ => ?_)
    · unfold does
      go_simp
      exact ⟨hk.alloc _, _, rfl, Blk.new _ _ _, hC.alloc _, hC.size⟩
    obtain ⟨b, rfl, _, _, hbs⟩ := hb
    simp only [Act.put, List.setIfInBounds_toArray, List.set_cons_zero, List.set_cons_succ]
    have Hbs := hid hbs
    clear hbs
    refine FlowT.last (fun _ w' => Blk w' b #[.string ⟨#[118, 97, 114]⟩, .int .i64 (n : Int)] 52 ∧ Ext W2 w') 9 rfl (by kernel_rfl) (by kernel_rfl) (fun w1 hC hk => ?_) (fun _ w3 hR3 => ?_)
    · obtain ⟨b', eb, hB, hx, _⟩ := hC
      obtain rfl : b = b' := by simpa using eb
      have z0 := hB.av 0 rfl
      have z1 := hB.av 1 rfl
      have f0 := hB.free 0
      have f1 := hB.free 1
      have hB3 := two (v0 := .string ⟨#[118, 97, 114]⟩) (v1 := .int .i64 (n : Int)) hB
      have hx3 := Keep.new hx (two_keep w1 b (.string ⟨#[118, 97, 114]⟩) (.int .i64 (n : Int))) fun q e => by subst e; exact Hbs.out
      clear hk eb
      unfold does
      go_simp
    obtain ⟨hB3, hx3⟩ := hR3
    simp only [Act.put, List.setIfInBounds_toArray, List.set_cons_zero, List.set_cons_succ]
    have HB3 := hid hB3
    have HR3 := hid (HR2.out.ext hx3)
    have HW3 := hid (HW2.out.trans hx3)
    have b0 := hB3.kc (X := fun _ => False) (fun e => e) 0 rfl
    have b1 := hB3.kc (X := fun _ => False) (fun e => e) 1 rfl
    have b0' := hB3.av 0 rfl
    simp only [List.getElem_toArray, List.getElem_cons_zero, List.getElem_cons_succ] at b0 b1 b0'
    replace d0 := fun w1 (k : Keep (fun _ => False) w3 w1) => d0 w1 ((hx3.keep _).trans k)
    replace d1 := fun w1 (k : Keep (fun _ => False) w3 w1) => d1 w1 ((hx3.keep _).trans k)
    replace m2 := fun w1 (k : Keep (fun _ => False) w3 w1) => m2 w1 ((hx3.keep _).trans k)
    have u0 : ∀ w1, Keep (fun _ => False) w3 w1 → w1.cell? ⟨g, Y * 2, none⟩ = some (.string u.kind) := fun w1 k => (own_v (HR3.out.ext k.ext).vars HUy.out).1
    have u1 : ∀ w1, Keep (fun _ => False) w3 w1 → w1.cell? ⟨g, Y * 2 + 1, none⟩ = some (.int .i64 (u.num : Int)) := fun w1 k => (own_v (HR3.out.ext k.ext).vars HUy.out).2
    clear hx3 hB3 x0 x1
    go_wp2
    refine wp_flowT (fun _ => False) (by kernel_rfl) (by kernel_rfl) ?_
    repeat (apply FlowT.d; (intro w1 hk; unfold does; go_simp; (try go_ints); (first | exact DetR.mk | (simp only [↓IntWalk.iteOmega, Oper.doesUpon_value]; exact DetR.mk) | (simp only [↓IntWalk.iteOmega]; go_simp; (try go_ints); exact DetR.mk))); simp only [Act.put, List.setIfInBounds_toArray, List.set_cons_zero, List.set_cons_succ])
    refine FlowT.last (fun _ w' => ∃ w2, Ext w3 w2 ∧ w' = store2 w2 g (n * 2) u) 15 rfl (by kernel_rfl) (by kernel_rfl) (fun w2 hx hk => ?_) (fun _ w4 hR4 => ?_)
    · have hV := ((HR3).out.ext hx).vars
      obtain ⟨q0, q1⟩ := own_v hV (at_some hn)
      have f0 := own_free hV (n * 2)
      have f1 := own_free hV (n * 2 + 1)
      unfold does
      go_simp
      exact ⟨w2, hx, rfl⟩
    obtain ⟨w2, hx2, rfl⟩ := hR4
    simp only [Act.put]
    have HR5 := hid (((HR3).out.ext hx2).putV n hn u)
    have HO := hid (((HW3.out.trans hx2).old n0).trans (store2_old (y := u) (i := n * 2) (HR3.out.vlo (b := g) rfl)))
    have hbg : ¬ b = g := fun e => by
      have h1 := (World.ownsRow.lt HR2.out.vars g rfl).2
      have h2 := Hbs.out
      omega
    have e0 := ((HB3.out.ext hx2).keep (store2_keep w2 g (n * 2) u) hbg).av 0 rfl
    simp only [List.getElem_toArray, List.getElem_cons_zero, List.getElem_cons_succ] at e0
    clear hx2
    go_wp2
    go_end0
    exact ⟨rfl, ⟨_, _, _, by rw [HE.out]; exact HR5.out⟩, HO.out⟩
  | thing n =>
    have hn : n < s.things.length := HIn.out
    obtain ⟨g2, cap2, htv⟩ := own_some HR2.out.things (by omega)
    subst htv
    simp only [Vl.kind, Vl.num] at x0 x1
    have HE : Hid (s.stmt P k x = { s with things := s.things.set n u }) := hid (by
      unfold Rn.stmt; rw [isK_ne Hkx.out (k' := kAddr) rfl, isK_ne Hkx.out (k' := kCopy) rfl, isK_ne Hkx.out (k' := kLoad) rfl, Hkx.out]; simp only [cond_true, cond_false, HVax.out, HUat.out, Rn.put]
      )
    go_enter Tryz.func13, Tryz.ntmps13
    go_wp2
    rw [← HW2e.out]
    refine wp_flowT (fun _ => False) (by kernel_rfl) (by kernel_rfl) ?_
    repeat (apply FlowT.d; (intro w1 hk; unfold does; go_simp; (try go_ints); (first | exact DetR.mk | (simp only [↓IntWalk.iteOmega, Oper.doesUpon_value]; exact DetR.mk) | (simp only [↓IntWalk.iteOmega]; go_simp; (try go_ints); exact DetR.mk))); simp only [Act.put, List.setIfInBounds_toArray, List.set_cons_zero, List.set_cons_succ])
    refine FlowT.s (fun t w' => ∃ b, t = .pointer (some ⟨b, 0, none⟩) ∧ Blk w' b #[.string ⟨#[]⟩, .int .i64 0] 52 ∧ Ext W2 w' ∧ (W2).heap.size ≤ b) 8 rfl (by kernel_rfl) (fun _ _ _ ⟨b, e, h1, h2, h3⟩ y => ⟨b, e, h1.ext y, h2.trans y, h3⟩) (fun w1 hC hk => ?_) (fun _ ⟨_, hb⟩ => ?_)
    · unfold does
      go_simp
      exact ⟨hk.alloc _, _, rfl, Blk.new _ _ _, hC.alloc _, hC.size⟩
    obtain ⟨b, rfl, _, _, hbs⟩ := hb
    simp only [Act.put, List.setIfInBounds_toArray, List.set_cons_zero, List.set_cons_succ]
    have Hbs := hid hbs
    clear hbs
    refine FlowT.last (fun _ w' => Blk w' b #[.string ⟨#[116, 104, 105, 110, 103]⟩, .int .i64 (n : Int)] 52 ∧ Ext W2 w') 9 rfl (by kernel_rfl) (by kernel_rfl) (fun w1 hC hk => ?_) (fun _ w3 hR3 => ?_)
    · obtain ⟨b', eb, hB, hx, _⟩ := hC
      obtain rfl : b = b' := by simpa using eb
      have z0 := hB.av 0 rfl
      have z1 := hB.av 1 rfl
      have f0 := hB.free 0
      have f1 := hB.free 1
      have hB3 := two (v0 := .string ⟨#[116, 104, 105, 110, 103]⟩) (v1 := .int .i64 (n : Int)) hB
      have hx3 := Keep.new hx (two_keep w1 b (.string ⟨#[116, 104, 105, 110, 103]⟩) (.int .i64 (n : Int))) fun q e => by subst e; exact Hbs.out
      clear hk eb
      unfold does
      go_simp
    obtain ⟨hB3, hx3⟩ := hR3
    simp only [Act.put, List.setIfInBounds_toArray, List.set_cons_zero, List.set_cons_succ]
    have HB3 := hid hB3
    have HR3 := hid (HR2.out.ext hx3)
    have HW3 := hid (HW2.out.trans hx3)
    have b0 := hB3.kc (X := fun _ => False) (fun e => e) 0 rfl
    have b1 := hB3.kc (X := fun _ => False) (fun e => e) 1 rfl
    have b0' := hB3.av 0 rfl
    simp only [List.getElem_toArray, List.getElem_cons_zero, List.getElem_cons_succ] at b0 b1 b0'
    replace d0 := fun w1 (k : Keep (fun _ => False) w3 w1) => d0 w1 ((hx3.keep _).trans k)
    replace d1 := fun w1 (k : Keep (fun _ => False) w3 w1) => d1 w1 ((hx3.keep _).trans k)
    replace m2 := fun w1 (k : Keep (fun _ => False) w3 w1) => m2 w1 ((hx3.keep _).trans k)
    have u0 : ∀ w1, Keep (fun _ => False) w3 w1 → w1.cell? ⟨g, Y * 2, none⟩ = some (.string u.kind) := fun w1 k => (own_v (HR3.out.ext k.ext).vars HUy.out).1
    have u1 : ∀ w1, Keep (fun _ => False) w3 w1 → w1.cell? ⟨g, Y * 2 + 1, none⟩ = some (.int .i64 (u.num : Int)) := fun w1 k => (own_v (HR3.out.ext k.ext).vars HUy.out).2
    clear hx3 hB3 x0 x1
    go_wp2
    refine wp_flowT (fun _ => False) (by kernel_rfl) (by kernel_rfl) ?_
    repeat (apply FlowT.d; (intro w1 hk; unfold does; go_simp; (try go_ints); (first | exact DetR.mk | (simp only [↓IntWalk.iteOmega, Oper.doesUpon_value]; exact DetR.mk) | (simp only [↓IntWalk.iteOmega]; go_simp; (try go_ints); exact DetR.mk))); simp only [Act.put, List.setIfInBounds_toArray, List.set_cons_zero, List.set_cons_succ])
    refine FlowT.last (fun _ w' => ∃ w2, Ext w3 w2 ∧ w' = store2 w2 g2 (n * 2) u) 15 rfl (by kernel_rfl) (by kernel_rfl) (fun w2 hx hk => ?_) (fun _ w4 hR4 => ?_)
    · have hV := ((HR3).out.ext hx).things
      obtain ⟨q0, q1⟩ := own_v hV (at_some hn)
      have f0 := own_free hV (n * 2)
      have f1 := own_free hV (n * 2 + 1)
      unfold does
      go_simp
      exact ⟨w2, hx, rfl⟩
    obtain ⟨w2, hx2, rfl⟩ := hR4
    simp only [Act.put]
    have HR5 := hid (((HR3).out.ext hx2).putT n hn u)
    have HO := hid (((HW3.out.trans hx2).old n0).trans (store2_old (y := u) (i := n * 2) (HR3.out.tlo (b := g2) rfl)))
    skip
    clear hx2
    go_wp2
    go_end0
    exact ⟨rfl, ⟨_, _, _, by rw [HE.out]; exact HR5.out⟩, HO.out⟩
end Go.Proofs.YtkabgmohgjljkaaGreatDoor
