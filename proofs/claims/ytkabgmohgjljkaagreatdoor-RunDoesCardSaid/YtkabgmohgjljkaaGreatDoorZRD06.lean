/- Texts of one proof, put together: UW UX. -/
import Derived.Test.YtkabgmohgjljkaaGreatDoorZRD03
import Derived.Test.YtkabgmohgjljkaaGreatDoorZRD05

/- Runs: what a call does. -/
namespace Go.Proofs.YtkabgmohgjljkaaGreatDoor
set_option linter.unusedSimpArgs false
set_option linter.unusedVariables false
open Go Go.RowKit

theorem rval_info : (Tryz.prog.info? 50).map (fun i => (i.zero, i.size, i.bytes)) = some (some (.agg #[.string ⟨#[]⟩, .int .i64 0]), 2, 24) := by kernel_rfl


set_option maxRecDepth 100000 in
set_option maxHeartbeats 12800000 in
theorem stcall_no (a1 a2 a3 : Option Addr) (c1 c2 c3 : Nat) (P : PP) (x : PS) (av : Option Addr) (cv : Nat) (hg : P.Good x) (hkx : x.isK kCall = true) (hF : ∀ f ∈ P.funs, P.GoodF f) (s : Rn) (hs : s.Ok P) (w : World) (n0 sb : Nat) (vv tv pv : Value) (hR : RnAt w n0 sb vv tv pv s) (hP : ProgR w n0 (.slice a1 P.vars.length c1) (.slice a2 P.funs.length c2) (.slice a3 P.stmts.length c3) P) (hI : IntsR w n0 (.slice av x.args.length cv) x.args) (hn0 : n0 ≤ w.heap.size) (hno : ∀ n, s.at x.y ≠ .fn n) :
    Calls Tryz.prog 41 #[.pointer (some ⟨sb, 0, none⟩), pval a1 a2 a3 c1 c2 c3 P, .agg #[.string x.kind, .int .i64 x.x, .int .i64 x.y, .slice av x.args.length cv]] w fun e w' => e = .returned (.tuple #[]) ∧ (∃ vv' tv' pv', RnAt w' n0 sb vv' tv' pv' (s)) ∧ Old n0 w w' := by
  obtain ⟨W1, hW1⟩ : ∃ W1, W1 = w.alloc (.cells (pcells a1 a2 a3 c1 c2 c3 P) 26) := ⟨_, rfl⟩
  have hx1 : Ext w W1 := by rw [hW1]; exact (Ext.refl _).alloc _
  obtain ⟨W2, hW2⟩ : ∃ W2, W2 = W1.alloc (.cells (scells x av cv) 58) := ⟨_, rfl⟩
  have hx2 : Ext W1 W2 := by rw [hW2]; exact (Ext.refl _).alloc _
  have HW2 := hid (hx1.trans hx2)
  have HB1 : Hid (Blk W2 w.heap.size (pcells a1 a2 a3 c1 c2 c3 P) 26) := hid (by
    have : Blk W1 w.heap.size (pcells a1 a2 a3 c1 c2 c3 P) 26 := by rw [hW1]; exact Blk.new _ _ _
    exact this.ext hx2)
  have hs1 : W1.heap.size = w.heap.size + 1 := by rw [hW1, heap_size_alloc]
  have HB2 : Hid (Blk W2 (w.heap.size + 1) (scells x av cv) 58) := hid (by
    rw [← hs1, hW2]; exact Blk.new _ _ _)
  have HR2 := hid (hR.ext HW2.out)
  have HP2 := hid (hP.ext HW2.out)
  have HI := hid (hI.old (HW2.out.old n0))
  have Hs := hid hs
  have HF := hid hF
  have Hn0 := hid hn0
  have hgx := hg.gx
  have HW2e : Hid (W2 = (w.alloc (.cells #[.slice a1 P.vars.length c1, .slice a2 P.funs.length c2, .slice a3 P.stmts.length c3] 26)).alloc (.cells #[.string x.kind, .int .i64 x.x, .int .i64 x.y, .slice av x.args.length cv] 58)) := hid (by rw [hW2, hW1]; rfl)
  obtain ⟨X, hX⟩ := Int.eq_ofNat_of_zero_le hgx.1
  have HX : Hid (X < s.vars.length) := hid (by rw [hs.lv]; omega)
  have HXe := hid hX
  obtain ⟨g, cap, hvv⟩ := own_some hR.vars (by have := HX.out; omega)
  subst hvv
  have hnv : s.vars.length = P.vars.length := hs.lv
  have d0 := HR2.out.blk.kc (X := fun _ => False) (fun e => e) 0 rfl
  have m2 := HB2.out.kc (X := fun _ => False) (fun e => e) 2 rfl
  have m3 := HB2.out.kc (X := fun _ => False) (fun e => e) 3 rfl
  have p1 := HB1.out.kc (X := fun _ => False) (fun e => e) 1 rfl
  simp only [scells, pcells, List.getElem_toArray, List.getElem_cons_zero, List.getElem_cons_succ] at d0 m2 m3 p1
  have Hg := hid hg
  have hf : x.isK kFun = false := isK_ne hkx rfl
  have hn : x.isK kNew = false := isK_ne hkx rfl
  have hyv := Hg.out.yv hf hn
  obtain ⟨Y, hY⟩ := Int.eq_ofNat_of_zero_le hyv.1
  have HYl : Hid (Y < s.vars.length) := hid (by rw [hnv]; omega)
  have HY := hid hY
  rw [hY] at m2
  obtain ⟨v, hv⟩ : ∃ v, v = s.vars.getD Y .none := ⟨_, rfl⟩
  have HVy := hid (at_some HYl.out)
  rw [← hv] at HVy
  have HVat : Hid (s.at x.y = v) := hid (by unfold Rn.at; rw [hY, hv]; rfl)
  clear hY hyv hv
  have v0 : ∀ w1, Keep (fun _ => False) W2 w1 → w1.cell? ⟨g, Y * 2, none⟩ = some (.string v.kind) := fun w1 k => (own_v (HR2.out.ext k.ext).vars HVy.out).1
  have v1 : ∀ w1, Keep (fun _ => False) W2 w1 → w1.cell? ⟨g, Y * 2 + 1, none⟩ = some (.int .i64 (v.num : Int)) := fun w1 k => (own_v (HR2.out.ext k.ext).vars HVy.out).2
  have hYl := HYl.out
  have hsbl := hR.blk.lt
  have Hgw := hid (World.ownsRow.lt hR.vars g rfl).2
  clear hW1 hW2 hx1 hx2 hs1 hR hP hI hs hg hX hgx hkx hn0 hF hf hn
  unfold pval
  rw [HVat.out] at hno
  cases v with
  | fn n => exact absurd rfl (hno n)
  | none =>
    simp only [Vl.kind, Vl.num] at v0 v1
    go_enter Tryz.func41, Tryz.ntmps41
    go_wp2
    rw [← HW2e.out]
    refine wp_flowT (fun _ => False) (by kernel_rfl) (by kernel_rfl) ?_
    repeat (apply FlowT.d; (intro w1 hk; unfold does; go_simp; (try go_ints); (first | exact DetR.mk | (simp only [↓IntWalk.iteOmega, Oper.doesUpon_value]; exact DetR.mk) | (simp only [↓IntWalk.iteOmega]; go_simp; (try go_ints); exact DetR.mk))); simp only [Act.put, List.setIfInBounds_toArray, List.set_cons_zero, List.set_cons_succ])
    refine FlowT.s (fun t w' => ∃ b, t = .pointer (some ⟨b, 0, none⟩) ∧ Blk w' b #[.string ⟨#[]⟩, .int .i64 0] 50 ∧ Ext W2 w' ∧ W2.heap.size ≤ b) 8 rfl (by kernel_rfl) (fun _ _ _ ⟨b, e, h1, h2, h3⟩ y => ⟨b, e, h1.ext y, h2.trans y, h3⟩) (fun w1 hC hk => ?_) (fun _ ⟨_, hb⟩ => ?_)
    · unfold does
      go_simp
      exact ⟨hk.alloc _, _, rfl, Blk.new _ _ _, hC.alloc _, hC.size⟩
    obtain ⟨b, rfl, _, _, hbs⟩ := hb
    simp only [Act.put, List.setIfInBounds_toArray, List.set_cons_zero, List.set_cons_succ]
    have Hbs := hid hbs
    clear hbs
    refine FlowT.last (fun _ w' => Blk w' b #[.string ⟨#[110, 111, 110, 101]⟩, .int .i64 0] 50 ∧ Ext W2 w') 9 rfl (by kernel_rfl) (by kernel_rfl) (fun w1 hC hk => ?_) (fun _ w3 hR3 => ?_)
    · obtain ⟨b', eb, hB, hx, _⟩ := hC
      obtain rfl : b = b' := by simpa using eb
      have z0 := hB.av 0 rfl
      have z1 := hB.av 1 rfl
      have f0 := hB.free 0
      have f1 := hB.free 1
      have hB2 := (hB.set 0 (.string ⟨#[110, 111, 110, 101]⟩)).set 1 (.int .i64 0)
      have hx2 : Ext W2 ((w1.setCell ⟨b, 0, none⟩ (.string ⟨#[110, 111, 110, 101]⟩)).setCell ⟨b, 1, none⟩ (.int .i64 0)) := Keep.new hx ((Keep.set (X := fun g => g = b) (Keep.refl _ _) rfl _).set rfl _) fun g e => by subst e; exact Hbs.out
      simp only [List.setIfInBounds_toArray, List.set_cons_zero, List.set_cons_succ] at hB2
      clear hk
      unfold does
      go_simp
    obtain ⟨hB3, hx3⟩ := hR3
    simp only [Act.put, List.setIfInBounds_toArray, List.set_cons_zero, List.set_cons_succ]
    have HB3 := hid hB3
    have HR3 := hid (HR2.out.ext hx3)
    have HW3 := hid (HW2.out.trans hx3)
    have Hx3 := hid hx3
    have b0 := hB3.kc (X := fun _ => False) (fun e => e) 0 rfl
    have b1 := hB3.kc (X := fun _ => False) (fun e => e) 1 rfl
    simp only [List.getElem_toArray, List.getElem_cons_zero, List.getElem_cons_succ] at b0 b1
    replace p1 := fun w1 (k : Keep (fun _ => False) w3 w1) => p1 w1 ((hx3.keep _).trans k)
    replace m3 := fun w1 (k : Keep (fun _ => False) w3 w1) => m3 w1 ((hx3.keep _).trans k)
    clear v0 v1 m2 d0
    clear hB3 hx3
    go_wp2
    refine wp_flowT (fun _ => False) (by kernel_rfl) (by kernel_rfl) ?_
    repeat (apply FlowT.d; (intro w1 hk; unfold does; go_simp; (try go_ints); (first | exact DetR.mk | (simp only [↓IntWalk.iteOmega, Oper.doesUpon_value]; exact DetR.mk) | (simp only [↓IntWalk.iteOmega]; go_simp; (try go_ints); exact DetR.mk))); simp only [Act.put, List.setIfInBounds_toArray, List.set_cons_zero, List.set_cons_succ])
    refine FlowT.fin fun w4 hx4 hk4 => ?_
    have HR4 := hid (HR3.out.ext hx4)
    have HW4 := hid (HW3.out.trans hx4)
    clear hx4 hk4
    go_wp2
    refine bodyPost_ret (results_none rfl _ _ _) rfl ?_
    exact ⟨rfl, ⟨_, _, _, HR4.out⟩, HW4.out.old n0⟩
  | var n =>
    simp only [Vl.kind, Vl.num] at v0 v1
    go_enter Tryz.func41, Tryz.ntmps41
    go_wp2
    rw [← HW2e.out]
    refine wp_flowT (fun _ => False) (by kernel_rfl) (by kernel_rfl) ?_
    repeat (apply FlowT.d; (intro w1 hk; unfold does; go_simp; (try go_ints); (first | exact DetR.mk | (simp only [↓IntWalk.iteOmega, Oper.doesUpon_value]; exact DetR.mk) | (simp only [↓IntWalk.iteOmega]; go_simp; (try go_ints); exact DetR.mk))); simp only [Act.put, List.setIfInBounds_toArray, List.set_cons_zero, List.set_cons_succ])
    refine FlowT.s (fun t w' => ∃ b, t = .pointer (some ⟨b, 0, none⟩) ∧ Blk w' b #[.string ⟨#[]⟩, .int .i64 0] 50 ∧ Ext W2 w' ∧ W2.heap.size ≤ b) 8 rfl (by kernel_rfl) (fun _ _ _ ⟨b, e, h1, h2, h3⟩ y => ⟨b, e, h1.ext y, h2.trans y, h3⟩) (fun w1 hC hk => ?_) (fun _ ⟨_, hb⟩ => ?_)
    · unfold does
      go_simp
      exact ⟨hk.alloc _, _, rfl, Blk.new _ _ _, hC.alloc _, hC.size⟩
    obtain ⟨b, rfl, _, _, hbs⟩ := hb
    simp only [Act.put, List.setIfInBounds_toArray, List.set_cons_zero, List.set_cons_succ]
    have Hbs := hid hbs
    clear hbs
    refine FlowT.last (fun _ w' => Blk w' b #[.string ⟨#[118, 97, 114]⟩, .int .i64 (n : Int)] 50 ∧ Ext W2 w') 9 rfl (by kernel_rfl) (by kernel_rfl) (fun w1 hC hk => ?_) (fun _ w3 hR3 => ?_)
    · obtain ⟨b', eb, hB, hx, _⟩ := hC
      obtain rfl : b = b' := by simpa using eb
      have z0 := hB.av 0 rfl
      have z1 := hB.av 1 rfl
      have f0 := hB.free 0
      have f1 := hB.free 1
      have hB2 := (hB.set 0 (.string ⟨#[118, 97, 114]⟩)).set 1 (.int .i64 (n : Int))
      have hx2 : Ext W2 ((w1.setCell ⟨b, 0, none⟩ (.string ⟨#[118, 97, 114]⟩)).setCell ⟨b, 1, none⟩ (.int .i64 (n : Int))) := Keep.new hx ((Keep.set (X := fun g => g = b) (Keep.refl _ _) rfl _).set rfl _) fun g e => by subst e; exact Hbs.out
      simp only [List.setIfInBounds_toArray, List.set_cons_zero, List.set_cons_succ] at hB2
      clear hk
      unfold does
      go_simp
    obtain ⟨hB3, hx3⟩ := hR3
    simp only [Act.put, List.setIfInBounds_toArray, List.set_cons_zero, List.set_cons_succ]
    have HB3 := hid hB3
    have HR3 := hid (HR2.out.ext hx3)
    have HW3 := hid (HW2.out.trans hx3)
    have Hx3 := hid hx3
    have b0 := hB3.kc (X := fun _ => False) (fun e => e) 0 rfl
    have b1 := hB3.kc (X := fun _ => False) (fun e => e) 1 rfl
    simp only [List.getElem_toArray, List.getElem_cons_zero, List.getElem_cons_succ] at b0 b1
    replace p1 := fun w1 (k : Keep (fun _ => False) w3 w1) => p1 w1 ((hx3.keep _).trans k)
    replace m3 := fun w1 (k : Keep (fun _ => False) w3 w1) => m3 w1 ((hx3.keep _).trans k)
    clear v0 v1 m2 d0
    clear hB3 hx3
    go_wp2
    refine wp_flowT (fun _ => False) (by kernel_rfl) (by kernel_rfl) ?_
    repeat (apply FlowT.d; (intro w1 hk; unfold does; go_simp; (try go_ints); (first | exact DetR.mk | (simp only [↓IntWalk.iteOmega, Oper.doesUpon_value]; exact DetR.mk) | (simp only [↓IntWalk.iteOmega]; go_simp; (try go_ints); exact DetR.mk))); simp only [Act.put, List.setIfInBounds_toArray, List.set_cons_zero, List.set_cons_succ])
    refine FlowT.fin fun w4 hx4 hk4 => ?_
    have HR4 := hid (HR3.out.ext hx4)
    have HW4 := hid (HW3.out.trans hx4)
    clear hx4 hk4
    go_wp2
    refine bodyPost_ret (results_none rfl _ _ _) rfl ?_
    exact ⟨rfl, ⟨_, _, _, HR4.out⟩, HW4.out.old n0⟩
  | thing n =>
    simp only [Vl.kind, Vl.num] at v0 v1
    go_enter Tryz.func41, Tryz.ntmps41
    go_wp2
    rw [← HW2e.out]
    refine wp_flowT (fun _ => False) (by kernel_rfl) (by kernel_rfl) ?_
    repeat (apply FlowT.d; (intro w1 hk; unfold does; go_simp; (try go_ints); (first | exact DetR.mk | (simp only [↓IntWalk.iteOmega, Oper.doesUpon_value]; exact DetR.mk) | (simp only [↓IntWalk.iteOmega]; go_simp; (try go_ints); exact DetR.mk))); simp only [Act.put, List.setIfInBounds_toArray, List.set_cons_zero, List.set_cons_succ])
    refine FlowT.s (fun t w' => ∃ b, t = .pointer (some ⟨b, 0, none⟩) ∧ Blk w' b #[.string ⟨#[]⟩, .int .i64 0] 50 ∧ Ext W2 w' ∧ W2.heap.size ≤ b) 8 rfl (by kernel_rfl) (fun _ _ _ ⟨b, e, h1, h2, h3⟩ y => ⟨b, e, h1.ext y, h2.trans y, h3⟩) (fun w1 hC hk => ?_) (fun _ ⟨_, hb⟩ => ?_)
    · unfold does
      go_simp
      exact ⟨hk.alloc _, _, rfl, Blk.new _ _ _, hC.alloc _, hC.size⟩
    obtain ⟨b, rfl, _, _, hbs⟩ := hb
    simp only [Act.put, List.setIfInBounds_toArray, List.set_cons_zero, List.set_cons_succ]
    have Hbs := hid hbs
    clear hbs
    refine FlowT.last (fun _ w' => Blk w' b #[.string ⟨#[116, 104, 105, 110, 103]⟩, .int .i64 (n : Int)] 50 ∧ Ext W2 w') 9 rfl (by kernel_rfl) (by kernel_rfl) (fun w1 hC hk => ?_) (fun _ w3 hR3 => ?_)
    · obtain ⟨b', eb, hB, hx, _⟩ := hC
      obtain rfl : b = b' := by simpa using eb
      have z0 := hB.av 0 rfl
      have z1 := hB.av 1 rfl
      have f0 := hB.free 0
      have f1 := hB.free 1
      have hB2 := (hB.set 0 (.string ⟨#[116, 104, 105, 110, 103]⟩)).set 1 (.int .i64 (n : Int))
      have hx2 : Ext W2 ((w1.setCell ⟨b, 0, none⟩ (.string ⟨#[116, 104, 105, 110, 103]⟩)).setCell ⟨b, 1, none⟩ (.int .i64 (n : Int))) := Keep.new hx ((Keep.set (X := fun g => g = b) (Keep.refl _ _) rfl _).set rfl _) fun g e => by subst e; exact Hbs.out
      simp only [List.setIfInBounds_toArray, List.set_cons_zero, List.set_cons_succ] at hB2
      clear hk
      unfold does
      go_simp
    obtain ⟨hB3, hx3⟩ := hR3
    simp only [Act.put, List.setIfInBounds_toArray, List.set_cons_zero, List.set_cons_succ]
    have HB3 := hid hB3
    have HR3 := hid (HR2.out.ext hx3)
    have HW3 := hid (HW2.out.trans hx3)
    have Hx3 := hid hx3
    have b0 := hB3.kc (X := fun _ => False) (fun e => e) 0 rfl
    have b1 := hB3.kc (X := fun _ => False) (fun e => e) 1 rfl
    simp only [List.getElem_toArray, List.getElem_cons_zero, List.getElem_cons_succ] at b0 b1
    replace p1 := fun w1 (k : Keep (fun _ => False) w3 w1) => p1 w1 ((hx3.keep _).trans k)
    replace m3 := fun w1 (k : Keep (fun _ => False) w3 w1) => m3 w1 ((hx3.keep _).trans k)
    clear v0 v1 m2 d0
    clear hB3 hx3
    go_wp2
    refine wp_flowT (fun _ => False) (by kernel_rfl) (by kernel_rfl) ?_
    repeat (apply FlowT.d; (intro w1 hk; unfold does; go_simp; (try go_ints); (first | exact DetR.mk | (simp only [↓IntWalk.iteOmega, Oper.doesUpon_value]; exact DetR.mk) | (simp only [↓IntWalk.iteOmega]; go_simp; (try go_ints); exact DetR.mk))); simp only [Act.put, List.setIfInBounds_toArray, List.set_cons_zero, List.set_cons_succ])
    refine FlowT.fin fun w4 hx4 hk4 => ?_
    have HR4 := hid (HR3.out.ext hx4)
    have HW4 := hid (HW3.out.trans hx4)
    clear hx4 hk4
    go_wp2
    refine bodyPost_ret (results_none rfl _ _ _) rfl ?_
    exact ⟨rfl, ⟨_, _, _, HR4.out⟩, HW4.out.old n0⟩

set_option maxRecDepth 100000 in
set_option maxHeartbeats 12800000 in
theorem stcall_far (a1 a2 a3 : Option Addr) (c1 c2 c3 : Nat) (P : PP) (x : PS) (av : Option Addr) (cv : Nat) (hg : P.Good x) (hkx : x.isK kCall = true) (hF : ∀ f ∈ P.funs, P.GoodF f) (s : Rn) (hs : s.Ok P) (w : World) (n0 sb : Nat) (vv tv pv : Value) (hR : RnAt w n0 sb vv tv pv s) (hP : ProgR w n0 (.slice a1 P.vars.length c1) (.slice a2 P.funs.length c2) (.slice a3 P.stmts.length c3) P) (hI : IntsR w n0 (.slice av x.args.length cv) x.args) (hn0 : n0 ≤ w.heap.size) (n : Nat) (hvn : s.at x.y = .fn n) (hlen : ∀ f, P.funs[n]? = some f → f.params.length ≠ x.args.length) :
    Calls Tryz.prog 41 #[.pointer (some ⟨sb, 0, none⟩), pval a1 a2 a3 c1 c2 c3 P, .agg #[.string x.kind, .int .i64 x.x, .int .i64 x.y, .slice av x.args.length cv]] w fun e w' => e = .returned (.tuple #[]) ∧ (∃ vv' tv' pv', RnAt w' n0 sb vv' tv' pv' (s)) ∧ Old n0 w w' := by
  obtain ⟨W1, hW1⟩ : ∃ W1, W1 = w.alloc (.cells (pcells a1 a2 a3 c1 c2 c3 P) 26) := ⟨_, rfl⟩
  have hx1 : Ext w W1 := by rw [hW1]; exact (Ext.refl _).alloc _
  obtain ⟨W2, hW2⟩ : ∃ W2, W2 = W1.alloc (.cells (scells x av cv) 58) := ⟨_, rfl⟩
  have hx2 : Ext W1 W2 := by rw [hW2]; exact (Ext.refl _).alloc _
  have HW2 := hid (hx1.trans hx2)
  have HB1 : Hid (Blk W2 w.heap.size (pcells a1 a2 a3 c1 c2 c3 P) 26) := hid (by
    have : Blk W1 w.heap.size (pcells a1 a2 a3 c1 c2 c3 P) 26 := by rw [hW1]; exact Blk.new _ _ _
    exact this.ext hx2)
  have hs1 : W1.heap.size = w.heap.size + 1 := by rw [hW1, heap_size_alloc]
  have HB2 : Hid (Blk W2 (w.heap.size + 1) (scells x av cv) 58) := hid (by
    rw [← hs1, hW2]; exact Blk.new _ _ _)
  have HR2 := hid (hR.ext HW2.out)
  have HP2 := hid (hP.ext HW2.out)
  have HI := hid (hI.old (HW2.out.old n0))
  have Hs := hid hs
  have HF := hid hF
  have Hn0 := hid hn0
  have hgx := hg.gx
  have HW2e : Hid (W2 = (w.alloc (.cells #[.slice a1 P.vars.length c1, .slice a2 P.funs.length c2, .slice a3 P.stmts.length c3] 26)).alloc (.cells #[.string x.kind, .int .i64 x.x, .int .i64 x.y, .slice av x.args.length cv] 58)) := hid (by rw [hW2, hW1]; rfl)
  obtain ⟨X, hX⟩ := Int.eq_ofNat_of_zero_le hgx.1
  have HX : Hid (X < s.vars.length) := hid (by rw [hs.lv]; omega)
  have HXe := hid hX
  obtain ⟨g, cap, hvv⟩ := own_some hR.vars (by have := HX.out; omega)
  subst hvv
  have hnv : s.vars.length = P.vars.length := hs.lv
  have d0 := HR2.out.blk.kc (X := fun _ => False) (fun e => e) 0 rfl
  have m2 := HB2.out.kc (X := fun _ => False) (fun e => e) 2 rfl
  have m3 := HB2.out.kc (X := fun _ => False) (fun e => e) 3 rfl
  have p1 := HB1.out.kc (X := fun _ => False) (fun e => e) 1 rfl
  simp only [scells, pcells, List.getElem_toArray, List.getElem_cons_zero, List.getElem_cons_succ] at d0 m2 m3 p1
  have Hg := hid hg
  have hf : x.isK kFun = false := isK_ne hkx rfl
  have hn : x.isK kNew = false := isK_ne hkx rfl
  have hyv := Hg.out.yv hf hn
  obtain ⟨Y, hY⟩ := Int.eq_ofNat_of_zero_le hyv.1
  have HYl : Hid (Y < s.vars.length) := hid (by rw [hnv]; omega)
  have HY := hid hY
  rw [hY] at m2
  obtain ⟨v, hv⟩ : ∃ v, v = s.vars.getD Y .none := ⟨_, rfl⟩
  have HVy := hid (at_some HYl.out)
  rw [← hv] at HVy
  have HVat : Hid (s.at x.y = v) := hid (by unfold Rn.at; rw [hY, hv]; rfl)
  clear hY hyv hv
  have v0 : ∀ w1, Keep (fun _ => False) W2 w1 → w1.cell? ⟨g, Y * 2, none⟩ = some (.string v.kind) := fun w1 k => (own_v (HR2.out.ext k.ext).vars HVy.out).1
  have v1 : ∀ w1, Keep (fun _ => False) W2 w1 → w1.cell? ⟨g, Y * 2 + 1, none⟩ = some (.int .i64 (v.num : Int)) := fun w1 k => (own_v (HR2.out.ext k.ext).vars HVy.out).2
  have hYl := HYl.out
  have hsbl := hR.blk.lt
  have Hgw := hid (World.ownsRow.lt hR.vars g rfl).2
  clear hW1 hW2 hx1 hx2 hs1 hR hP hI hs hg hX hgx hkx hn0 hF hf hn
  unfold pval
  obtain rfl : v = .fn n := HVat.out.symm.trans hvn
  have Hlen := hid hlen
  clear hlen hvn
  have hnf : n < P.funs.length := by have := Hs.out.at x.y; rw [HVat.out] at this; exact this
  simp only [Vl.kind, Vl.num] at v0 v1
  obtain ⟨yf, f, pa, pc, rfl, hfk, f0, f1, f2, hIp⟩ := HP2.out.funs.at hnf
  have HFk := hid hfk
  have HGf := hid (HF.out f (List.mem_of_getElem? hfk))
  have HIp := hid hIp
  have HF1 := hid f1
  have HF2 := hid f2
  have HF0 := hid f0
  clear hfk hIp f0 f1 f2
  go_enter Tryz.func41, Tryz.ntmps41
  go_wp2
  rw [← HW2e.out]
  refine wp_flowT (fun _ => False) (by kernel_rfl) (by kernel_rfl) ?_
  repeat (apply FlowT.d; (intro w1 hk; unfold does; go_simp; (try go_ints); (first | exact DetR.mk | (simp only [↓IntWalk.iteOmega, Oper.doesUpon_value]; exact DetR.mk) | (simp only [↓IntWalk.iteOmega]; go_simp; (try go_ints); exact DetR.mk))); simp only [Act.put, List.setIfInBounds_toArray, List.set_cons_zero, List.set_cons_succ])
  refine FlowT.s (fun t w' => ∃ b, t = .pointer (some ⟨b, 0, none⟩) ∧ Blk w' b #[.string ⟨#[]⟩, .int .i64 0] 50 ∧ Ext W2 w' ∧ W2.heap.size ≤ b) 8 rfl (by kernel_rfl) (fun _ _ _ ⟨b, e, h1, h2, h3⟩ y => ⟨b, e, h1.ext y, h2.trans y, h3⟩) (fun w1 hC hk => ?_) (fun _ ⟨_, hb⟩ => ?_)
  · unfold does
    go_simp
    exact ⟨hk.alloc _, _, rfl, Blk.new _ _ _, hC.alloc _, hC.size⟩
  obtain ⟨b, rfl, _, _, hbs⟩ := hb
  simp only [Act.put, List.setIfInBounds_toArray, List.set_cons_zero, List.set_cons_succ]
  have Hbs := hid hbs
  clear hbs
  refine FlowT.last (fun _ w' => Blk w' b #[.string ⟨#[102, 117, 110]⟩, .int .i64 (n : Int)] 50 ∧ Ext W2 w') 9 rfl (by kernel_rfl) (by kernel_rfl) (fun w1 hC hk => ?_) (fun _ w3 hR3 => ?_)
  · obtain ⟨b', eb, hB, hx, _⟩ := hC
    obtain rfl : b = b' := by simpa using eb
    have z0 := hB.av 0 rfl
    have z1 := hB.av 1 rfl
    have f0 := hB.free 0
    have f1 := hB.free 1
    have hB2 := (hB.set 0 (.string ⟨#[102, 117, 110]⟩)).set 1 (.int .i64 (n : Int))
    have hx2 : Ext W2 ((w1.setCell ⟨b, 0, none⟩ (.string ⟨#[102, 117, 110]⟩)).setCell ⟨b, 1, none⟩ (.int .i64 (n : Int))) := Keep.new hx ((Keep.set (X := fun g => g = b) (Keep.refl _ _) rfl _).set rfl _) fun g e => by subst e; exact Hbs.out
    simp only [List.setIfInBounds_toArray, List.set_cons_zero, List.set_cons_succ] at hB2
    clear hk
    unfold does
    go_simp
  obtain ⟨hB3, hx3⟩ := hR3
  simp only [Act.put, List.setIfInBounds_toArray, List.set_cons_zero, List.set_cons_succ]
  have HB3 := hid hB3
  have HR3 := hid (HR2.out.ext hx3)
  have HW3 := hid (HW2.out.trans hx3)
  have Hx3 := hid hx3
  have b0 := hB3.kc (X := fun _ => False) (fun e => e) 0 rfl
  have b1 := hB3.kc (X := fun _ => False) (fun e => e) 1 rfl
  simp only [List.getElem_toArray, List.getElem_cons_zero, List.getElem_cons_succ] at b0 b1
  replace p1 := fun w1 (k : Keep (fun _ => False) w3 w1) => p1 w1 ((hx3.keep _).trans k)
  replace m3 := fun w1 (k : Keep (fun _ => False) w3 w1) => m3 w1 ((hx3.keep _).trans k)
  clear v0 v1 m2 d0
  have f1 : ∀ w1, Keep (fun _ => False) w3 w1 → w1.cell? ⟨(yf.add (n * 3)).block, (yf.add (n * 3)).off + 1, none⟩ = some (.slice pa f.params.length pc) := fun w1 k => (hx3.trans k.ext).cellx HF1.out
  have hne := Hlen.out f HFk.out
  clear hB3 hx3
  go_wp2
  refine wp_flowT (fun _ => False) (by kernel_rfl) (by kernel_rfl) ?_
  repeat (apply FlowT.d; (intro w1 hk; unfold does; go_simp; (try go_ints); (first | exact DetR.mk | (simp only [↓IntWalk.iteOmega, Oper.doesUpon_value]; exact DetR.mk) | (simp only [↓IntWalk.iteOmega]; go_simp; (try go_ints); exact DetR.mk))); simp only [Act.put, List.setIfInBounds_toArray, List.set_cons_zero, List.set_cons_succ])
  refine FlowT.fin fun w4 hx4 hk4 => ?_
  have HR4 := hid (HR3.out.ext hx4)
  have HW4 := hid (HW3.out.trans hx4)
  clear hx4 hk4
  go_wp2
  refine bodyPost_ret (results_none rfl _ _ _) rfl ?_
  exact ⟨rfl, ⟨_, _, _, HR4.out⟩, HW4.out.old n0⟩
end Go.Proofs.YtkabgmohgjljkaaGreatDoor


/- Runs: a call that is done. -/
namespace Go.Proofs.YtkabgmohgjljkaaGreatDoor
set_option linter.unusedSimpArgs false
set_option linter.unusedVariables false
open Go Go.RowKit

theorem Rn.give_len : ∀ (ps : List Int) (vs : List Vl) (s : Rn), (s.give ps vs).vars.length = s.vars.length
  | [], _, _ => rfl
  | _ :: _, [], _ => rfl
  | p :: ps, v :: vs, s => by
    have h := give_len ps vs (s.set p v)
    simp only [Rn.give]
    rw [h]
    simp [Rn.set]
theorem Rn.give_snoc : ∀ (ps : List Int) (vs : List Vl) (s : Rn) (k : Nat) (p : Int) (v : Vl), ps[k]? = some p → vs[k]? = some v → s.give (ps.take (k + 1)) (vs.take (k + 1)) = (s.give (ps.take k) (vs.take k)).set p v
  | [], _, _, _, _, _, h, _ => by simp at h
  | _ :: _, [], _, _, _, _, _, h => by simp at h
  | p :: ps, v :: vs, s, 0, q, u, h1, h2 => by
    simp at h1 h2
    subst h1 h2
    simp [Rn.give]
  | p :: ps, v :: vs, s, k + 1, q, u, h1, h2 => by
    simp only [List.getElem?_cons_succ] at h1 h2
    simp only [List.take_succ_cons, Rn.give]
    exact give_snoc ps vs (s.set p v) k q u h1 h2

theorem Rn.give_in {P : PP} (s : Rn) (hs : s.Ok P) (l : List Int) (ps : List Int) : (s.give ps (l.map s.at)).Ok P :=
  hs.give _ _ fun v hv => by
    obtain ⟨a, _, rfl⟩ := List.mem_map.1 hv
    exact hs.at a
theorem RnAt.vn {w : World} {n0 sb g cap n : Nat} {tv pv : Value} {s : Rn} (h : RnAt w n0 sb (.slice (some ⟨g, 0, none⟩) n cap) tv pv s) : w.ownsRow n0 50 2 (.slice (some ⟨g, 0, none⟩) n cap) n (s.vars.flatMap Vl.cells) := by
  have hn : n = s.vars.length := by
    rcases h.vars.2 with ⟨h2, _⟩ | ⟨_, _, _, h2, _⟩
    · simp at h2
    · simp only [Value.slice.injEq] at h2; exact h2.2.1
  subst hn
  exact h.vars
theorem flat_snoc (l : List Vl) (u : Vl) : (l ++ [u]).flatMap Vl.cells = l.flatMap Vl.cells ++ Vl.cells u := by simp
set_option maxRecDepth 100000 in
set_option maxHeartbeats 12800000 in
theorem stcall_yes (a1 a2 a3 : Option Addr) (c1 c2 c3 : Nat) (P : PP) (x : PS) (av : Option Addr) (cv : Nat) (hg : P.Good x) (hkx : x.isK kCall = true) (hF : ∀ f ∈ P.funs, P.GoodF f) (s : Rn) (hs : s.Ok P) (w : World) (n0 sb : Nat) (vv tv pv : Value) (hR : RnAt w n0 sb vv tv pv s) (hP : ProgR w n0 (.slice a1 P.vars.length c1) (.slice a2 P.funs.length c2) (.slice a3 P.stmts.length c3) P) (hI : IntsR w n0 (.slice av x.args.length cv) x.args) (hn0 : n0 ≤ w.heap.size) (n : Nat) (f0 : PF) (hvn : s.at x.y = .fn n) (hfk0 : P.funs[n]? = some f0) (hlen : f0.params.length = x.args.length) :
    Calls Tryz.prog 41 #[.pointer (some ⟨sb, 0, none⟩), pval a1 a2 a3 c1 c2 c3 P, .agg #[.string x.kind, .int .i64 x.x, .int .i64 x.y, .slice av x.args.length cv]] w fun e w' => e = .returned (.tuple #[]) ∧ (∃ vv' tv' pv', RnAt w' n0 sb vv' tv' pv' (s.callF x f0)) ∧ Old n0 w w' := by
  obtain ⟨W1, hW1⟩ : ∃ W1, W1 = w.alloc (.cells (pcells a1 a2 a3 c1 c2 c3 P) 26) := ⟨_, rfl⟩
  have hx1 : Ext w W1 := by rw [hW1]; exact (Ext.refl _).alloc _
  obtain ⟨W2, hW2⟩ : ∃ W2, W2 = W1.alloc (.cells (scells x av cv) 58) := ⟨_, rfl⟩
  have hx2 : Ext W1 W2 := by rw [hW2]; exact (Ext.refl _).alloc _
  have HW2 := hid (hx1.trans hx2)
  have HB1 : Hid (Blk W2 w.heap.size (pcells a1 a2 a3 c1 c2 c3 P) 26) := hid (by
    have : Blk W1 w.heap.size (pcells a1 a2 a3 c1 c2 c3 P) 26 := by rw [hW1]; exact Blk.new _ _ _
    exact this.ext hx2)
  have hs1 : W1.heap.size = w.heap.size + 1 := by rw [hW1, heap_size_alloc]
  have HB2 : Hid (Blk W2 (w.heap.size + 1) (scells x av cv) 58) := hid (by
    rw [← hs1, hW2]; exact Blk.new _ _ _)
  have HR2 := hid (hR.ext HW2.out)
  have HP2 := hid (hP.ext HW2.out)
  have HI := hid (hI.old (HW2.out.old n0))
  have Hs := hid hs
  have HF := hid hF
  have Hn0 := hid hn0
  have hgx := hg.gx
  have HW2e : Hid (W2 = (w.alloc (.cells #[.slice a1 P.vars.length c1, .slice a2 P.funs.length c2, .slice a3 P.stmts.length c3] 26)).alloc (.cells #[.string x.kind, .int .i64 x.x, .int .i64 x.y, .slice av x.args.length cv] 58)) := hid (by rw [hW2, hW1]; rfl)
  obtain ⟨X, hX⟩ := Int.eq_ofNat_of_zero_le hgx.1
  have HX : Hid (X < s.vars.length) := hid (by rw [hs.lv]; omega)
  have HXe := hid hX
  obtain ⟨g, cap, hvv⟩ := own_some hR.vars (by have := HX.out; omega)
  subst hvv
  have hnv : s.vars.length = P.vars.length := hs.lv
  have d0 := HR2.out.blk.kc (X := fun _ => False) (fun e => e) 0 rfl
  have m2 := HB2.out.kc (X := fun _ => False) (fun e => e) 2 rfl
  have m3 := HB2.out.kc (X := fun _ => False) (fun e => e) 3 rfl
  have p1 := HB1.out.kc (X := fun _ => False) (fun e => e) 1 rfl
  simp only [scells, pcells, List.getElem_toArray, List.getElem_cons_zero, List.getElem_cons_succ] at d0 m2 m3 p1
  have Hg := hid hg
  have hf : x.isK kFun = false := isK_ne hkx rfl
  have hn : x.isK kNew = false := isK_ne hkx rfl
  have hyv := Hg.out.yv hf hn
  obtain ⟨Y, hY⟩ := Int.eq_ofNat_of_zero_le hyv.1
  have HYl : Hid (Y < s.vars.length) := hid (by rw [hnv]; omega)
  have HY := hid hY
  rw [hY] at m2
  obtain ⟨v, hv⟩ : ∃ v, v = s.vars.getD Y .none := ⟨_, rfl⟩
  have HVy := hid (at_some HYl.out)
  rw [← hv] at HVy
  have HVat : Hid (s.at x.y = v) := hid (by unfold Rn.at; rw [hY, hv]; rfl)
  clear hY hyv hv
  have v0 : ∀ w1, Keep (fun _ => False) W2 w1 → w1.cell? ⟨g, Y * 2, none⟩ = some (.string v.kind) := fun w1 k => (own_v (HR2.out.ext k.ext).vars HVy.out).1
  have v1 : ∀ w1, Keep (fun _ => False) W2 w1 → w1.cell? ⟨g, Y * 2 + 1, none⟩ = some (.int .i64 (v.num : Int)) := fun w1 k => (own_v (HR2.out.ext k.ext).vars HVy.out).2
  have hYl := HYl.out
  have hsbl := hR.blk.lt
  have Hgw := hid (World.ownsRow.lt hR.vars g rfl).2
  clear hW1 hW2 hx1 hx2 hs1 hR hP hI hs hg hX hgx hkx hn0 hF hf hn
  unfold pval
  obtain rfl : v = .fn n := HVat.out.symm.trans hvn
  have Hlen := hid hlen
  have HFk0 := hid hfk0
  clear hlen hvn hfk0
  have hnf : n < P.funs.length := by have := Hs.out.at x.y; rw [HVat.out] at this; exact this
  simp only [Vl.kind, Vl.num] at v0 v1
  obtain ⟨yf, f, pa, pc, rfl, hfk, f0, f1, f2, hIp⟩ := HP2.out.funs.at hnf
  have HFk := hid hfk
  have HGf := hid (HF.out f (List.mem_of_getElem? hfk))
  have HIp := hid hIp
  have HF1 := hid f1
  have HF2 := hid f2
  have HF0 := hid f0
  clear hfk hIp f0 f1 f2
  go_enter Tryz.func41, Tryz.ntmps41
  go_wp2
  rw [← HW2e.out]
  refine wp_flowT (fun _ => False) (by kernel_rfl) (by kernel_rfl) ?_
  repeat (apply FlowT.d; (intro w1 hk; unfold does; go_simp; (try go_ints); (first | exact DetR.mk | (simp only [↓IntWalk.iteOmega, Oper.doesUpon_value]; exact DetR.mk) | (simp only [↓IntWalk.iteOmega]; go_simp; (try go_ints); exact DetR.mk))); simp only [Act.put, List.setIfInBounds_toArray, List.set_cons_zero, List.set_cons_succ])
  refine FlowT.s (fun t w' => ∃ b, t = .pointer (some ⟨b, 0, none⟩) ∧ Blk w' b #[.string ⟨#[]⟩, .int .i64 0] 50 ∧ Ext W2 w' ∧ W2.heap.size ≤ b) 8 rfl (by kernel_rfl) (fun _ _ _ ⟨b, e, h1, h2, h3⟩ y => ⟨b, e, h1.ext y, h2.trans y, h3⟩) (fun w1 hC hk => ?_) (fun _ ⟨_, hb⟩ => ?_)
  · unfold does
    go_simp
    exact ⟨hk.alloc _, _, rfl, Blk.new _ _ _, hC.alloc _, hC.size⟩
  obtain ⟨b, rfl, _, _, hbs⟩ := hb
  simp only [Act.put, List.setIfInBounds_toArray, List.set_cons_zero, List.set_cons_succ]
  have Hbs := hid hbs
  clear hbs
  refine FlowT.last (fun _ w' => Blk w' b #[.string ⟨#[102, 117, 110]⟩, .int .i64 (n : Int)] 50 ∧ Ext W2 w') 9 rfl (by kernel_rfl) (by kernel_rfl) (fun w1 hC hk => ?_) (fun _ w3 hR3 => ?_)
  · obtain ⟨b', eb, hB, hx, _⟩ := hC
    obtain rfl : b = b' := by simpa using eb
    have z0 := hB.av 0 rfl
    have z1 := hB.av 1 rfl
    have f0 := hB.free 0
    have f1 := hB.free 1
    have hB2 := (hB.set 0 (.string ⟨#[102, 117, 110]⟩)).set 1 (.int .i64 (n : Int))
    have hx2 : Ext W2 ((w1.setCell ⟨b, 0, none⟩ (.string ⟨#[102, 117, 110]⟩)).setCell ⟨b, 1, none⟩ (.int .i64 (n : Int))) := Keep.new hx ((Keep.set (X := fun g => g = b) (Keep.refl _ _) rfl _).set rfl _) fun g e => by subst e; exact Hbs.out
    simp only [List.setIfInBounds_toArray, List.set_cons_zero, List.set_cons_succ] at hB2
    clear hk
    unfold does
    go_simp
  obtain ⟨hB3, hx3⟩ := hR3
  simp only [Act.put, List.setIfInBounds_toArray, List.set_cons_zero, List.set_cons_succ]
  have HB3 := hid hB3
  have HR3 := hid (HR2.out.ext hx3)
  have HW3 := hid (HW2.out.trans hx3)
  have Hx3 := hid hx3
  have b0 := hB3.kc (X := fun _ => False) (fun e => e) 0 rfl
  have b1 := hB3.kc (X := fun _ => False) (fun e => e) 1 rfl
  simp only [List.getElem_toArray, List.getElem_cons_zero, List.getElem_cons_succ] at b0 b1
  replace p1 := fun w1 (k : Keep (fun _ => False) w3 w1) => p1 w1 ((hx3.keep _).trans k)
  replace m3 := fun w1 (k : Keep (fun _ => False) w3 w1) => m3 w1 ((hx3.keep _).trans k)
  clear v0 v1 m2 d0
  have f1 : ∀ w1, Keep (fun _ => False) w3 w1 → w1.cell? ⟨(yf.add (n * 3)).block, (yf.add (n * 3)).off + 1, none⟩ = some (.slice pa f.params.length pc) := fun w1 k => (hx3.trans k.ext).cellx HF1.out
  obtain rfl := Option.some.inj (HFk0.out.symm.trans HFk.out)
  rw [Hlen.out] at f1 HIp HF1
  have f2 : ∀ w1, Keep (fun _ => False) w3 w1 → w1.cell? ⟨(yf.add (n * 3)).block, (yf.add (n * 3)).off + 2, none⟩ = some (.int .i64 f0.ret) := fun w1 k => (hx3.trans k.ext).cellx HF2.out
  have fn0 : ∀ w1, Keep (fun _ => False) w3 w1 → w1.cell? (yf.add (n * 3)) = some (.string f0.name) := fun w1 k => (hx3.trans k.ext).cellx HF0.out
  have hlf : (x.args.length : Int) ≤ 9223372036854775807 := by have := HGf.out.few; have := Hlen.out; omega
  clear hB3 hx3
  go_wp2
  refine wp_flowT (fun _ => False) (by kernel_rfl) (by kernel_rfl) ?_
  repeat (apply FlowT.d; (intro w1 hk; unfold does; go_simp; (try go_ints); (first | exact DetR.mk | (simp only [↓IntWalk.iteOmega, Oper.doesUpon_value]; exact DetR.mk) | (simp only [↓IntWalk.iteOmega]; go_simp; (try go_ints); exact DetR.mk))); simp only [Act.put, List.setIfInBounds_toArray, List.set_cons_zero, List.set_cons_succ])
  refine FlowT.fin fun w4 hx4 hk4 => ?_
  have g0 := fn0 w4 hk4
  have g1 := f1 w4 hk4
  have g2 := f2 w4 hk4
  have g3 := b1 w4 hk4
  have g4 := p1 w4 hk4
  have g5 := m3 w4 hk4
  obtain ⟨W5, hW5⟩ : ∃ W5, W5 = w4.alloc (.cells #[.string f0.name, .slice pa x.args.length pc, .int .i64 f0.ret] 60) := ⟨_, rfl⟩
  have hx5 : Ext w4 W5 := by rw [hW5]; exact (Ext.refl _).alloc _
  have HR5 := hid (HR3.out.ext (hx4.trans hx5))
  have HW5 := hid (HW3.out.trans (hx4.trans hx5))
  have Hx5 := hid (Hx3.out.trans (hx4.trans hx5))
  have HB7 : Hid (Blk W5 w4.heap.size #[.string f0.name, .slice pa x.args.length pc, .int .i64 f0.ret] 60) := hid (by rw [hW5]; exact Blk.new _ _ _)
  have g6 : (w4.alloc (.cells #[.string f0.name, .slice pa x.args.length pc, .int .i64 f0.ret] 60)).cell? ⟨w.heap.size + 1, 3, none⟩ = some (.slice av x.args.length cv) := ((Ext.refl _).alloc _).cellx g5
  have HW5e := hid hW5
  have hpl : (P.vars.length : Int) ≤ 9223372036854775807 := by
    obtain ⟨_, _, _, h2, h3, _⟩ := HP2.out.vars
    omega
  have HIn : Hid (Ints W5 av x.args.length x.args) := hid (IntsR.ints (HI.out.old (Hx5.out.old n0)) fun i => by
    rw [List.getD_eq_getElem?_getD]
    cases h : x.args[i]? with
    | none => simp
    | some a => have := (Hg.out.args a (List.mem_of_getElem? h)).2; simp; omega)
  have HPn : Hid (Ints W5 pa f0.params.length f0.params) := hid (IntsR.ints (HIp.out.old (Hx5.out.old n0)) fun i => by
    rw [List.getD_eq_getElem?_getD]
    cases h : f0.params[i]? with
    | none => simp
    | some a => have := (HGf.out.params a (List.mem_of_getElem? h)).2; simp; omega)
  have hgw : g < w.heap.size := Hgw.out
  clear hx4 hk4 hx5 hW5 f1 f2 fn0 b0 b1 p1 m3
  go_wp2
  rw [← HW5e.out]
  clear g0 g1 g2 g3 g4 g5 g6 HF0 HF1 HF2 HB3 HR3 HB1
  have Hb7 := hid HB7.out.lt
  generalize w4.heap.size = b7 at *
  clear HW5e
  go_loopw [8, 47] (fun t8 t47 wr => ∃ k : Nat, t47 = .int .i64 (k : Int) ∧ k ≤ x.args.length ∧ Ext W5 wr ∧ wr.ownsRow W5.heap.size 50 2 t8 k (((x.args.take k).map s.at).flatMap Vl.cells)) (fun _ t47 _ => x.args.length - (intOf t47).toNat)
  case atStart => exact ⟨0, rfl, Nat.zero_le _, Ext.refl _, World.ownsRow_nil _ _ _ _⟩
  case round =>
    obtain ⟨k, rfl, hk, hx, hrow⟩ := hrel
    obtain ⟨al, cl, rfl⟩ := row_form hrow
    have Hx := hid hx
    have Hrow := hid hrow
    clear hx hrow
    by_cases hlt : k < x.args.length
    · obtain ⟨ya, rfl⟩ := HIn.out.sm (by omega)
      obtain ⟨q, hq⟩ : ∃ q, q = x.args.getD k 0 := ⟨_, rfl⟩
      have hqk : x.args[k]? = some q := by rw [hq]; simp [List.getD_eq_getElem?_getD, hlt]
      have hc := Hx.out.cellx (HIn.out.cl ya rfl k hlt)
      rw [← hq] at hc
      have hqa := Hg.out.args q (List.mem_of_getElem? hqk)
      obtain ⟨A, rfl⟩ := Int.eq_ofNat_of_zero_le hqa.1
      have hAl : A < P.vars.length := by omega
      obtain ⟨u, hu⟩ : ∃ u, u = s.vars.getD A .none := ⟨_, rfl⟩
      have HUa := hid (at_some (l := s.vars) (n := A) (by omega))
      rw [← hu] at HUa
      have hRr := HR5.out.ext Hx.out
      obtain ⟨u0, u1⟩ := own_v hRr.vars HUa.out
      have d0 := hRr.blk.av 0 rfl
      simp only [List.getElem_toArray, List.getElem_cons_zero, List.getElem_cons_succ] at d0
      have Htk : Hid ((x.args.take (k + 1)).map s.at = (x.args.take k).map s.at ++ [u]) := hid (by
        rw [List.take_add_one, hqk, List.map_append, hu]; rfl)
      have Hbs5 : Hid (W5.heap.size ≤ wr.heap.size) := hid Hx.out.size
      have Hol : Hid (k ≤ 1000000) := hid (by have := HGf.out.few; have := Hlen.out; omega)
      clear hq hqk hqa hu hRr
      go_wp2_with (at_builtin; refine wpList_append_el W5.heap.size (Nat.le_trans Hbs5.out ((Ext.refl _).alloc _).size) 31 50 (.agg #[.string ⟨#[]⟩, .int .i64 0]) 2 24 Tryz.underlying31 rval_info rfl (by omega) (by omega) rfl _ _ rfl (.slice al k cl) k (((x.args.take k).map s.at).flatMap Vl.cells) rfl (own_ext Hrow.out ((Ext.refl _).alloc _)) wr.heap.size (Vl.cells u) rfl (by simp [Vl.cells, Value.oneCell']) rfl (Blk.new _ _ _) Hol.out ?_; intro v6 w6 ho6 hk6 hl6; obtain ⟨a6, c6, rfl⟩ := row_form ho6)
      have hx6 : Ext W5 w6 := Keep.new (Hx.out.alloc _) hk6 fun q hq => (World.ownsRow.lt Hrow.out q hq).1
      rw [← flat_snoc, ← Htk.out] at ho6
      go_roundw
      case rel => exact ⟨k + 1, by go_num, by omega, hx6, ho6⟩
      case measure => simp [intOf]; omega
    · obtain rfl : k = x.args.length := by omega
      have hrl : ((x.args.take x.args.length).map s.at) = x.args.map s.at := by rw [List.take_of_length_le (Nat.le_refl _)]
      rw [hrl] at Hrow
      have h71 := (HB7.out.ext Hx.out).av 1 rfl
      simp only [List.getElem_toArray, List.getElem_cons_zero, List.getElem_cons_succ] at h71
      have HRr := hid (HR5.out.ext Hx.out)
      have HB7r := hid (HB7.out.ext Hx.out)
      have HPr := hid (HPn.out.ext Hx.out)
      have HWr := hid (HW5.out.trans Hx.out)
      have HIr := hid (HIp.out.old ((Hx5.out.trans Hx.out).old n0))
      have HB2r := hid (HB2.out.ext (Hx5.out.trans Hx.out))
      have Hglo := hid (HRr.out.vlo (b := g) rfl)
      have Hgb : Hid (g < W5.heap.size ∧ g < w.heap.size) := hid ⟨(World.ownsRow.lt HR5.out.vars g rfl).2, hgw⟩
      have hml : (f0.params.length : Int) ≤ 9223372036854775807 := by rw [Hlen.out]; exact hlf
      clear hlt hrl HR5 HB7 HPn HIn
      go_wp2
      clear h71
      rename World => w7
      go_loopw [65] (fun t65 wr => ∃ k : Nat, t65 = .int .i64 (k : Int) ∧ k ≤ x.args.length ∧ Keep (fun q => q = g) w7 wr ∧ RnAt wr n0 sb (.slice (some ⟨g, 0, none⟩) s.vars.length cap) tv pv (s.give (f0.params.take k) ((x.args.map s.at).take k))) (fun t65 _ => x.args.length - (intOf t65).toNat)
      case atStart => exact ⟨0, rfl, Nat.zero_le _, Keep.refl _ _, HRr.out⟩
      case round =>
        obtain ⟨k, rfl, hk, hkp, hr⟩ := hrel
        have Hk8 := hid hkp
        have Hr8 := hid hr
        have HO8 : Hid (Old n0 w7 wr) := hid (hkp.mono fun q _ e => by rw [e]; exact Hglo.out)
        have Hgx : Hid (∀ (c : Array Value) (t : TypeId) (b' : Nat), Blk w7 b' c t → t ≠ 50 → Blk wr b' c t) := hid fun c t b' hb hne => hb.keep Hk8.out fun e => by
          obtain ⟨c', hc'⟩ := own_ty HRr.out.vars (k := g) rfl
          exact Blk.ty_ne hb hc' hne e
        clear hkp hr
        by_cases hlt : k < x.args.length
        · have HI8 := hid (IntsR.ints (HIr.out.old HO8.out) HPr.out.hi)
          obtain ⟨yp, rfl⟩ := HI8.out.sm (by have := Hlen.out; omega)
          obtain ⟨q, hq⟩ : ∃ q, q = f0.params.getD k 0 := ⟨_, rfl⟩
          have hqk : f0.params[k]? = some q := by rw [hq]; simp [List.getD_eq_getElem?_getD, show k < f0.params.length by have := Hlen.out; omega]
          have hc := HI8.out.cl yp rfl k (by have := Hlen.out; omega)
          rw [← hq] at hc
          have hqa := HGf.out.params q (List.mem_of_getElem? hqk)
          obtain ⟨Q, rfl⟩ := Int.eq_ofNat_of_zero_le hqa.1
          have hQl : Q < P.vars.length := by omega
          obtain ⟨gl, cl', hal⟩ := own_some Hrow.out (by omega)
          obtain ⟨rfl, rfl⟩ : al = some ⟨gl, 0, none⟩ ∧ cl = cl' := by simpa using hal
          obtain ⟨u, hu⟩ : ∃ u, u = (x.args.map s.at).getD k .none := ⟨_, rfl⟩
          have HUk := hid (at_some (l := x.args.map s.at) (n := k) (by simpa using hlt))
          rw [← hu] at HUk
          have Hro8 := hid (row_keep Hrow.out Hk8.out fun i hi e => by
            have := (World.ownsRow.lt Hrow.out i hi).1
            have := Hgb.out.1
            omega)
          have d0 := Hr8.out.blk.kc (X := fun _ => False) (fun e => e) 0 rfl
          have v0 : ∀ w1, Keep (fun _ => False) wr w1 → w1.cell? ⟨gl, k * 2, none⟩ = some (.string u.kind) := fun w1 k => (own_v (own_ext Hro8.out k.ext) HUk.out).1
          have v1 : ∀ w1, Keep (fun _ => False) wr w1 → w1.cell? ⟨gl, k * 2 + 1, none⟩ = some (.int .i64 (u.num : Int)) := fun w1 k => (own_v (own_ext Hro8.out k.ext) HUk.out).2
          simp only [List.getElem_toArray, List.getElem_cons_zero, List.getElem_cons_succ] at d0
          obtain ⟨s8, hs8⟩ : ∃ s8, s8 = s.give (f0.params.take k) ((x.args.map s.at).take k) := ⟨_, rfl⟩
          have Hnext : Hid (s.give (f0.params.take (k + 1)) ((x.args.map s.at).take (k + 1)) = { s8 with vars := s8.vars.set Q u }) := hid (by
            rw [Rn.give_snoc _ _ _ _ _ _ hqk HUk.out, ← hs8]; rfl)
          have HQ : Hid (Q < s8.vars.length) := hid (by rw [hs8, Rn.give_len]; omega)
          rw [← hs8] at Hr8
          clear hq hqk hqa hu hs8 HI8 HPr hal
          go_wp2
          refine wp_flowT (fun _ => False) (by kernel_rfl) (by kernel_rfl) ?_
          repeat (apply FlowT.d; (intro w1 hk; unfold does; go_simp; (try go_ints); (first | exact DetR.mk | (simp only [↓IntWalk.iteOmega, Oper.doesUpon_value]; exact DetR.mk) | (simp only [↓IntWalk.iteOmega]; go_simp; (try go_ints); exact DetR.mk))); simp only [Act.put, List.setIfInBounds_toArray, List.set_cons_zero, List.set_cons_succ])
          refine FlowT.last (fun _ w' => ∃ w2, Ext wr w2 ∧ w' = store2 w2 g (Q * 2) u) 10 rfl (by kernel_rfl) (by kernel_rfl) (fun w2 hx hk => ?_) (fun _ w4 hR4 => ?_)
          · have hV := (Hr8.out.ext hx).vn
            obtain ⟨q0, q1⟩ := own_v hV (at_some HQ.out)
            have f0 := own_free hV (Q * 2)
            have f1 := own_free hV (Q * 2 + 1)
            unfold does
            go_simp
            exact ⟨w2, hx, rfl⟩
          obtain ⟨w2, hx2, rfl⟩ := hR4
          simp only [Act.put]
          have HR9 := hid ((Hr8.out.ext hx2).putV Q HQ.out u)
          have Hk9 := hid ((Hk8.out.trans (hx2.keep _)).trans (store2_keep w2 g (Q * 2) u))
          clear hx2
          go_wp2
          go_roundw
          case rel => exact ⟨k + 1, by go_num, by omega, Hk9.out, by rw [Hnext.out]; exact HR9.out⟩
          case measure => simp [intOf]; omega
        · obtain rfl : k = x.args.length := by omega
          have hfp : f0.params.take x.args.length = f0.params := by rw [← Hlen.out, List.take_of_length_le (Nat.le_refl _)]
          have hfm : (x.args.map s.at).take x.args.length = x.args.map s.at := by rw [List.take_of_length_le (by simp)]
          rw [hfp, hfm] at Hr8
          obtain ⟨s8, hs8⟩ : ∃ s8, s8 = s.give f0.params (x.args.map s.at) := ⟨_, rfl⟩
          have Hs8 := hid hs8
          have HX8 : Hid (X < s8.vars.length) := hid (by rw [hs8, Rn.give_len]; exact HX.out)
          obtain ⟨Rr, hRr⟩ := Int.eq_ofNat_of_zero_le HGf.out.ret.1
          have HRl : Hid (Rr < s8.vars.length) := hid (by rw [hs8, Rn.give_len]; have := HGf.out.ret.2; omega)
          have hRl : Rr < P.vars.length := by have := HGf.out.ret.2; omega
          obtain ⟨u, hu⟩ : ∃ u, u = s8.vars.getD Rr .none := ⟨_, rfl⟩
          have HUr := hid (at_some HRl.out)
          rw [← hu] at HUr
          have HE : Hid (s.callF x f0 = { s8 with vars := s8.vars.set X u }) := hid (by
            unfold Rn.callF
            rw [if_pos Hlen.out, ← hs8]
            simp only [Rn.set, Rn.at, hRr, HXe.out, hu, Int.toNat_natCast])
          rw [← hs8] at Hr8
          have d0 := Hr8.out.blk.kc (X := fun _ => False) (fun e => e) 0 rfl
          have b2 := (Hgx.out _ _ _ HB7r.out (by decide)).kc (X := fun _ => False) (fun e => e) 2 rfl
          have m1 := (Hgx.out _ _ _ HB2r.out (by decide)).kc (X := fun _ => False) (fun e => e) 1 rfl
          have v0 : ∀ w1, Keep (fun _ => False) wr w1 → w1.cell? ⟨g, Rr * 2, none⟩ = some (.string u.kind) := fun w1 k => (own_v (Hr8.out.ext k.ext).vn HUr.out).1
          have v1 : ∀ w1, Keep (fun _ => False) wr w1 → w1.cell? ⟨g, Rr * 2 + 1, none⟩ = some (.int .i64 (u.num : Int)) := fun w1 k => (own_v (Hr8.out.ext k.ext).vn HUr.out).2
          simp only [scells, List.getElem_toArray, List.getElem_cons_zero, List.getElem_cons_succ] at d0 b2 m1
          rw [hRr] at b2
          rw [HXe.out] at m1
          have HOx : Hid (Old n0 w wr) := hid ((HWr.out.old n0).trans HO8.out)
          have hXl : X < P.vars.length := by have := HX.out; omega
          clear hfp hfm hs8 hRr hu hlt
          go_wp2
          refine wp_flowT (fun _ => False) (by kernel_rfl) (by kernel_rfl) ?_
          repeat (apply FlowT.d; (intro w1 hk; unfold does; go_simp; (try go_ints); (first | exact DetR.mk | (simp only [↓IntWalk.iteOmega, Oper.doesUpon_value]; exact DetR.mk) | (simp only [↓IntWalk.iteOmega]; go_simp; (try go_ints); exact DetR.mk))); simp only [Act.put, List.setIfInBounds_toArray, List.set_cons_zero, List.set_cons_succ])
          refine FlowT.last (fun _ w' => ∃ w2, Ext wr w2 ∧ w' = store2 w2 g (X * 2) u) 15 rfl (by kernel_rfl) (by kernel_rfl) (fun w2 hx hk => ?_) (fun _ w4 hR4 => ?_)
          · have hV := (Hr8.out.ext hx).vn
            obtain ⟨q0, q1⟩ := own_v hV (at_some HX8.out)
            have f0 := own_free hV (X * 2)
            have f1 := own_free hV (X * 2 + 1)
            unfold does
            go_simp
            exact ⟨w2, hx, rfl⟩
          obtain ⟨w2, hx2, rfl⟩ := hR4
          simp only [Act.put]
          have HR9 := hid ((Hr8.out.ext hx2).putV X HX8.out u)
          have HO := hid ((HOx.out.trans (hx2.old n0)).trans (store2_old (y := u) (i := X * 2) Hglo.out))
          clear hx2
          go_wp2
          go_end0
          exact ⟨rfl, ⟨_, _, _, by rw [HE.out]; exact HR9.out⟩, HO.out⟩
end Go.Proofs.YtkabgmohgjljkaaGreatDoor
