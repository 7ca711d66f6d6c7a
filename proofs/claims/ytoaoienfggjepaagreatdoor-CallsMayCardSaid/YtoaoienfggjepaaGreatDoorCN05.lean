/- Texts of one proof, put together: UV UW. -/
import Derived.Test.YtoaoienfggjepaaGreatDoorCN03
import Derived.Test.YtoaoienfggjepaaGreatDoorCN04

/- Runs: what a statement does: load and store. -/
namespace Go.Proofs.YtoaoienfggjepaaGreatDoor
set_option linter.unusedSimpArgs false
set_option linter.unusedVariables false
open Go Go.RowKit


set_option maxRecDepth 100000 in
set_option maxHeartbeats 12800000 in
theorem stdo_load (a1 a2 a3 : Option Addr) (c1 c2 c3 : Nat) (P : PP) (k : Nat) (x : PS) (hxk : P.stmts[k]? = some x) (hg : P.Good x) (hkx : x.isK kLoad = true)  (s : Rn) (hs : s.Ok P) (w : World) (n0 sb : Nat) (vv tv pv : Value) (hR : RnAt w n0 sb vv tv pv s) (hP : ProgR w n0 (.slice a1 P.vars.length c1) (.slice a2 P.funs.length c2) (.slice a3 P.stmts.length c3) P) (hn0 : n0 ≤ w.heap.size) (hsm : s.things.length ≤ 100000) :
    Calls Tryz.prog 70 #[.pointer (some ⟨sb, 0, none⟩), pval a1 a2 a3 c1 c2 c3 P, .int .i64 (k : Int)] w fun e w' => e = .returned (.tuple #[]) ∧ (∃ vv' tv' pv', RnAt w' n0 sb vv' tv' pv' (s.stmt P k x)) ∧ Old n0 w w' := by
  have hk : k < P.stmts.length := by
    rcases Nat.lt_or_ge k P.stmts.length with h | h
    · exact h
    · rw [List.getElem?_eq_none h] at hxk; cases hxk
  have hml := hP.stmts.len
  obtain ⟨W1, hW1⟩ : ∃ W1, W1 = w.alloc (.cells (pcells a1 a2 a3 c1 c2 c3 P) 39) := ⟨_, rfl⟩
  have hx1 : Ext w W1 := by rw [hW1]; exact (Ext.refl _).alloc _
  obtain ⟨y, x', av, cv, rfl, hxk', e0, e1, e2, e3, hI⟩ := (hP.ext hx1).stmts.at hk
  obtain rfl := Option.some.inj (hxk.symm.trans hxk')
  obtain ⟨W2, hW2⟩ : ∃ W2, W2 = W1.alloc (.cells (scells x av cv) 48) := ⟨_, rfl⟩
  have hx2 : Ext W1 W2 := by rw [hW2]; exact (Ext.refl _).alloc _
  have HW2 := hid (hx1.trans hx2)
  have HB1 : Hid (Blk W2 w.heap.size (pcells a1 a2 (some y) c1 c2 c3 P) 39) := hid (by
    have : Blk W1 w.heap.size (pcells a1 a2 (some y) c1 c2 c3 P) 39 := by rw [hW1]; exact Blk.new _ _ _
    exact this.ext hx2)
  have hs1 : W1.heap.size = w.heap.size + 1 := by rw [hW1, heap_size_alloc]
  have HB2 : Hid (Blk W2 (w.heap.size + 1) (scells x av cv) 48) := hid (by
    rw [← hs1, hW2]; exact Blk.new _ _ _)
  have HR2 := hid (hR.ext HW2.out)
  have HP2 := hid (hP.ext HW2.out)
  have HI := hid (hI.old (hx2.old n0))
  have Hs := hid hs
  have Hg := hid hg
  have Hn0 := hid hn0
  have hgx := hg.gx
  rw [hW1] at e0 e1 e2 e3
  have HW2e : Hid (W2 = (w.alloc (.cells #[.slice a1 P.vars.length c1, .slice a2 P.funs.length c2, .slice (some y) P.stmts.length c3] 39)).alloc (.cells #[.string x.kind, .int .i64 x.x, .int .i64 x.y, .slice av x.args.length cv] 48)) := hid (by rw [hW2, hW1]; rfl)
  unfold pcells at e0 e1 e2 e3
  obtain ⟨X, hX⟩ := Int.eq_ofNat_of_zero_le hgx.1
  have HX : Hid (X < s.vars.length) := hid (by rw [hs.lv]; omega)
  have HXe := hid hX
  have hXl := HX.out
  obtain ⟨g, cap, hvv⟩ := own_some hR.vars (by have := HX.out; omega)
  subst hvv
  have hnv : s.vars.length = P.vars.length := hs.lv
  have d0 := HR2.out.blk.kc (X := fun _ => False) (fun e => e) 0 rfl
  have d1 := HR2.out.blk.kc (X := fun _ => False) (fun e => e) 1 rfl
  have d2 := HR2.out.blk.kc (X := fun _ => False) (fun e => e) 2 rfl
  have m1 := HB2.out.kc (X := fun _ => False) (fun e => e) 1 rfl
  have m2 := HB2.out.kc (X := fun _ => False) (fun e => e) 2 rfl
  have m3 := HB2.out.kc (X := fun _ => False) (fun e => e) 3 rfl
  simp only [scells, List.getElem_toArray, List.getElem_cons_zero, List.getElem_cons_succ] at d0 d1 d2 m1 m2 m3
  rw [hX] at m1
  have hsbl := hR.blk.lt
  have Hkx := hid hkx
  have hkk := hkx
  unfold PS.isK kLoad at hkk
  clear hxk hxk' hW1 hW2 hx1 hx2 hs1 hR hP hI hs hg hX hgx hkx hn0
  unfold pval
  have hf : x.isK kFun = false := isK_ne Hkx.out rfl
  have hn : x.isK kNew = false := isK_ne Hkx.out rfl
  have h1 : (x.kind.toList == [97, 100, 100, 114]) = false := isK_ne Hkx.out (k' := kAddr) rfl
  have h2 : (x.kind.toList == [99, 111, 112, 121]) = false := isK_ne Hkx.out (k' := kCopy) rfl
  have hyv := Hg.out.yv hf hn
  obtain ⟨Y, hY⟩ := Int.eq_ofNat_of_zero_le hyv.1
  have HYl : Hid (Y < s.vars.length) := hid (by rw [hnv]; omega)
  have HY := hid hY
  rw [hY] at m2
  obtain ⟨v, hv⟩ : ∃ v, v = s.vars.getD Y .none := ⟨_, rfl⟩
  have HVy := hid (at_some HYl.out)
  rw [← hv] at HVy
  have HVat : Hid (s.at x.y = v) := hid (by unfold Rn.at; rw [hY, hv]; rfl)
  clear hY hyv hv
  have v0 : ∀ w1, Keep (fun _ => False) W2 w1 → w1.cell? ⟨g, Y * 2, none⟩ = some (.string v.kind) := fun w1 k => (own_v (HR2.out.ext k.ext).vars HVy.out).1
  have v1 : ∀ w1, Keep (fun _ => False) W2 w1 → w1.cell? ⟨g, Y * 2 + 1, none⟩ = some (.int .i64 (v.num : Int)) := fun w1 k => (own_v (HR2.out.ext k.ext).vars HVy.out).2
  have hYl := HYl.out
  clear hf hn
  have HIn : Hid (v.In s.vars.length s.things.length P.funs.length) := hid (by rw [hnv, ← HVat.out]; exact Hs.out.at _)
  have HC := fun w1 (k : Keep (fun _ => False) W2 w1) => hid (stcell_any v s P.funs.length w1 n0 sb _ _ _ (HR2.out.ext k.ext) HIn.out)
  cases v with
  | none =>
    simp only [Vl.kind, Vl.num, Vl.ptr] at v0 v1 HC
    go_enter Tryz.func70, Tryz.ntmps70
    go_wp2
    rw [← HW2e.out]
    refine wp_flowT (fun _ => False) (by kernel_rfl) (by kernel_rfl) ?_
    repeat (apply FlowT.d; (intro w1 hk; unfold does; go_simp; (try go_ints); (first | exact DetR.mk | (simp only [↓IntWalk.iteOmega, Oper.doesUpon_value]; exact DetR.mk) | (simp only [↓IntWalk.iteOmega]; go_simp; (try go_ints); exact DetR.mk))); simp only [Act.put, List.setIfInBounds_toArray, List.set_cons_zero, List.set_cons_succ])
    apply FlowT.d
    · intro w1 hk
      unfold does
      go_simp
      exact CallR.det ((HC w1 hk).out)
    simp only [Act.put, List.setIfInBounds_toArray, List.set_cons_zero, List.set_cons_succ]
    repeat (apply FlowT.d; (intro w1 hk; unfold does; go_simp; (try go_ints); (first | exact DetR.mk | (simp only [↓IntWalk.iteOmega, Oper.doesUpon_value]; exact DetR.mk) | (simp only [↓IntWalk.iteOmega]; go_simp; (try go_ints); exact DetR.mk))); simp only [Act.put, List.setIfInBounds_toArray, List.set_cons_zero, List.set_cons_succ])
    refine FlowT.fin fun w3 hx3 hk3 => ?_
    have HR3 := hid (HR2.out.ext hx3)
    have HW3 := hid (HW2.out.trans hx3)
    replace d0 := fun w1 (k : Keep (fun _ => False) w3 w1) => d0 w1 ((hx3.keep _).trans k)
    replace m1 := fun w1 (k : Keep (fun _ => False) w3 w1) => m1 w1 ((hx3.keep _).trans k)
    replace m2 := fun w1 (k : Keep (fun _ => False) w3 w1) => m2 w1 ((hx3.keep _).trans k)
    have HS : Hid (s.stmt P k x = s) := hid (by
      unfold Rn.stmt; rw [isK_ne Hkx.out (k' := kAddr) rfl, isK_ne Hkx.out (k' := kCopy) rfl, Hkx.out]; simp only [cond_true, cond_false, HVat.out, Vl.isAddr]
      )
    clear HC hx3 hk3
    go_wp2
    go_end0
    exact ⟨rfl, ⟨_, _, _, by rw [HS.out]; exact HR3.out⟩, HW3.out.old n0⟩
  | fn n =>
    simp only [Vl.kind, Vl.num, Vl.ptr] at v0 v1 HC
    go_enter Tryz.func70, Tryz.ntmps70
    go_wp2
    rw [← HW2e.out]
    refine wp_flowT (fun _ => False) (by kernel_rfl) (by kernel_rfl) ?_
    repeat (apply FlowT.d; (intro w1 hk; unfold does; go_simp; (try go_ints); (first | exact DetR.mk | (simp only [↓IntWalk.iteOmega, Oper.doesUpon_value]; exact DetR.mk) | (simp only [↓IntWalk.iteOmega]; go_simp; (try go_ints); exact DetR.mk))); simp only [Act.put, List.setIfInBounds_toArray, List.set_cons_zero, List.set_cons_succ])
    apply FlowT.d
    · intro w1 hk
      unfold does
      go_simp
      exact CallR.det ((HC w1 hk).out)
    simp only [Act.put, List.setIfInBounds_toArray, List.set_cons_zero, List.set_cons_succ]
    repeat (apply FlowT.d; (intro w1 hk; unfold does; go_simp; (try go_ints); (first | exact DetR.mk | (simp only [↓IntWalk.iteOmega, Oper.doesUpon_value]; exact DetR.mk) | (simp only [↓IntWalk.iteOmega]; go_simp; (try go_ints); exact DetR.mk))); simp only [Act.put, List.setIfInBounds_toArray, List.set_cons_zero, List.set_cons_succ])
    refine FlowT.fin fun w3 hx3 hk3 => ?_
    have HR3 := hid (HR2.out.ext hx3)
    have HW3 := hid (HW2.out.trans hx3)
    replace d0 := fun w1 (k : Keep (fun _ => False) w3 w1) => d0 w1 ((hx3.keep _).trans k)
    replace m1 := fun w1 (k : Keep (fun _ => False) w3 w1) => m1 w1 ((hx3.keep _).trans k)
    replace m2 := fun w1 (k : Keep (fun _ => False) w3 w1) => m2 w1 ((hx3.keep _).trans k)
    have HS : Hid (s.stmt P k x = s) := hid (by
      unfold Rn.stmt; rw [isK_ne Hkx.out (k' := kAddr) rfl, isK_ne Hkx.out (k' := kCopy) rfl, Hkx.out]; simp only [cond_true, cond_false, HVat.out, Vl.isAddr]
      )
    clear HC hx3 hk3
    go_wp2
    go_end0
    exact ⟨rfl, ⟨_, _, _, by rw [HS.out]; exact HR3.out⟩, HW3.out.old n0⟩
  | var n =>
    have hn : n < s.vars.length := HIn.out
    obtain ⟨u, hu⟩ : ∃ u, u = s.vars.getD n .none := ⟨_, rfl⟩
    have HU := hid hu
    have HUn := hid (at_some hn)
    rw [← hu] at HUn
    clear hu
    simp only [Vl.kind, Vl.num, Vl.ptr, Value.ownBlock, Option.map_some] at v0 v1 HC
    go_enter Tryz.func70, Tryz.ntmps70
    go_wp2
    rw [← HW2e.out]
    refine wp_flowT (fun _ => False) (by kernel_rfl) (by kernel_rfl) ?_
    repeat (apply FlowT.d; (intro w1 hk; unfold does; go_simp; (try go_ints); (first | exact DetR.mk | (simp only [↓IntWalk.iteOmega, Oper.doesUpon_value]; exact DetR.mk) | (simp only [↓IntWalk.iteOmega]; go_simp; (try go_ints); exact DetR.mk))); simp only [Act.put, List.setIfInBounds_toArray, List.set_cons_zero, List.set_cons_succ])
    apply FlowT.d
    · intro w1 hk
      unfold does
      go_simp
      exact CallR.det ((HC w1 hk).out)
    simp only [Act.put, List.setIfInBounds_toArray, List.set_cons_zero, List.set_cons_succ]
    repeat (apply FlowT.d; (intro w1 hk; unfold does; go_simp; (try go_ints); (first | exact DetR.mk | (simp only [↓IntWalk.iteOmega, Oper.doesUpon_value]; exact DetR.mk) | (simp only [↓IntWalk.iteOmega]; go_simp; (try go_ints); exact DetR.mk))); simp only [Act.put, List.setIfInBounds_toArray, List.set_cons_zero, List.set_cons_succ])
    refine FlowT.fin fun w3 hx3 hk3 => ?_
    have HR3 := hid (HR2.out.ext hx3)
    have HW3 := hid (HW2.out.trans hx3)
    replace d0 := fun w1 (k : Keep (fun _ => False) w3 w1) => d0 w1 ((hx3.keep _).trans k)
    replace m1 := fun w1 (k : Keep (fun _ => False) w3 w1) => m1 w1 ((hx3.keep _).trans k)
    replace m2 := fun w1 (k : Keep (fun _ => False) w3 w1) => m2 w1 ((hx3.keep _).trans k)
    have u0 : ∀ w1, Keep (fun _ => False) w3 w1 → w1.cell? ⟨g, n * 2, none⟩ = some (.string u.kind) := fun w1 k => (own_v (HR3.out.ext k.ext).vars HUn.out).1
    have u1 : ∀ w1, Keep (fun _ => False) w3 w1 → w1.cell? ⟨g, n * 2 + 1, none⟩ = some (.int .i64 (u.num : Int)) := fun w1 k => (own_v (HR3.out.ext k.ext).vars HUn.out).2
    clear HC hx3 hk3 v0 v1
    have HE : Hid (s.stmt P k x = { s with vars := s.vars.set X u }) := hid (by
      unfold Rn.stmt; rw [isK_ne Hkx.out (k' := kAddr) rfl, isK_ne Hkx.out (k' := kCopy) rfl, Hkx.out]; simp only [cond_true, cond_false, HVat.out, Vl.isAddr, Rn.get, Rn.set, HXe.out, Int.toNat_natCast, ← HU.out]
      )
    go_wp2
    refine wp_flowT (fun _ => False) (by kernel_rfl) (by kernel_rfl) ?_
    repeat (apply FlowT.d; (intro w1 hk; unfold does; go_simp; (try go_ints); (first | exact DetR.mk | (simp only [↓IntWalk.iteOmega, Oper.doesUpon_value]; exact DetR.mk) | (simp only [↓IntWalk.iteOmega]; go_simp; (try go_ints); exact DetR.mk))); simp only [Act.put, List.setIfInBounds_toArray, List.set_cons_zero, List.set_cons_succ])
    refine FlowT.last (fun _ w' => ∃ w2, Ext w3 w2 ∧ w' = store2 w2 g (X * 2) u) 10 rfl (by kernel_rfl) (by kernel_rfl) (fun w2 hx hk => ?_) (fun _ w4 hR4 => ?_)
    · have hV := ((HR3).out.ext hx).vars
      obtain ⟨q0, q1⟩ := own_v hV (at_some HX.out)
      have f0 := own_free hV (X * 2)
      have f1 := own_free hV (X * 2 + 1)
      unfold does
      go_simp
      exact ⟨w2, hx, rfl⟩
    obtain ⟨w2, hx2, rfl⟩ := hR4
    simp only [Act.put]
    have HS := hid (show s.stmt P k x = { s with vars := s.vars.set X u } by exact HE.out)
    have HR5 := hid (((HR3).out.ext hx2).putV X HX.out u)
    have HO := hid ((((HW3).out.trans hx2).old n0).trans (store2_old (y := u) (i := X * 2) ((HR3).out.vlo (b := g) rfl)))
    clear hx2
    go_wp2
    go_end0
    exact ⟨rfl, ⟨_, _, _, by rw [HS.out]; exact HR5.out⟩, HO.out⟩
  | thing n =>
    have hn : n < s.things.length := HIn.out
    obtain ⟨g2, cap2, htv⟩ := own_some HR2.out.things (by omega)
    subst htv
    obtain ⟨u, hu⟩ : ∃ u, u = s.things.getD n .none := ⟨_, rfl⟩
    have HU := hid hu
    have HUn := hid (at_some hn)
    rw [← hu] at HUn
    clear hu
    simp only [Vl.kind, Vl.num, Vl.ptr, Value.ownBlock, Option.map_some] at v0 v1 HC
    go_enter Tryz.func70, Tryz.ntmps70
    go_wp2
    rw [← HW2e.out]
    refine wp_flowT (fun _ => False) (by kernel_rfl) (by kernel_rfl) ?_
    repeat (apply FlowT.d; (intro w1 hk; unfold does; go_simp; (try go_ints); (first | exact DetR.mk | (simp only [↓IntWalk.iteOmega, Oper.doesUpon_value]; exact DetR.mk) | (simp only [↓IntWalk.iteOmega]; go_simp; (try go_ints); exact DetR.mk))); simp only [Act.put, List.setIfInBounds_toArray, List.set_cons_zero, List.set_cons_succ])
    apply FlowT.d
    · intro w1 hk
      unfold does
      go_simp
      exact CallR.det ((HC w1 hk).out)
    simp only [Act.put, List.setIfInBounds_toArray, List.set_cons_zero, List.set_cons_succ]
    repeat (apply FlowT.d; (intro w1 hk; unfold does; go_simp; (try go_ints); (first | exact DetR.mk | (simp only [↓IntWalk.iteOmega, Oper.doesUpon_value]; exact DetR.mk) | (simp only [↓IntWalk.iteOmega]; go_simp; (try go_ints); exact DetR.mk))); simp only [Act.put, List.setIfInBounds_toArray, List.set_cons_zero, List.set_cons_succ])
    refine FlowT.fin fun w3 hx3 hk3 => ?_
    have HR3 := hid (HR2.out.ext hx3)
    have HW3 := hid (HW2.out.trans hx3)
    replace d0 := fun w1 (k : Keep (fun _ => False) w3 w1) => d0 w1 ((hx3.keep _).trans k)
    replace m1 := fun w1 (k : Keep (fun _ => False) w3 w1) => m1 w1 ((hx3.keep _).trans k)
    replace m2 := fun w1 (k : Keep (fun _ => False) w3 w1) => m2 w1 ((hx3.keep _).trans k)
    have u0 : ∀ w1, Keep (fun _ => False) w3 w1 → w1.cell? ⟨g2, n * 2, none⟩ = some (.string u.kind) := fun w1 k => (own_v (HR3.out.ext k.ext).things HUn.out).1
    have u1 : ∀ w1, Keep (fun _ => False) w3 w1 → w1.cell? ⟨g2, n * 2 + 1, none⟩ = some (.int .i64 (u.num : Int)) := fun w1 k => (own_v (HR3.out.ext k.ext).things HUn.out).2
    clear HC hx3 hk3 v0 v1
    have HE : Hid (s.stmt P k x = { s with vars := s.vars.set X u }) := hid (by
      unfold Rn.stmt; rw [isK_ne Hkx.out (k' := kAddr) rfl, isK_ne Hkx.out (k' := kCopy) rfl, Hkx.out]; simp only [cond_true, cond_false, HVat.out, Vl.isAddr, Rn.get, Rn.set, HXe.out, Int.toNat_natCast, ← HU.out]
      )
    go_wp2
    refine wp_flowT (fun _ => False) (by kernel_rfl) (by kernel_rfl) ?_
    repeat (apply FlowT.d; (intro w1 hk; unfold does; go_simp; (try go_ints); (first | exact DetR.mk | (simp only [↓IntWalk.iteOmega, Oper.doesUpon_value]; exact DetR.mk) | (simp only [↓IntWalk.iteOmega]; go_simp; (try go_ints); exact DetR.mk))); simp only [Act.put, List.setIfInBounds_toArray, List.set_cons_zero, List.set_cons_succ])
    refine FlowT.last (fun _ w' => ∃ w2, Ext w3 w2 ∧ w' = store2 w2 g (X * 2) u) 10 rfl (by kernel_rfl) (by kernel_rfl) (fun w2 hx hk => ?_) (fun _ w4 hR4 => ?_)
    · have hV := ((HR3).out.ext hx).vars
      obtain ⟨q0, q1⟩ := own_v hV (at_some HX.out)
      have f0 := own_free hV (X * 2)
      have f1 := own_free hV (X * 2 + 1)
      unfold does
      go_simp
      exact ⟨w2, hx, rfl⟩
    obtain ⟨w2, hx2, rfl⟩ := hR4
    simp only [Act.put]
    have HS := hid (show s.stmt P k x = { s with vars := s.vars.set X u } by exact HE.out)
    have HR5 := hid (((HR3).out.ext hx2).putV X HX.out u)
    have HO := hid ((((HW3).out.trans hx2).old n0).trans (store2_old (y := u) (i := X * 2) ((HR3).out.vlo (b := g) rfl)))
    clear hx2
    go_wp2
    go_end0
    exact ⟨rfl, ⟨_, _, _, by rw [HS.out]; exact HR5.out⟩, HO.out⟩

set_option maxRecDepth 100000 in
set_option maxHeartbeats 12800000 in
theorem stdo_store (a1 a2 a3 : Option Addr) (c1 c2 c3 : Nat) (P : PP) (k : Nat) (x : PS) (hxk : P.stmts[k]? = some x) (hg : P.Good x) (hkx : x.isK kStore = true)  (s : Rn) (hs : s.Ok P) (w : World) (n0 sb : Nat) (vv tv pv : Value) (hR : RnAt w n0 sb vv tv pv s) (hP : ProgR w n0 (.slice a1 P.vars.length c1) (.slice a2 P.funs.length c2) (.slice a3 P.stmts.length c3) P) (hn0 : n0 ≤ w.heap.size) (hsm : s.things.length ≤ 100000) :
    Calls Tryz.prog 70 #[.pointer (some ⟨sb, 0, none⟩), pval a1 a2 a3 c1 c2 c3 P, .int .i64 (k : Int)] w fun e w' => e = .returned (.tuple #[]) ∧ (∃ vv' tv' pv', RnAt w' n0 sb vv' tv' pv' (s.stmt P k x)) ∧ Old n0 w w' := by
  have hk : k < P.stmts.length := by
    rcases Nat.lt_or_ge k P.stmts.length with h | h
    · exact h
    · rw [List.getElem?_eq_none h] at hxk; cases hxk
  have hml := hP.stmts.len
  obtain ⟨W1, hW1⟩ : ∃ W1, W1 = w.alloc (.cells (pcells a1 a2 a3 c1 c2 c3 P) 39) := ⟨_, rfl⟩
  have hx1 : Ext w W1 := by rw [hW1]; exact (Ext.refl _).alloc _
  obtain ⟨y, x', av, cv, rfl, hxk', e0, e1, e2, e3, hI⟩ := (hP.ext hx1).stmts.at hk
  obtain rfl := Option.some.inj (hxk.symm.trans hxk')
  obtain ⟨W2, hW2⟩ : ∃ W2, W2 = W1.alloc (.cells (scells x av cv) 48) := ⟨_, rfl⟩
  have hx2 : Ext W1 W2 := by rw [hW2]; exact (Ext.refl _).alloc _
  have HW2 := hid (hx1.trans hx2)
  have HB1 : Hid (Blk W2 w.heap.size (pcells a1 a2 (some y) c1 c2 c3 P) 39) := hid (by
    have : Blk W1 w.heap.size (pcells a1 a2 (some y) c1 c2 c3 P) 39 := by rw [hW1]; exact Blk.new _ _ _
    exact this.ext hx2)
  have hs1 : W1.heap.size = w.heap.size + 1 := by rw [hW1, heap_size_alloc]
  have HB2 : Hid (Blk W2 (w.heap.size + 1) (scells x av cv) 48) := hid (by
    rw [← hs1, hW2]; exact Blk.new _ _ _)
  have HR2 := hid (hR.ext HW2.out)
  have HP2 := hid (hP.ext HW2.out)
  have HI := hid (hI.old (hx2.old n0))
  have Hs := hid hs
  have Hg := hid hg
  have Hn0 := hid hn0
  have hgx := hg.gx
  rw [hW1] at e0 e1 e2 e3
  have HW2e : Hid (W2 = (w.alloc (.cells #[.slice a1 P.vars.length c1, .slice a2 P.funs.length c2, .slice (some y) P.stmts.length c3] 39)).alloc (.cells #[.string x.kind, .int .i64 x.x, .int .i64 x.y, .slice av x.args.length cv] 48)) := hid (by rw [hW2, hW1]; rfl)
  unfold pcells at e0 e1 e2 e3
  obtain ⟨X, hX⟩ := Int.eq_ofNat_of_zero_le hgx.1
  have HX : Hid (X < s.vars.length) := hid (by rw [hs.lv]; omega)
  have HXe := hid hX
  have hXl := HX.out
  obtain ⟨g, cap, hvv⟩ := own_some hR.vars (by have := HX.out; omega)
  subst hvv
  have hnv : s.vars.length = P.vars.length := hs.lv
  have d0 := HR2.out.blk.kc (X := fun _ => False) (fun e => e) 0 rfl
  have d1 := HR2.out.blk.kc (X := fun _ => False) (fun e => e) 1 rfl
  have d2 := HR2.out.blk.kc (X := fun _ => False) (fun e => e) 2 rfl
  have m1 := HB2.out.kc (X := fun _ => False) (fun e => e) 1 rfl
  have m2 := HB2.out.kc (X := fun _ => False) (fun e => e) 2 rfl
  have m3 := HB2.out.kc (X := fun _ => False) (fun e => e) 3 rfl
  simp only [scells, List.getElem_toArray, List.getElem_cons_zero, List.getElem_cons_succ] at d0 d1 d2 m1 m2 m3
  rw [hX] at m1
  have hsbl := hR.blk.lt
  have Hkx := hid hkx
  have hkk := hkx
  unfold PS.isK kStore at hkk
  clear hxk hxk' hW1 hW2 hx1 hx2 hs1 hR hP hI hs hg hX hgx hkx hn0
  unfold pval
  have hf : x.isK kFun = false := isK_ne Hkx.out rfl
  have hn : x.isK kNew = false := isK_ne Hkx.out rfl
  have h1 : (x.kind.toList == [97, 100, 100, 114]) = false := isK_ne Hkx.out (k' := kAddr) rfl
  have h2 : (x.kind.toList == [99, 111, 112, 121]) = false := isK_ne Hkx.out (k' := kCopy) rfl
  have h3 : (x.kind.toList == [108, 111, 97, 100]) = false := isK_ne Hkx.out (k' := kLoad) rfl
  have hyv := Hg.out.yv hf hn
  obtain ⟨Y, hY⟩ := Int.eq_ofNat_of_zero_le hyv.1
  have HYl : Hid (Y < s.vars.length) := hid (by rw [hnv]; omega)
  have HY := hid hY
  rw [hY] at m2
  obtain ⟨u, hu⟩ : ∃ u, u = s.vars.getD Y .none := ⟨_, rfl⟩
  have HUy := hid (at_some HYl.out)
  rw [← hu] at HUy
  have HUat : Hid (s.at x.y = u) := hid (by unfold Rn.at; rw [hY, hu]; rfl)
  clear hY hyv hu
  have hYl := HYl.out
  clear hf hn
  obtain ⟨v, hv⟩ : ∃ v, v = s.vars.getD X .none := ⟨_, rfl⟩
  have HVx := hid (at_some HX.out)
  rw [← hv] at HVx
  have HVax : Hid (s.at x.x = v) := hid (by unfold Rn.at; rw [HXe.out, hv]; rfl)
  clear hv
  have x0 : ∀ w1, Keep (fun _ => False) W2 w1 → w1.cell? ⟨g, X * 2, none⟩ = some (.string v.kind) := fun w1 k => (own_v (HR2.out.ext k.ext).vars HVx.out).1
  have x1 : ∀ w1, Keep (fun _ => False) W2 w1 → w1.cell? ⟨g, X * 2 + 1, none⟩ = some (.int .i64 (v.num : Int)) := fun w1 k => (own_v (HR2.out.ext k.ext).vars HVx.out).2
  have HIn : Hid (v.In s.vars.length s.things.length P.funs.length) := hid (by rw [hnv, ← HVax.out]; exact Hs.out.at _)
  have HC := fun w1 (k : Keep (fun _ => False) W2 w1) => hid (stcell_any v s P.funs.length w1 n0 sb _ _ _ (HR2.out.ext k.ext) HIn.out)
  cases v with
  | none =>
    simp only [Vl.kind, Vl.num, Vl.ptr] at x0 x1 HC
    go_enter Tryz.func70, Tryz.ntmps70
    go_wp2
    rw [← HW2e.out]
    refine wp_flowT (fun _ => False) (by kernel_rfl) (by kernel_rfl) ?_
    repeat (apply FlowT.d; (intro w1 hk; unfold does; go_simp; (try go_ints); (first | exact DetR.mk | (simp only [↓IntWalk.iteOmega, Oper.doesUpon_value]; exact DetR.mk) | (simp only [↓IntWalk.iteOmega]; go_simp; (try go_ints); exact DetR.mk))); simp only [Act.put, List.setIfInBounds_toArray, List.set_cons_zero, List.set_cons_succ])
    apply FlowT.d
    · intro w1 hk
      unfold does
      go_simp
      exact CallR.det ((HC w1 hk).out)
    simp only [Act.put, List.setIfInBounds_toArray, List.set_cons_zero, List.set_cons_succ]
    repeat (apply FlowT.d; (intro w1 hk; unfold does; go_simp; (try go_ints); (first | exact DetR.mk | (simp only [↓IntWalk.iteOmega, Oper.doesUpon_value]; exact DetR.mk) | (simp only [↓IntWalk.iteOmega]; go_simp; (try go_ints); exact DetR.mk))); simp only [Act.put, List.setIfInBounds_toArray, List.set_cons_zero, List.set_cons_succ])
    refine FlowT.fin fun w3 hx3 hk3 => ?_
    have HR3 := hid (HR2.out.ext hx3)
    have HW3 := hid (HW2.out.trans hx3)
    replace d0 := fun w1 (k : Keep (fun _ => False) w3 w1) => d0 w1 ((hx3.keep _).trans k)
    replace m1 := fun w1 (k : Keep (fun _ => False) w3 w1) => m1 w1 ((hx3.keep _).trans k)
    replace m2 := fun w1 (k : Keep (fun _ => False) w3 w1) => m2 w1 ((hx3.keep _).trans k)
    have HS : Hid (s.stmt P k x = s) := hid (by
      unfold Rn.stmt; rw [isK_ne Hkx.out (k' := kAddr) rfl, isK_ne Hkx.out (k' := kCopy) rfl, isK_ne Hkx.out (k' := kLoad) rfl, Hkx.out]; simp only [cond_true, cond_false, HVax.out, HUat.out, Rn.put]
      )
    clear HC hx3 hk3
    go_wp2
    go_end0
    exact ⟨rfl, ⟨_, _, _, by rw [HS.out]; exact HR3.out⟩, HW3.out.old n0⟩
  | fn n =>
    simp only [Vl.kind, Vl.num, Vl.ptr] at x0 x1 HC
    go_enter Tryz.func70, Tryz.ntmps70
    go_wp2
    rw [← HW2e.out]
    refine wp_flowT (fun _ => False) (by kernel_rfl) (by kernel_rfl) ?_
    repeat (apply FlowT.d; (intro w1 hk; unfold does; go_simp; (try go_ints); (first | exact DetR.mk | (simp only [↓IntWalk.iteOmega, Oper.doesUpon_value]; exact DetR.mk) | (simp only [↓IntWalk.iteOmega]; go_simp; (try go_ints); exact DetR.mk))); simp only [Act.put, List.setIfInBounds_toArray, List.set_cons_zero, List.set_cons_succ])
    apply FlowT.d
    · intro w1 hk
      unfold does
      go_simp
      exact CallR.det ((HC w1 hk).out)
    simp only [Act.put, List.setIfInBounds_toArray, List.set_cons_zero, List.set_cons_succ]
    repeat (apply FlowT.d; (intro w1 hk; unfold does; go_simp; (try go_ints); (first | exact DetR.mk | (simp only [↓IntWalk.iteOmega, Oper.doesUpon_value]; exact DetR.mk) | (simp only [↓IntWalk.iteOmega]; go_simp; (try go_ints); exact DetR.mk))); simp only [Act.put, List.setIfInBounds_toArray, List.set_cons_zero, List.set_cons_succ])
    refine FlowT.fin fun w3 hx3 hk3 => ?_
    have HR3 := hid (HR2.out.ext hx3)
    have HW3 := hid (HW2.out.trans hx3)
    replace d0 := fun w1 (k : Keep (fun _ => False) w3 w1) => d0 w1 ((hx3.keep _).trans k)
    replace m1 := fun w1 (k : Keep (fun _ => False) w3 w1) => m1 w1 ((hx3.keep _).trans k)
    replace m2 := fun w1 (k : Keep (fun _ => False) w3 w1) => m2 w1 ((hx3.keep _).trans k)
    have HS : Hid (s.stmt P k x = s) := hid (by
      unfold Rn.stmt; rw [isK_ne Hkx.out (k' := kAddr) rfl, isK_ne Hkx.out (k' := kCopy) rfl, isK_ne Hkx.out (k' := kLoad) rfl, Hkx.out]; simp only [cond_true, cond_false, HVax.out, HUat.out, Rn.put]
      )
    clear HC hx3 hk3
    go_wp2
    go_end0
    exact ⟨rfl, ⟨_, _, _, by rw [HS.out]; exact HR3.out⟩, HW3.out.old n0⟩
  | var n =>
    have hn : n < s.vars.length := HIn.out
    simp only [Vl.kind, Vl.num, Vl.ptr, Value.ownBlock, Option.map_some] at x0 x1 HC
    go_enter Tryz.func70, Tryz.ntmps70
    go_wp2
    rw [← HW2e.out]
    refine wp_flowT (fun _ => False) (by kernel_rfl) (by kernel_rfl) ?_
    repeat (apply FlowT.d; (intro w1 hk; unfold does; go_simp; (try go_ints); (first | exact DetR.mk | (simp only [↓IntWalk.iteOmega, Oper.doesUpon_value]; exact DetR.mk) | (simp only [↓IntWalk.iteOmega]; go_simp; (try go_ints); exact DetR.mk))); simp only [Act.put, List.setIfInBounds_toArray, List.set_cons_zero, List.set_cons_succ])
    apply FlowT.d
    · intro w1 hk
      unfold does
      go_simp
      exact CallR.det ((HC w1 hk).out)
    simp only [Act.put, List.setIfInBounds_toArray, List.set_cons_zero, List.set_cons_succ]
    repeat (apply FlowT.d; (intro w1 hk; unfold does; go_simp; (try go_ints); (first | exact DetR.mk | (simp only [↓IntWalk.iteOmega, Oper.doesUpon_value]; exact DetR.mk) | (simp only [↓IntWalk.iteOmega]; go_simp; (try go_ints); exact DetR.mk))); simp only [Act.put, List.setIfInBounds_toArray, List.set_cons_zero, List.set_cons_succ])
    refine FlowT.fin fun w3 hx3 hk3 => ?_
    have HR3 := hid (HR2.out.ext hx3)
    have HW3 := hid (HW2.out.trans hx3)
    replace d0 := fun w1 (k : Keep (fun _ => False) w3 w1) => d0 w1 ((hx3.keep _).trans k)
    replace m1 := fun w1 (k : Keep (fun _ => False) w3 w1) => m1 w1 ((hx3.keep _).trans k)
    replace m2 := fun w1 (k : Keep (fun _ => False) w3 w1) => m2 w1 ((hx3.keep _).trans k)
    have u0 : ∀ w1, Keep (fun _ => False) w3 w1 → w1.cell? ⟨g, Y * 2, none⟩ = some (.string u.kind) := fun w1 k => (own_v (HR3.out.ext k.ext).vars HUy.out).1
    have u1 : ∀ w1, Keep (fun _ => False) w3 w1 → w1.cell? ⟨g, Y * 2 + 1, none⟩ = some (.int .i64 (u.num : Int)) := fun w1 k => (own_v (HR3.out.ext k.ext).vars HUy.out).2
    clear HC hx3 hk3 x0 x1
    have HE : Hid (s.stmt P k x = { s with vars := s.vars.set n u }) := hid (by
      unfold Rn.stmt; rw [isK_ne Hkx.out (k' := kAddr) rfl, isK_ne Hkx.out (k' := kCopy) rfl, isK_ne Hkx.out (k' := kLoad) rfl, Hkx.out]; simp only [cond_true, cond_false, HVax.out, HUat.out, Rn.put]
      )
    go_wp2
    refine wp_flowT (fun _ => False) (by kernel_rfl) (by kernel_rfl) ?_
    repeat (apply FlowT.d; (intro w1 hk; unfold does; go_simp; (try go_ints); (first | exact DetR.mk | (simp only [↓IntWalk.iteOmega, Oper.doesUpon_value]; exact DetR.mk) | (simp only [↓IntWalk.iteOmega]; go_simp; (try go_ints); exact DetR.mk))); simp only [Act.put, List.setIfInBounds_toArray, List.set_cons_zero, List.set_cons_succ])
    refine FlowT.last (fun _ w' => ∃ w2, Ext w3 w2 ∧ w' = store2 w2 g (n * 2) u) 10 rfl (by kernel_rfl) (by kernel_rfl) (fun w2 hx hk => ?_) (fun _ w4 hR4 => ?_)
    · have hV := ((HR3).out.ext hx).vars
      obtain ⟨q0, q1⟩ := own_v hV (at_some hn)
      have f0 := own_free hV (n * 2)
      have f1 := own_free hV (n * 2 + 1)
      unfold does
      go_simp
      exact ⟨w2, hx, rfl⟩
    obtain ⟨w2, hx2, rfl⟩ := hR4
    simp only [Act.put]
    have HS := hid (show s.stmt P k x = { s with vars := s.vars.set n u } by exact HE.out)
    have HR5 := hid (((HR3).out.ext hx2).putV n hn u)
    have HO := hid ((((HW3).out.trans hx2).old n0).trans (store2_old (y := u) (i := n * 2) (HR3.out.vlo (b := g) rfl)))
    clear hx2
    go_wp2
    go_end0
    exact ⟨rfl, ⟨_, _, _, by rw [HS.out]; exact HR5.out⟩, HO.out⟩
  | thing n =>
    have hn : n < s.things.length := HIn.out
    obtain ⟨g2, cap2, htv⟩ := own_some HR2.out.things (by omega)
    subst htv
    simp only [Vl.kind, Vl.num, Vl.ptr, Value.ownBlock, Option.map_some] at x0 x1 HC
    go_enter Tryz.func70, Tryz.ntmps70
    go_wp2
    rw [← HW2e.out]
    refine wp_flowT (fun _ => False) (by kernel_rfl) (by kernel_rfl) ?_
    repeat (apply FlowT.d; (intro w1 hk; unfold does; go_simp; (try go_ints); (first | exact DetR.mk | (simp only [↓IntWalk.iteOmega, Oper.doesUpon_value]; exact DetR.mk) | (simp only [↓IntWalk.iteOmega]; go_simp; (try go_ints); exact DetR.mk))); simp only [Act.put, List.setIfInBounds_toArray, List.set_cons_zero, List.set_cons_succ])
    apply FlowT.d
    · intro w1 hk
      unfold does
      go_simp
      exact CallR.det ((HC w1 hk).out)
    simp only [Act.put, List.setIfInBounds_toArray, List.set_cons_zero, List.set_cons_succ]
    repeat (apply FlowT.d; (intro w1 hk; unfold does; go_simp; (try go_ints); (first | exact DetR.mk | (simp only [↓IntWalk.iteOmega, Oper.doesUpon_value]; exact DetR.mk) | (simp only [↓IntWalk.iteOmega]; go_simp; (try go_ints); exact DetR.mk))); simp only [Act.put, List.setIfInBounds_toArray, List.set_cons_zero, List.set_cons_succ])
    refine FlowT.fin fun w3 hx3 hk3 => ?_
    have HR3 := hid (HR2.out.ext hx3)
    have HW3 := hid (HW2.out.trans hx3)
    replace d0 := fun w1 (k : Keep (fun _ => False) w3 w1) => d0 w1 ((hx3.keep _).trans k)
    replace m1 := fun w1 (k : Keep (fun _ => False) w3 w1) => m1 w1 ((hx3.keep _).trans k)
    replace m2 := fun w1 (k : Keep (fun _ => False) w3 w1) => m2 w1 ((hx3.keep _).trans k)
    have u0 : ∀ w1, Keep (fun _ => False) w3 w1 → w1.cell? ⟨g, Y * 2, none⟩ = some (.string u.kind) := fun w1 k => (own_v (HR3.out.ext k.ext).vars HUy.out).1
    have u1 : ∀ w1, Keep (fun _ => False) w3 w1 → w1.cell? ⟨g, Y * 2 + 1, none⟩ = some (.int .i64 (u.num : Int)) := fun w1 k => (own_v (HR3.out.ext k.ext).vars HUy.out).2
    clear HC hx3 hk3 x0 x1
    have HE : Hid (s.stmt P k x = { s with things := s.things.set n u }) := hid (by
      unfold Rn.stmt; rw [isK_ne Hkx.out (k' := kAddr) rfl, isK_ne Hkx.out (k' := kCopy) rfl, isK_ne Hkx.out (k' := kLoad) rfl, Hkx.out]; simp only [cond_true, cond_false, HVax.out, HUat.out, Rn.put]
      )
    go_wp2
    refine wp_flowT (fun _ => False) (by kernel_rfl) (by kernel_rfl) ?_
    repeat (apply FlowT.d; (intro w1 hk; unfold does; go_simp; (try go_ints); (first | exact DetR.mk | (simp only [↓IntWalk.iteOmega, Oper.doesUpon_value]; exact DetR.mk) | (simp only [↓IntWalk.iteOmega]; go_simp; (try go_ints); exact DetR.mk))); simp only [Act.put, List.setIfInBounds_toArray, List.set_cons_zero, List.set_cons_succ])
    refine FlowT.last (fun _ w' => ∃ w2, Ext w3 w2 ∧ w' = store2 w2 g2 (n * 2) u) 10 rfl (by kernel_rfl) (by kernel_rfl) (fun w2 hx hk => ?_) (fun _ w4 hR4 => ?_)
    · have hV := ((HR3).out.ext hx).things
      obtain ⟨q0, q1⟩ := own_v hV (at_some hn)
      have f0 := own_free hV (n * 2)
      have f1 := own_free hV (n * 2 + 1)
      unfold does
      go_simp
      exact ⟨w2, hx, rfl⟩
    obtain ⟨w2, hx2, rfl⟩ := hR4
    simp only [Act.put]
    have HS := hid (show s.stmt P k x = { s with things := s.things.set n u } by exact HE.out)
    have HR5 := hid (((HR3).out.ext hx2).putT n hn u)
    have HO := hid ((((HW3).out.trans hx2).old n0).trans (store2_old (y := u) (i := n * 2) (HR3.out.tlo (b := g2) rfl)))
    clear hx2
    go_wp2
    go_end0
    exact ⟨rfl, ⟨_, _, _, by rw [HS.out]; exact HR5.out⟩, HO.out⟩
end Go.Proofs.YtoaoienfggjepaaGreatDoor



/- Runs: what a call does. -/
namespace Go.Proofs.YtoaoienfggjepaaGreatDoor
set_option linter.unusedSimpArgs false
set_option linter.unusedVariables false
open Go Go.RowKit

theorem rval_info : (Tryz.prog.info? 57).map (fun i => (i.zero, i.size, i.bytes)) = some (some (.agg #[.string ⟨#[]⟩, .int .i64 0]), 2, 24) := by kernel_rfl


set_option maxRecDepth 100000 in
set_option maxHeartbeats 12800000 in
theorem stcall_no (a1 a2 a3 : Option Addr) (c1 c2 c3 : Nat) (P : PP) (x : PS) (av : Option Addr) (cv : Nat) (hg : P.Good x) (hkx : x.isK kCall = true) (hF : ∀ f ∈ P.funs, P.GoodF f) (s : Rn) (hs : s.Ok P) (w : World) (n0 sb : Nat) (vv tv pv : Value) (hR : RnAt w n0 sb vv tv pv s) (hP : ProgR w n0 (.slice a1 P.vars.length c1) (.slice a2 P.funs.length c2) (.slice a3 P.stmts.length c3) P) (hI : IntsR w n0 (.slice av x.args.length cv) x.args) (hn0 : n0 ≤ w.heap.size) (hno : ∀ n, s.at x.y ≠ .fn n) :
    Calls Tryz.prog 112 #[.pointer (some ⟨sb, 0, none⟩), pval a1 a2 a3 c1 c2 c3 P, .agg #[.string x.kind, .int .i64 x.x, .int .i64 x.y, .slice av x.args.length cv]] w fun e w' => e = .returned (.tuple #[]) ∧ (∃ vv' tv' pv', RnAt w' n0 sb vv' tv' pv' (s)) ∧ Old n0 w w' := by
  obtain ⟨W1, hW1⟩ : ∃ W1, W1 = w.alloc (.cells (pcells a1 a2 a3 c1 c2 c3 P) 39) := ⟨_, rfl⟩
  have hx1 : Ext w W1 := by rw [hW1]; exact (Ext.refl _).alloc _
  obtain ⟨W2, hW2⟩ : ∃ W2, W2 = W1.alloc (.cells (scells x av cv) 48) := ⟨_, rfl⟩
  have hx2 : Ext W1 W2 := by rw [hW2]; exact (Ext.refl _).alloc _
  have HW2 := hid (hx1.trans hx2)
  have HB1 : Hid (Blk W2 w.heap.size (pcells a1 a2 a3 c1 c2 c3 P) 39) := hid (by
    have : Blk W1 w.heap.size (pcells a1 a2 a3 c1 c2 c3 P) 39 := by rw [hW1]; exact Blk.new _ _ _
    exact this.ext hx2)
  have hs1 : W1.heap.size = w.heap.size + 1 := by rw [hW1, heap_size_alloc]
  have HB2 : Hid (Blk W2 (w.heap.size + 1) (scells x av cv) 48) := hid (by
    rw [← hs1, hW2]; exact Blk.new _ _ _)
  have HR2 := hid (hR.ext HW2.out)
  have HP2 := hid (hP.ext HW2.out)
  have HI := hid (hI.old (HW2.out.old n0))
  have Hs := hid hs
  have HF := hid hF
  have Hn0 := hid hn0
  have hgx := hg.gx
  have HW2e : Hid (W2 = (w.alloc (.cells #[.slice a1 P.vars.length c1, .slice a2 P.funs.length c2, .slice a3 P.stmts.length c3] 39)).alloc (.cells #[.string x.kind, .int .i64 x.x, .int .i64 x.y, .slice av x.args.length cv] 48)) := hid (by rw [hW2, hW1]; rfl)
  obtain ⟨X, hX⟩ := Int.eq_ofNat_of_zero_le hgx.1
  have HX : Hid (X < s.vars.length) := hid (by rw [hs.lv]; omega)
  have HXe := hid hX
  obtain ⟨g, cap, hvv⟩ := own_some hR.vars (by have := HX.out; omega)
  subst hvv
  have hnv : s.vars.length = P.vars.length := hs.lv
  have d0 := HR2.out.blk.kc (X := fun _ => False) (fun e => e) 0 rfl
  have m2 := HB2.out.kc (X := fun _ => False) (fun e => e) 2 rfl
  have m3 := HB2.out.kc (X := fun _ => False) (fun e => e) 3 rfl
  have p1 := HB1.out.kc (X := fun _ => False) (fun e => e) 1 rfl
  simp only [scells, pcells, List.getElem_toArray, List.getElem_cons_zero, List.getElem_cons_succ] at d0 m2 m3 p1
  have Hg := hid hg
  have hf : x.isK kFun = false := isK_ne hkx rfl
  have hn : x.isK kNew = false := isK_ne hkx rfl
  have hyv := Hg.out.yv hf hn
  obtain ⟨Y, hY⟩ := Int.eq_ofNat_of_zero_le hyv.1
  have HYl : Hid (Y < s.vars.length) := hid (by rw [hnv]; omega)
  have HY := hid hY
  rw [hY] at m2
  obtain ⟨v, hv⟩ : ∃ v, v = s.vars.getD Y .none := ⟨_, rfl⟩
  have HVy := hid (at_some HYl.out)
  rw [← hv] at HVy
  have HVat : Hid (s.at x.y = v) := hid (by unfold Rn.at; rw [hY, hv]; rfl)
  clear hY hyv hv
  have v0 : ∀ w1, Keep (fun _ => False) W2 w1 → w1.cell? ⟨g, Y * 2, none⟩ = some (.string v.kind) := fun w1 k => (own_v (HR2.out.ext k.ext).vars HVy.out).1
  have v1 : ∀ w1, Keep (fun _ => False) W2 w1 → w1.cell? ⟨g, Y * 2 + 1, none⟩ = some (.int .i64 (v.num : Int)) := fun w1 k => (own_v (HR2.out.ext k.ext).vars HVy.out).2
  have hYl := HYl.out
  have hsbl := hR.blk.lt
  have Hgw := hid (World.ownsRow.lt hR.vars g rfl).2
  clear hW1 hW2 hx1 hx2 hs1 hR hP hI hs hg hX hgx hkx hn0 hF hf hn
  unfold pval
  rw [HVat.out] at hno
  cases v with
  | fn n => exact absurd rfl (hno n)
  | none =>
    simp only [Vl.kind, Vl.num] at v0 v1
    go_enter Tryz.func112, Tryz.ntmps112
    go_wp2
    rw [← HW2e.out]
    refine wp_flowT (fun _ => False) (by kernel_rfl) (by kernel_rfl) ?_
    repeat (apply FlowT.d; (intro w1 hk; unfold does; go_simp; (try go_ints); (first | exact DetR.mk | (simp only [↓IntWalk.iteOmega, Oper.doesUpon_value]; exact DetR.mk) | (simp only [↓IntWalk.iteOmega]; go_simp; (try go_ints); exact DetR.mk))); simp only [Act.put, List.setIfInBounds_toArray, List.set_cons_zero, List.set_cons_succ])
    refine FlowT.s (fun t w' => ∃ b, t = .pointer (some ⟨b, 0, none⟩) ∧ Blk w' b #[.string ⟨#[]⟩, .int .i64 0] 57 ∧ Ext W2 w' ∧ W2.heap.size ≤ b) 8 rfl (by kernel_rfl) (fun _ _ _ ⟨b, e, h1, h2, h3⟩ y => ⟨b, e, h1.ext y, h2.trans y, h3⟩) (fun w1 hC hk => ?_) (fun _ ⟨_, hb⟩ => ?_)
    · unfold does
      go_simp
      exact ⟨hk.alloc _, _, rfl, Blk.new _ _ _, hC.alloc _, hC.size⟩
    obtain ⟨b, rfl, _, _, hbs⟩ := hb
    simp only [Act.put, List.setIfInBounds_toArray, List.set_cons_zero, List.set_cons_succ]
    have Hbs := hid hbs
    clear hbs
    refine FlowT.last (fun _ w' => Blk w' b #[.string ⟨#[110, 111, 110, 101]⟩, .int .i64 0] 57 ∧ Ext W2 w') 9 rfl (by kernel_rfl) (by kernel_rfl) (fun w1 hC hk => ?_) (fun _ w3 hR3 => ?_)
    · obtain ⟨b', eb, hB, hx, _⟩ := hC
      obtain rfl : b = b' := by simpa using eb
      have z0 := hB.av 0 rfl
      have z1 := hB.av 1 rfl
      have f0 := hB.free 0
      have f1 := hB.free 1
      have hB2 := (hB.set 0 (.string ⟨#[110, 111, 110, 101]⟩)).set 1 (.int .i64 0)
      have hx2 : Ext W2 ((w1.setCell ⟨b, 0, none⟩ (.string ⟨#[110, 111, 110, 101]⟩)).setCell ⟨b, 1, none⟩ (.int .i64 0)) := Keep.new hx ((Keep.set (X := fun g => g = b) (Keep.refl _ _) rfl _).set rfl _) fun g e => by subst e; exact Hbs.out
      simp only [List.setIfInBounds_toArray, List.set_cons_zero, List.set_cons_succ] at hB2
      clear hk
      unfold does
      go_simp
    obtain ⟨hB3, hx3⟩ := hR3
    simp only [Act.put, List.setIfInBounds_toArray, List.set_cons_zero, List.set_cons_succ]
    have HB3 := hid hB3
    have HR3 := hid (HR2.out.ext hx3)
    have HW3 := hid (HW2.out.trans hx3)
    have Hx3 := hid hx3
    have b0 := hB3.kc (X := fun _ => False) (fun e => e) 0 rfl
    have b1 := hB3.kc (X := fun _ => False) (fun e => e) 1 rfl
    simp only [List.getElem_toArray, List.getElem_cons_zero, List.getElem_cons_succ] at b0 b1
    replace p1 := fun w1 (k : Keep (fun _ => False) w3 w1) => p1 w1 ((hx3.keep _).trans k)
    replace m3 := fun w1 (k : Keep (fun _ => False) w3 w1) => m3 w1 ((hx3.keep _).trans k)
    clear v0 v1 m2 d0
    clear hB3 hx3
    go_wp2
    refine wp_flowT (fun _ => False) (by kernel_rfl) (by kernel_rfl) ?_
    repeat (apply FlowT.d; (intro w1 hk; unfold does; go_simp; (try go_ints); (first | exact DetR.mk | (simp only [↓IntWalk.iteOmega, Oper.doesUpon_value]; exact DetR.mk) | (simp only [↓IntWalk.iteOmega]; go_simp; (try go_ints); exact DetR.mk))); simp only [Act.put, List.setIfInBounds_toArray, List.set_cons_zero, List.set_cons_succ])
    refine FlowT.fin fun w4 hx4 hk4 => ?_
    have HR4 := hid (HR3.out.ext hx4)
    have HW4 := hid (HW3.out.trans hx4)
    clear hx4 hk4
    go_wp2
    refine bodyPost_ret (results_none rfl _ _ _) rfl ?_
    exact ⟨rfl, ⟨_, _, _, HR4.out⟩, HW4.out.old n0⟩
  | var n =>
    simp only [Vl.kind, Vl.num] at v0 v1
    go_enter Tryz.func112, Tryz.ntmps112
    go_wp2
    rw [← HW2e.out]
    refine wp_flowT (fun _ => False) (by kernel_rfl) (by kernel_rfl) ?_
    repeat (apply FlowT.d; (intro w1 hk; unfold does; go_simp; (try go_ints); (first | exact DetR.mk | (simp only [↓IntWalk.iteOmega, Oper.doesUpon_value]; exact DetR.mk) | (simp only [↓IntWalk.iteOmega]; go_simp; (try go_ints); exact DetR.mk))); simp only [Act.put, List.setIfInBounds_toArray, List.set_cons_zero, List.set_cons_succ])
    refine FlowT.s (fun t w' => ∃ b, t = .pointer (some ⟨b, 0, none⟩) ∧ Blk w' b #[.string ⟨#[]⟩, .int .i64 0] 57 ∧ Ext W2 w' ∧ W2.heap.size ≤ b) 8 rfl (by kernel_rfl) (fun _ _ _ ⟨b, e, h1, h2, h3⟩ y => ⟨b, e, h1.ext y, h2.trans y, h3⟩) (fun w1 hC hk => ?_) (fun _ ⟨_, hb⟩ => ?_)
    · unfold does
      go_simp
      exact ⟨hk.alloc _, _, rfl, Blk.new _ _ _, hC.alloc _, hC.size⟩
    obtain ⟨b, rfl, _, _, hbs⟩ := hb
    simp only [Act.put, List.setIfInBounds_toArray, List.set_cons_zero, List.set_cons_succ]
    have Hbs := hid hbs
    clear hbs
    refine FlowT.last (fun _ w' => Blk w' b #[.string ⟨#[118, 97, 114]⟩, .int .i64 (n : Int)] 57 ∧ Ext W2 w') 9 rfl (by kernel_rfl) (by kernel_rfl) (fun w1 hC hk => ?_) (fun _ w3 hR3 => ?_)
    · obtain ⟨b', eb, hB, hx, _⟩ := hC
      obtain rfl : b = b' := by simpa using eb
      have z0 := hB.av 0 rfl
      have z1 := hB.av 1 rfl
      have f0 := hB.free 0
      have f1 := hB.free 1
      have hB2 := (hB.set 0 (.string ⟨#[118, 97, 114]⟩)).set 1 (.int .i64 (n : Int))
      have hx2 : Ext W2 ((w1.setCell ⟨b, 0, none⟩ (.string ⟨#[118, 97, 114]⟩)).setCell ⟨b, 1, none⟩ (.int .i64 (n : Int))) := Keep.new hx ((Keep.set (X := fun g => g = b) (Keep.refl _ _) rfl _).set rfl _) fun g e => by subst e; exact Hbs.out
      simp only [List.setIfInBounds_toArray, List.set_cons_zero, List.set_cons_succ] at hB2
      clear hk
      unfold does
      go_simp
    obtain ⟨hB3, hx3⟩ := hR3
    simp only [Act.put, List.setIfInBounds_toArray, List.set_cons_zero, List.set_cons_succ]
    have HB3 := hid hB3
    have HR3 := hid (HR2.out.ext hx3)
    have HW3 := hid (HW2.out.trans hx3)
    have Hx3 := hid hx3
    have b0 := hB3.kc (X := fun _ => False) (fun e => e) 0 rfl
    have b1 := hB3.kc (X := fun _ => False) (fun e => e) 1 rfl
    simp only [List.getElem_toArray, List.getElem_cons_zero, List.getElem_cons_succ] at b0 b1
    replace p1 := fun w1 (k : Keep (fun _ => False) w3 w1) => p1 w1 ((hx3.keep _).trans k)
    replace m3 := fun w1 (k : Keep (fun _ => False) w3 w1) => m3 w1 ((hx3.keep _).trans k)
    clear v0 v1 m2 d0
    clear hB3 hx3
    go_wp2
    refine wp_flowT (fun _ => False) (by kernel_rfl) (by kernel_rfl) ?_
    repeat (apply FlowT.d; (intro w1 hk; unfold does; go_simp; (try go_ints); (first | exact DetR.mk | (simp only [↓IntWalk.iteOmega, Oper.doesUpon_value]; exact DetR.mk) | (simp only [↓IntWalk.iteOmega]; go_simp; (try go_ints); exact DetR.mk))); simp only [Act.put, List.setIfInBounds_toArray, List.set_cons_zero, List.set_cons_succ])
    refine FlowT.fin fun w4 hx4 hk4 => ?_
    have HR4 := hid (HR3.out.ext hx4)
    have HW4 := hid (HW3.out.trans hx4)
    clear hx4 hk4
    go_wp2
    refine bodyPost_ret (results_none rfl _ _ _) rfl ?_
    exact ⟨rfl, ⟨_, _, _, HR4.out⟩, HW4.out.old n0⟩
  | thing n =>
    simp only [Vl.kind, Vl.num] at v0 v1
    go_enter Tryz.func112, Tryz.ntmps112
    go_wp2
    rw [← HW2e.out]
    refine wp_flowT (fun _ => False) (by kernel_rfl) (by kernel_rfl) ?_
    repeat (apply FlowT.d; (intro w1 hk; unfold does; go_simp; (try go_ints); (first | exact DetR.mk | (simp only [↓IntWalk.iteOmega, Oper.doesUpon_value]; exact DetR.mk) | (simp only [↓IntWalk.iteOmega]; go_simp; (try go_ints); exact DetR.mk))); simp only [Act.put, List.setIfInBounds_toArray, List.set_cons_zero, List.set_cons_succ])
    refine FlowT.s (fun t w' => ∃ b, t = .pointer (some ⟨b, 0, none⟩) ∧ Blk w' b #[.string ⟨#[]⟩, .int .i64 0] 57 ∧ Ext W2 w' ∧ W2.heap.size ≤ b) 8 rfl (by kernel_rfl) (fun _ _ _ ⟨b, e, h1, h2, h3⟩ y => ⟨b, e, h1.ext y, h2.trans y, h3⟩) (fun w1 hC hk => ?_) (fun _ ⟨_, hb⟩ => ?_)
    · unfold does
      go_simp
      exact ⟨hk.alloc _, _, rfl, Blk.new _ _ _, hC.alloc _, hC.size⟩
    obtain ⟨b, rfl, _, _, hbs⟩ := hb
    simp only [Act.put, List.setIfInBounds_toArray, List.set_cons_zero, List.set_cons_succ]
    have Hbs := hid hbs
    clear hbs
    refine FlowT.last (fun _ w' => Blk w' b #[.string ⟨#[116, 104, 105, 110, 103]⟩, .int .i64 (n : Int)] 57 ∧ Ext W2 w') 9 rfl (by kernel_rfl) (by kernel_rfl) (fun w1 hC hk => ?_) (fun _ w3 hR3 => ?_)
    · obtain ⟨b', eb, hB, hx, _⟩ := hC
      obtain rfl : b = b' := by simpa using eb
      have z0 := hB.av 0 rfl
      have z1 := hB.av 1 rfl
      have f0 := hB.free 0
      have f1 := hB.free 1
      have hB2 := (hB.set 0 (.string ⟨#[116, 104, 105, 110, 103]⟩)).set 1 (.int .i64 (n : Int))
      have hx2 : Ext W2 ((w1.setCell ⟨b, 0, none⟩ (.string ⟨#[116, 104, 105, 110, 103]⟩)).setCell ⟨b, 1, none⟩ (.int .i64 (n : Int))) := Keep.new hx ((Keep.set (X := fun g => g = b) (Keep.refl _ _) rfl _).set rfl _) fun g e => by subst e; exact Hbs.out
      simp only [List.setIfInBounds_toArray, List.set_cons_zero, List.set_cons_succ] at hB2
      clear hk
      unfold does
      go_simp
    obtain ⟨hB3, hx3⟩ := hR3
    simp only [Act.put, List.setIfInBounds_toArray, List.set_cons_zero, List.set_cons_succ]
    have HB3 := hid hB3
    have HR3 := hid (HR2.out.ext hx3)
    have HW3 := hid (HW2.out.trans hx3)
    have Hx3 := hid hx3
    have b0 := hB3.kc (X := fun _ => False) (fun e => e) 0 rfl
    have b1 := hB3.kc (X := fun _ => False) (fun e => e) 1 rfl
    simp only [List.getElem_toArray, List.getElem_cons_zero, List.getElem_cons_succ] at b0 b1
    replace p1 := fun w1 (k : Keep (fun _ => False) w3 w1) => p1 w1 ((hx3.keep _).trans k)
    replace m3 := fun w1 (k : Keep (fun _ => False) w3 w1) => m3 w1 ((hx3.keep _).trans k)
    clear v0 v1 m2 d0
    clear hB3 hx3
    go_wp2
    refine wp_flowT (fun _ => False) (by kernel_rfl) (by kernel_rfl) ?_
    repeat (apply FlowT.d; (intro w1 hk; unfold does; go_simp; (try go_ints); (first | exact DetR.mk | (simp only [↓IntWalk.iteOmega, Oper.doesUpon_value]; exact DetR.mk) | (simp only [↓IntWalk.iteOmega]; go_simp; (try go_ints); exact DetR.mk))); simp only [Act.put, List.setIfInBounds_toArray, List.set_cons_zero, List.set_cons_succ])
    refine FlowT.fin fun w4 hx4 hk4 => ?_
    have HR4 := hid (HR3.out.ext hx4)
    have HW4 := hid (HW3.out.trans hx4)
    clear hx4 hk4
    go_wp2
    refine bodyPost_ret (results_none rfl _ _ _) rfl ?_
    exact ⟨rfl, ⟨_, _, _, HR4.out⟩, HW4.out.old n0⟩

set_option maxRecDepth 100000 in
set_option maxHeartbeats 12800000 in
theorem stcall_far (a1 a2 a3 : Option Addr) (c1 c2 c3 : Nat) (P : PP) (x : PS) (av : Option Addr) (cv : Nat) (hg : P.Good x) (hkx : x.isK kCall = true) (hF : ∀ f ∈ P.funs, P.GoodF f) (s : Rn) (hs : s.Ok P) (w : World) (n0 sb : Nat) (vv tv pv : Value) (hR : RnAt w n0 sb vv tv pv s) (hP : ProgR w n0 (.slice a1 P.vars.length c1) (.slice a2 P.funs.length c2) (.slice a3 P.stmts.length c3) P) (hI : IntsR w n0 (.slice av x.args.length cv) x.args) (hn0 : n0 ≤ w.heap.size) (n : Nat) (hvn : s.at x.y = .fn n) (hlen : ∀ f, P.funs[n]? = some f → f.params.length ≠ x.args.length) :
    Calls Tryz.prog 112 #[.pointer (some ⟨sb, 0, none⟩), pval a1 a2 a3 c1 c2 c3 P, .agg #[.string x.kind, .int .i64 x.x, .int .i64 x.y, .slice av x.args.length cv]] w fun e w' => e = .returned (.tuple #[]) ∧ (∃ vv' tv' pv', RnAt w' n0 sb vv' tv' pv' (s)) ∧ Old n0 w w' := by
  obtain ⟨W1, hW1⟩ : ∃ W1, W1 = w.alloc (.cells (pcells a1 a2 a3 c1 c2 c3 P) 39) := ⟨_, rfl⟩
  have hx1 : Ext w W1 := by rw [hW1]; exact (Ext.refl _).alloc _
  obtain ⟨W2, hW2⟩ : ∃ W2, W2 = W1.alloc (.cells (scells x av cv) 48) := ⟨_, rfl⟩
  have hx2 : Ext W1 W2 := by rw [hW2]; exact (Ext.refl _).alloc _
  have HW2 := hid (hx1.trans hx2)
  have HB1 : Hid (Blk W2 w.heap.size (pcells a1 a2 a3 c1 c2 c3 P) 39) := hid (by
    have : Blk W1 w.heap.size (pcells a1 a2 a3 c1 c2 c3 P) 39 := by rw [hW1]; exact Blk.new _ _ _
    exact this.ext hx2)
  have hs1 : W1.heap.size = w.heap.size + 1 := by rw [hW1, heap_size_alloc]
  have HB2 : Hid (Blk W2 (w.heap.size + 1) (scells x av cv) 48) := hid (by
    rw [← hs1, hW2]; exact Blk.new _ _ _)
  have HR2 := hid (hR.ext HW2.out)
  have HP2 := hid (hP.ext HW2.out)
  have HI := hid (hI.old (HW2.out.old n0))
  have Hs := hid hs
  have HF := hid hF
  have Hn0 := hid hn0
  have hgx := hg.gx
  have HW2e : Hid (W2 = (w.alloc (.cells #[.slice a1 P.vars.length c1, .slice a2 P.funs.length c2, .slice a3 P.stmts.length c3] 39)).alloc (.cells #[.string x.kind, .int .i64 x.x, .int .i64 x.y, .slice av x.args.length cv] 48)) := hid (by rw [hW2, hW1]; rfl)
  obtain ⟨X, hX⟩ := Int.eq_ofNat_of_zero_le hgx.1
  have HX : Hid (X < s.vars.length) := hid (by rw [hs.lv]; omega)
  have HXe := hid hX
  obtain ⟨g, cap, hvv⟩ := own_some hR.vars (by have := HX.out; omega)
  subst hvv
  have hnv : s.vars.length = P.vars.length := hs.lv
  have d0 := HR2.out.blk.kc (X := fun _ => False) (fun e => e) 0 rfl
  have m2 := HB2.out.kc (X := fun _ => False) (fun e => e) 2 rfl
  have m3 := HB2.out.kc (X := fun _ => False) (fun e => e) 3 rfl
  have p1 := HB1.out.kc (X := fun _ => False) (fun e => e) 1 rfl
  simp only [scells, pcells, List.getElem_toArray, List.getElem_cons_zero, List.getElem_cons_succ] at d0 m2 m3 p1
  have Hg := hid hg
  have hf : x.isK kFun = false := isK_ne hkx rfl
  have hn : x.isK kNew = false := isK_ne hkx rfl
  have hyv := Hg.out.yv hf hn
  obtain ⟨Y, hY⟩ := Int.eq_ofNat_of_zero_le hyv.1
  have HYl : Hid (Y < s.vars.length) := hid (by rw [hnv]; omega)
  have HY := hid hY
  rw [hY] at m2
  obtain ⟨v, hv⟩ : ∃ v, v = s.vars.getD Y .none := ⟨_, rfl⟩
  have HVy := hid (at_some HYl.out)
  rw [← hv] at HVy
  have HVat : Hid (s.at x.y = v) := hid (by unfold Rn.at; rw [hY, hv]; rfl)
  clear hY hyv hv
  have v0 : ∀ w1, Keep (fun _ => False) W2 w1 → w1.cell? ⟨g, Y * 2, none⟩ = some (.string v.kind) := fun w1 k => (own_v (HR2.out.ext k.ext).vars HVy.out).1
  have v1 : ∀ w1, Keep (fun _ => False) W2 w1 → w1.cell? ⟨g, Y * 2 + 1, none⟩ = some (.int .i64 (v.num : Int)) := fun w1 k => (own_v (HR2.out.ext k.ext).vars HVy.out).2
  have hYl := HYl.out
  have hsbl := hR.blk.lt
  have Hgw := hid (World.ownsRow.lt hR.vars g rfl).2
  clear hW1 hW2 hx1 hx2 hs1 hR hP hI hs hg hX hgx hkx hn0 hF hf hn
  unfold pval
  obtain rfl : v = .fn n := HVat.out.symm.trans hvn
  have Hlen := hid hlen
  clear hlen hvn
  have hnf : n < P.funs.length := by have := Hs.out.at x.y; rw [HVat.out] at this; exact this
  simp only [Vl.kind, Vl.num] at v0 v1
  obtain ⟨yf, f, pa, pc, rfl, hfk, f0, f1, f2, hIp⟩ := HP2.out.funs.at hnf
  have HFk := hid hfk
  have HGf := hid (HF.out f (List.mem_of_getElem? hfk))
  have HIp := hid hIp
  have HF1 := hid f1
  have HF2 := hid f2
  have HF0 := hid f0
  clear hfk hIp f0 f1 f2
  go_enter Tryz.func112, Tryz.ntmps112
  go_wp2
  rw [← HW2e.out]
  refine wp_flowT (fun _ => False) (by kernel_rfl) (by kernel_rfl) ?_
  repeat (apply FlowT.d; (intro w1 hk; unfold does; go_simp; (try go_ints); (first | exact DetR.mk | (simp only [↓IntWalk.iteOmega, Oper.doesUpon_value]; exact DetR.mk) | (simp only [↓IntWalk.iteOmega]; go_simp; (try go_ints); exact DetR.mk))); simp only [Act.put, List.setIfInBounds_toArray, List.set_cons_zero, List.set_cons_succ])
  refine FlowT.s (fun t w' => ∃ b, t = .pointer (some ⟨b, 0, none⟩) ∧ Blk w' b #[.string ⟨#[]⟩, .int .i64 0] 57 ∧ Ext W2 w' ∧ W2.heap.size ≤ b) 8 rfl (by kernel_rfl) (fun _ _ _ ⟨b, e, h1, h2, h3⟩ y => ⟨b, e, h1.ext y, h2.trans y, h3⟩) (fun w1 hC hk => ?_) (fun _ ⟨_, hb⟩ => ?_)
  · unfold does
    go_simp
    exact ⟨hk.alloc _, _, rfl, Blk.new _ _ _, hC.alloc _, hC.size⟩
  obtain ⟨b, rfl, _, _, hbs⟩ := hb
  simp only [Act.put, List.setIfInBounds_toArray, List.set_cons_zero, List.set_cons_succ]
  have Hbs := hid hbs
  clear hbs
  refine FlowT.last (fun _ w' => Blk w' b #[.string ⟨#[102, 117, 110]⟩, .int .i64 (n : Int)] 57 ∧ Ext W2 w') 9 rfl (by kernel_rfl) (by kernel_rfl) (fun w1 hC hk => ?_) (fun _ w3 hR3 => ?_)
  · obtain ⟨b', eb, hB, hx, _⟩ := hC
    obtain rfl : b = b' := by simpa using eb
    have z0 := hB.av 0 rfl
    have z1 := hB.av 1 rfl
    have f0 := hB.free 0
    have f1 := hB.free 1
    have hB2 := (hB.set 0 (.string ⟨#[102, 117, 110]⟩)).set 1 (.int .i64 (n : Int))
    have hx2 : Ext W2 ((w1.setCell ⟨b, 0, none⟩ (.string ⟨#[102, 117, 110]⟩)).setCell ⟨b, 1, none⟩ (.int .i64 (n : Int))) := Keep.new hx ((Keep.set (X := fun g => g = b) (Keep.refl _ _) rfl _).set rfl _) fun g e => by subst e; exact Hbs.out
    simp only [List.setIfInBounds_toArray, List.set_cons_zero, List.set_cons_succ] at hB2
    clear hk
    unfold does
    go_simp
  obtain ⟨hB3, hx3⟩ := hR3
  simp only [Act.put, List.setIfInBounds_toArray, List.set_cons_zero, List.set_cons_succ]
  have HB3 := hid hB3
  have HR3 := hid (HR2.out.ext hx3)
  have HW3 := hid (HW2.out.trans hx3)
  have Hx3 := hid hx3
  have b0 := hB3.kc (X := fun _ => False) (fun e => e) 0 rfl
  have b1 := hB3.kc (X := fun _ => False) (fun e => e) 1 rfl
  simp only [List.getElem_toArray, List.getElem_cons_zero, List.getElem_cons_succ] at b0 b1
  replace p1 := fun w1 (k : Keep (fun _ => False) w3 w1) => p1 w1 ((hx3.keep _).trans k)
  replace m3 := fun w1 (k : Keep (fun _ => False) w3 w1) => m3 w1 ((hx3.keep _).trans k)
  clear v0 v1 m2 d0
  have f1 : ∀ w1, Keep (fun _ => False) w3 w1 → w1.cell? ⟨(yf.add (n * 3)).block, (yf.add (n * 3)).off + 1, none⟩ = some (.slice pa f.params.length pc) := fun w1 k => (hx3.trans k.ext).cellx HF1.out
  have hne := Hlen.out f HFk.out
  clear hB3 hx3
  go_wp2
  refine wp_flowT (fun _ => False) (by kernel_rfl) (by kernel_rfl) ?_
  repeat (apply FlowT.d; (intro w1 hk; unfold does; go_simp; (try go_ints); (first | exact DetR.mk | (simp only [↓IntWalk.iteOmega, Oper.doesUpon_value]; exact DetR.mk) | (simp only [↓IntWalk.iteOmega]; go_simp; (try go_ints); exact DetR.mk))); simp only [Act.put, List.setIfInBounds_toArray, List.set_cons_zero, List.set_cons_succ])
  refine FlowT.fin fun w4 hx4 hk4 => ?_
  have HR4 := hid (HR3.out.ext hx4)
  have HW4 := hid (HW3.out.trans hx4)
  clear hx4 hk4
  go_wp2
  refine bodyPost_ret (results_none rfl _ _ _) rfl ?_
  exact ⟨rfl, ⟨_, _, _, HR4.out⟩, HW4.out.old n0⟩
end Go.Proofs.YtoaoienfggjepaaGreatDoor

