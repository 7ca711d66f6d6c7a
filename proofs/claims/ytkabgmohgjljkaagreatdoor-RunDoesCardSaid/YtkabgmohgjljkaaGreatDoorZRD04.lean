/- Texts of one proof, put together: UT. -/
import Derived.Test.YtkabgmohgjljkaaGreatDoorZRD03

/- Runs: what a statement does: those that set one variable, or a cell. -/
namespace Go.Proofs.YtkabgmohgjljkaaGreatDoor
set_option linter.unusedSimpArgs false
set_option linter.unusedVariables false
open Go Go.RowKit

theorem at_some {l : List Vl} {n : Nat} (h : n < l.length) : l[n]? = some (l.getD n .none) := by simp [List.getD_eq_getElem?_getD, h]
theorem isK_ne {x : PS} {k k' : List UInt8} (h : x.isK k = true) (hne : (k == k') = false) : x.isK k' = false := by
  unfold PS.isK at h ⊢
  rw [eq_of_beq h]
  exact hne


set_option maxRecDepth 100000 in
set_option maxHeartbeats 12800000 in
theorem stdo_addr (a1 a2 a3 : Option Addr) (c1 c2 c3 : Nat) (P : PP) (k : Nat) (x : PS) (hxk : P.stmts[k]? = some x) (hg : P.Good x) (hkx : x.isK kAddr = true)  (s : Rn) (hs : s.Ok P) (w : World) (n0 sb : Nat) (vv tv pv : Value) (hR : RnAt w n0 sb vv tv pv s) (hP : ProgR w n0 (.slice a1 P.vars.length c1) (.slice a2 P.funs.length c2) (.slice a3 P.stmts.length c3) P) (hn0 : n0 ≤ w.heap.size) (hsm : s.things.length ≤ 100000) :
    Calls Tryz.prog 21 #[.pointer (some ⟨sb, 0, none⟩), pval a1 a2 a3 c1 c2 c3 P, .int .i64 (k : Int)] w fun e w' => e = .returned (.tuple #[]) ∧ (∃ vv' tv' pv', RnAt w' n0 sb vv' tv' pv' (s.stmt P k x)) ∧ Old n0 w w' := by
  have hk : k < P.stmts.length := by
    rcases Nat.lt_or_ge k P.stmts.length with h | h
    · exact h
    · rw [List.getElem?_eq_none h] at hxk; cases hxk
  have hml := hP.stmts.len
  obtain ⟨W1, hW1⟩ : ∃ W1, W1 = w.alloc (.cells (pcells a1 a2 a3 c1 c2 c3 P) 26) := ⟨_, rfl⟩
  have hx1 : Ext w W1 := by rw [hW1]; exact (Ext.refl _).alloc _
  obtain ⟨y, x', av, cv, rfl, hxk', e0, e1, e2, e3, hI⟩ := (hP.ext hx1).stmts.at hk
  obtain rfl := Option.some.inj (hxk.symm.trans hxk')
  obtain ⟨W2, hW2⟩ : ∃ W2, W2 = W1.alloc (.cells (scells x av cv) 58) := ⟨_, rfl⟩
  have hx2 : Ext W1 W2 := by rw [hW2]; exact (Ext.refl _).alloc _
  have HW2 := hid (hx1.trans hx2)
  have HB1 : Hid (Blk W2 w.heap.size (pcells a1 a2 (some y) c1 c2 c3 P) 26) := hid (by
    have : Blk W1 w.heap.size (pcells a1 a2 (some y) c1 c2 c3 P) 26 := by rw [hW1]; exact Blk.new _ _ _
    exact this.ext hx2)
  have hs1 : W1.heap.size = w.heap.size + 1 := by rw [hW1, heap_size_alloc]
  have HB2 : Hid (Blk W2 (w.heap.size + 1) (scells x av cv) 58) := hid (by
    rw [← hs1, hW2]; exact Blk.new _ _ _)
  have HR2 := hid (hR.ext HW2.out)
  have HP2 := hid (hP.ext HW2.out)
  have HI := hid (hI.old (hx2.old n0))
  have Hs := hid hs
  have Hg := hid hg
  have Hn0 := hid hn0
  have hgx := hg.gx
  rw [hW1] at e0 e1 e2 e3
  have HW2e : Hid (W2 = (w.alloc (.cells #[.slice a1 P.vars.length c1, .slice a2 P.funs.length c2, .slice (some y) P.stmts.length c3] 26)).alloc (.cells #[.string x.kind, .int .i64 x.x, .int .i64 x.y, .slice av x.args.length cv] 58)) := hid (by rw [hW2, hW1]; rfl)
  unfold pcells at e0 e1 e2 e3
  obtain ⟨X, hX⟩ := Int.eq_ofNat_of_zero_le hgx.1
  have HX : Hid (X < s.vars.length) := hid (by rw [hs.lv]; omega)
  have HXe := hid hX
  have hXl := HX.out
  obtain ⟨g, cap, hvv⟩ := own_some hR.vars (by have := HX.out; omega)
  subst hvv
  have hnv : s.vars.length = P.vars.length := hs.lv
  have d0 := HR2.out.blk.kc (X := fun _ => False) (fun e => e) 0 rfl
  have d1 := HR2.out.blk.kc (X := fun _ => False) (fun e => e) 1 rfl
  have d2 := HR2.out.blk.kc (X := fun _ => False) (fun e => e) 2 rfl
  have m1 := HB2.out.kc (X := fun _ => False) (fun e => e) 1 rfl
  have m2 := HB2.out.kc (X := fun _ => False) (fun e => e) 2 rfl
  have m3 := HB2.out.kc (X := fun _ => False) (fun e => e) 3 rfl
  simp only [scells, List.getElem_toArray, List.getElem_cons_zero, List.getElem_cons_succ] at d0 d1 d2 m1 m2 m3
  rw [hX] at m1
  have hsbl := hR.blk.lt
  have Hkx := hid hkx
  have hkk := hkx
  unfold PS.isK kAddr at hkk
  clear hxk hxk' hW1 hW2 hx1 hx2 hs1 hR hP hI hs hg hX hgx hkx hn0
  unfold pval
  have hf : x.isK kFun = false := isK_ne Hkx.out rfl
  have hn : x.isK kNew = false := isK_ne Hkx.out rfl
  have hyv := Hg.out.yv hf hn
  obtain ⟨Y, hY⟩ := Int.eq_ofNat_of_zero_le hyv.1
  have HYl : Hid (Y < s.vars.length) := hid (by rw [hnv]; omega)
  have HY := hid hY
  rw [hY] at m2
  obtain ⟨v, hv⟩ : ∃ v, v = s.vars.getD Y .none := ⟨_, rfl⟩
  have HVy := hid (at_some HYl.out)
  rw [← hv] at HVy
  have HVat : Hid (s.at x.y = v) := hid (by unfold Rn.at; rw [hY, hv]; rfl)
  clear hY hyv hv
  have v0 : ∀ w1, Keep (fun _ => False) W2 w1 → w1.cell? ⟨g, Y * 2, none⟩ = some (.string v.kind) := fun w1 k => (own_v (HR2.out.ext k.ext).vars HVy.out).1
  have v1 : ∀ w1, Keep (fun _ => False) W2 w1 → w1.cell? ⟨g, Y * 2 + 1, none⟩ = some (.int .i64 (v.num : Int)) := fun w1 k => (own_v (HR2.out.ext k.ext).vars HVy.out).2
  have hYl := HYl.out
  clear hf hn v0 v1
  go_enter Tryz.func21, Tryz.ntmps21
  go_wp2
  rw [← HW2e.out]
  refine wp_flowT (fun _ => False) (by kernel_rfl) (by kernel_rfl) ?_
  repeat (apply FlowT.d; (intro w1 hk; unfold does; go_simp; (try go_ints); (first | exact DetR.mk | (simp only [↓IntWalk.iteOmega, Oper.doesUpon_value]; exact DetR.mk) | (simp only [↓IntWalk.iteOmega]; go_simp; (try go_ints); exact DetR.mk))); simp only [Act.put, List.setIfInBounds_toArray, List.set_cons_zero, List.set_cons_succ])
  refine FlowT.last (fun _ w' => ∃ w2, Ext W2 w2 ∧ w' = store2 w2 g (X * 2) (.var Y)) 10 rfl (by kernel_rfl) (by kernel_rfl) (fun w2 hx hk => ?_) (fun _ w4 hR4 => ?_)
  · have hV := ((HR2).out.ext hx).vars
    obtain ⟨q0, q1⟩ := own_v hV (at_some HX.out)
    have f0 := own_free hV (X * 2)
    have f1 := own_free hV (X * 2 + 1)
    unfold does
    go_simp
    exact ⟨w2, hx, rfl⟩
  obtain ⟨w2, hx2, rfl⟩ := hR4
  simp only [Act.put]
  have HS := hid (show s.stmt P k x = { s with vars := s.vars.set X (.var Y) } by unfold Rn.stmt; rw [Hkx.out, HY.out]; simp only [cond_true, Rn.set, HXe.out, Int.toNat_natCast])
  have HR5 := hid (((HR2).out.ext hx2).putV X HX.out (.var Y))
  have HO := hid ((((HW2).out.trans hx2).old n0).trans (store2_old (y := (.var Y)) (i := X * 2) ((HR2).out.vlo (b := g) rfl)))
  clear hx2
  go_wp2
  go_end0
  exact ⟨rfl, ⟨_, _, _, by rw [HS.out]; exact HR5.out⟩, HO.out⟩

set_option maxRecDepth 100000 in
set_option maxHeartbeats 12800000 in
theorem stdo_copy (a1 a2 a3 : Option Addr) (c1 c2 c3 : Nat) (P : PP) (k : Nat) (x : PS) (hxk : P.stmts[k]? = some x) (hg : P.Good x) (hkx : x.isK kCopy = true)  (s : Rn) (hs : s.Ok P) (w : World) (n0 sb : Nat) (vv tv pv : Value) (hR : RnAt w n0 sb vv tv pv s) (hP : ProgR w n0 (.slice a1 P.vars.length c1) (.slice a2 P.funs.length c2) (.slice a3 P.stmts.length c3) P) (hn0 : n0 ≤ w.heap.size) (hsm : s.things.length ≤ 100000) :
    Calls Tryz.prog 21 #[.pointer (some ⟨sb, 0, none⟩), pval a1 a2 a3 c1 c2 c3 P, .int .i64 (k : Int)] w fun e w' => e = .returned (.tuple #[]) ∧ (∃ vv' tv' pv', RnAt w' n0 sb vv' tv' pv' (s.stmt P k x)) ∧ Old n0 w w' := by
  have hk : k < P.stmts.length := by
    rcases Nat.lt_or_ge k P.stmts.length with h | h
    · exact h
    · rw [List.getElem?_eq_none h] at hxk; cases hxk
  have hml := hP.stmts.len
  obtain ⟨W1, hW1⟩ : ∃ W1, W1 = w.alloc (.cells (pcells a1 a2 a3 c1 c2 c3 P) 26) := ⟨_, rfl⟩
  have hx1 : Ext w W1 := by rw [hW1]; exact (Ext.refl _).alloc _
  obtain ⟨y, x', av, cv, rfl, hxk', e0, e1, e2, e3, hI⟩ := (hP.ext hx1).stmts.at hk
  obtain rfl := Option.some.inj (hxk.symm.trans hxk')
  obtain ⟨W2, hW2⟩ : ∃ W2, W2 = W1.alloc (.cells (scells x av cv) 58) := ⟨_, rfl⟩
  have hx2 : Ext W1 W2 := by rw [hW2]; exact (Ext.refl _).alloc _
  have HW2 := hid (hx1.trans hx2)
  have HB1 : Hid (Blk W2 w.heap.size (pcells a1 a2 (some y) c1 c2 c3 P) 26) := hid (by
    have : Blk W1 w.heap.size (pcells a1 a2 (some y) c1 c2 c3 P) 26 := by rw [hW1]; exact Blk.new _ _ _
    exact this.ext hx2)
  have hs1 : W1.heap.size = w.heap.size + 1 := by rw [hW1, heap_size_alloc]
  have HB2 : Hid (Blk W2 (w.heap.size + 1) (scells x av cv) 58) := hid (by
    rw [← hs1, hW2]; exact Blk.new _ _ _)
  have HR2 := hid (hR.ext HW2.out)
  have HP2 := hid (hP.ext HW2.out)
  have HI := hid (hI.old (hx2.old n0))
  have Hs := hid hs
  have Hg := hid hg
  have Hn0 := hid hn0
  have hgx := hg.gx
  rw [hW1] at e0 e1 e2 e3
  have HW2e : Hid (W2 = (w.alloc (.cells #[.slice a1 P.vars.length c1, .slice a2 P.funs.length c2, .slice (some y) P.stmts.length c3] 26)).alloc (.cells #[.string x.kind, .int .i64 x.x, .int .i64 x.y, .slice av x.args.length cv] 58)) := hid (by rw [hW2, hW1]; rfl)
  unfold pcells at e0 e1 e2 e3
  obtain ⟨X, hX⟩ := Int.eq_ofNat_of_zero_le hgx.1
  have HX : Hid (X < s.vars.length) := hid (by rw [hs.lv]; omega)
  have HXe := hid hX
  have hXl := HX.out
  obtain ⟨g, cap, hvv⟩ := own_some hR.vars (by have := HX.out; omega)
  subst hvv
  have hnv : s.vars.length = P.vars.length := hs.lv
  have d0 := HR2.out.blk.kc (X := fun _ => False) (fun e => e) 0 rfl
  have d1 := HR2.out.blk.kc (X := fun _ => False) (fun e => e) 1 rfl
  have d2 := HR2.out.blk.kc (X := fun _ => False) (fun e => e) 2 rfl
  have m1 := HB2.out.kc (X := fun _ => False) (fun e => e) 1 rfl
  have m2 := HB2.out.kc (X := fun _ => False) (fun e => e) 2 rfl
  have m3 := HB2.out.kc (X := fun _ => False) (fun e => e) 3 rfl
  simp only [scells, List.getElem_toArray, List.getElem_cons_zero, List.getElem_cons_succ] at d0 d1 d2 m1 m2 m3
  rw [hX] at m1
  have hsbl := hR.blk.lt
  have Hkx := hid hkx
  have hkk := hkx
  unfold PS.isK kCopy at hkk
  clear hxk hxk' hW1 hW2 hx1 hx2 hs1 hR hP hI hs hg hX hgx hkx hn0
  unfold pval
  have hf : x.isK kFun = false := isK_ne Hkx.out rfl
  have hn : x.isK kNew = false := isK_ne Hkx.out rfl
  have h1 : (x.kind.toList == [97, 100, 100, 114]) = false := isK_ne Hkx.out (k' := kAddr) rfl
  have hyv := Hg.out.yv hf hn
  obtain ⟨Y, hY⟩ := Int.eq_ofNat_of_zero_le hyv.1
  have HYl : Hid (Y < s.vars.length) := hid (by rw [hnv]; omega)
  have HY := hid hY
  rw [hY] at m2
  obtain ⟨v, hv⟩ : ∃ v, v = s.vars.getD Y .none := ⟨_, rfl⟩
  have HVy := hid (at_some HYl.out)
  rw [← hv] at HVy
  have HVat : Hid (s.at x.y = v) := hid (by unfold Rn.at; rw [hY, hv]; rfl)
  clear hY hyv hv
  have v0 : ∀ w1, Keep (fun _ => False) W2 w1 → w1.cell? ⟨g, Y * 2, none⟩ = some (.string v.kind) := fun w1 k => (own_v (HR2.out.ext k.ext).vars HVy.out).1
  have v1 : ∀ w1, Keep (fun _ => False) W2 w1 → w1.cell? ⟨g, Y * 2 + 1, none⟩ = some (.int .i64 (v.num : Int)) := fun w1 k => (own_v (HR2.out.ext k.ext).vars HVy.out).2
  have hYl := HYl.out
  clear hf hn
  go_enter Tryz.func21, Tryz.ntmps21
  go_wp2
  rw [← HW2e.out]
  refine wp_flowT (fun _ => False) (by kernel_rfl) (by kernel_rfl) ?_
  repeat (apply FlowT.d; (intro w1 hk; unfold does; go_simp; (try go_ints); (first | exact DetR.mk | (simp only [↓IntWalk.iteOmega, Oper.doesUpon_value]; exact DetR.mk) | (simp only [↓IntWalk.iteOmega]; go_simp; (try go_ints); exact DetR.mk))); simp only [Act.put, List.setIfInBounds_toArray, List.set_cons_zero, List.set_cons_succ])
  refine FlowT.last (fun _ w' => ∃ w2, Ext W2 w2 ∧ w' = store2 w2 g (X * 2) v) 15 rfl (by kernel_rfl) (by kernel_rfl) (fun w2 hx hk => ?_) (fun _ w4 hR4 => ?_)
  · have hV := ((HR2).out.ext hx).vars
    obtain ⟨q0, q1⟩ := own_v hV (at_some HX.out)
    have f0 := own_free hV (X * 2)
    have f1 := own_free hV (X * 2 + 1)
    unfold does
    go_simp
    exact ⟨w2, hx, rfl⟩
  obtain ⟨w2, hx2, rfl⟩ := hR4
  simp only [Act.put]
  have HS := hid (show s.stmt P k x = { s with vars := s.vars.set X v } by unfold Rn.stmt; rw [isK_ne Hkx.out (k' := kAddr) rfl, Hkx.out]; simp only [cond_true, cond_false, HVat.out, Rn.set, HXe.out, Int.toNat_natCast])
  have HR5 := hid (((HR2).out.ext hx2).putV X HX.out v)
  have HO := hid ((((HW2).out.trans hx2).old n0).trans (store2_old (y := v) (i := X * 2) ((HR2).out.vlo (b := g) rfl)))
  clear hx2
  go_wp2
  go_end0
  exact ⟨rfl, ⟨_, _, _, by rw [HS.out]; exact HR5.out⟩, HO.out⟩

set_option maxRecDepth 100000 in
set_option maxHeartbeats 12800000 in
theorem stdo_fun (a1 a2 a3 : Option Addr) (c1 c2 c3 : Nat) (P : PP) (k : Nat) (x : PS) (hxk : P.stmts[k]? = some x) (hg : P.Good x) (hkx : x.isK kFun = true)  (s : Rn) (hs : s.Ok P) (w : World) (n0 sb : Nat) (vv tv pv : Value) (hR : RnAt w n0 sb vv tv pv s) (hP : ProgR w n0 (.slice a1 P.vars.length c1) (.slice a2 P.funs.length c2) (.slice a3 P.stmts.length c3) P) (hn0 : n0 ≤ w.heap.size) (hsm : s.things.length ≤ 100000) :
    Calls Tryz.prog 21 #[.pointer (some ⟨sb, 0, none⟩), pval a1 a2 a3 c1 c2 c3 P, .int .i64 (k : Int)] w fun e w' => e = .returned (.tuple #[]) ∧ (∃ vv' tv' pv', RnAt w' n0 sb vv' tv' pv' (s.stmt P k x)) ∧ Old n0 w w' := by
  have hk : k < P.stmts.length := by
    rcases Nat.lt_or_ge k P.stmts.length with h | h
    · exact h
    · rw [List.getElem?_eq_none h] at hxk; cases hxk
  have hml := hP.stmts.len
  obtain ⟨W1, hW1⟩ : ∃ W1, W1 = w.alloc (.cells (pcells a1 a2 a3 c1 c2 c3 P) 26) := ⟨_, rfl⟩
  have hx1 : Ext w W1 := by rw [hW1]; exact (Ext.refl _).alloc _
  obtain ⟨y, x', av, cv, rfl, hxk', e0, e1, e2, e3, hI⟩ := (hP.ext hx1).stmts.at hk
  obtain rfl := Option.some.inj (hxk.symm.trans hxk')
  obtain ⟨W2, hW2⟩ : ∃ W2, W2 = W1.alloc (.cells (scells x av cv) 58) := ⟨_, rfl⟩
  have hx2 : Ext W1 W2 := by rw [hW2]; exact (Ext.refl _).alloc _
  have HW2 := hid (hx1.trans hx2)
  have HB1 : Hid (Blk W2 w.heap.size (pcells a1 a2 (some y) c1 c2 c3 P) 26) := hid (by
    have : Blk W1 w.heap.size (pcells a1 a2 (some y) c1 c2 c3 P) 26 := by rw [hW1]; exact Blk.new _ _ _
    exact this.ext hx2)
  have hs1 : W1.heap.size = w.heap.size + 1 := by rw [hW1, heap_size_alloc]
  have HB2 : Hid (Blk W2 (w.heap.size + 1) (scells x av cv) 58) := hid (by
    rw [← hs1, hW2]; exact Blk.new _ _ _)
  have HR2 := hid (hR.ext HW2.out)
  have HP2 := hid (hP.ext HW2.out)
  have HI := hid (hI.old (hx2.old n0))
  have Hs := hid hs
  have Hg := hid hg
  have Hn0 := hid hn0
  have hgx := hg.gx
  rw [hW1] at e0 e1 e2 e3
  have HW2e : Hid (W2 = (w.alloc (.cells #[.slice a1 P.vars.length c1, .slice a2 P.funs.length c2, .slice (some y) P.stmts.length c3] 26)).alloc (.cells #[.string x.kind, .int .i64 x.x, .int .i64 x.y, .slice av x.args.length cv] 58)) := hid (by rw [hW2, hW1]; rfl)
  unfold pcells at e0 e1 e2 e3
  obtain ⟨X, hX⟩ := Int.eq_ofNat_of_zero_le hgx.1
  have HX : Hid (X < s.vars.length) := hid (by rw [hs.lv]; omega)
  have HXe := hid hX
  have hXl := HX.out
  obtain ⟨g, cap, hvv⟩ := own_some hR.vars (by have := HX.out; omega)
  subst hvv
  have hnv : s.vars.length = P.vars.length := hs.lv
  have d0 := HR2.out.blk.kc (X := fun _ => False) (fun e => e) 0 rfl
  have d1 := HR2.out.blk.kc (X := fun _ => False) (fun e => e) 1 rfl
  have d2 := HR2.out.blk.kc (X := fun _ => False) (fun e => e) 2 rfl
  have m1 := HB2.out.kc (X := fun _ => False) (fun e => e) 1 rfl
  have m2 := HB2.out.kc (X := fun _ => False) (fun e => e) 2 rfl
  have m3 := HB2.out.kc (X := fun _ => False) (fun e => e) 3 rfl
  simp only [scells, List.getElem_toArray, List.getElem_cons_zero, List.getElem_cons_succ] at d0 d1 d2 m1 m2 m3
  rw [hX] at m1
  have hsbl := hR.blk.lt
  have Hkx := hid hkx
  have hkk := hkx
  unfold PS.isK kFun at hkk
  clear hxk hxk' hW1 hW2 hx1 hx2 hs1 hR hP hI hs hg hX hgx hkx hn0
  unfold pval
  have h1 : (x.kind.toList == [97, 100, 100, 114]) = false := isK_ne Hkx.out (k' := kAddr) rfl
  have h2 : (x.kind.toList == [99, 111, 112, 121]) = false := isK_ne Hkx.out (k' := kCopy) rfl
  have h3 : (x.kind.toList == [108, 111, 97, 100]) = false := isK_ne Hkx.out (k' := kLoad) rfl
  have h4 : (x.kind.toList == [115, 116, 111, 114, 101]) = false := isK_ne Hkx.out (k' := kStore) rfl
  have h5 : (x.kind.toList == [110, 101, 119]) = false := isK_ne Hkx.out (k' := kNew) rfl
  obtain ⟨Y, hY⟩ := Int.eq_ofNat_of_zero_le (Hg.out.yf Hkx.out).1
  have HY := hid hY
  rw [hY] at m2
  clear hY
  go_enter Tryz.func21, Tryz.ntmps21
  go_wp2
  rw [← HW2e.out]
  refine wp_flowT (fun _ => False) (by kernel_rfl) (by kernel_rfl) ?_
  repeat (apply FlowT.d; (intro w1 hk; unfold does; go_simp; (try go_ints); (first | exact DetR.mk | (simp only [↓IntWalk.iteOmega, Oper.doesUpon_value]; exact DetR.mk) | (simp only [↓IntWalk.iteOmega]; go_simp; (try go_ints); exact DetR.mk))); simp only [Act.put, List.setIfInBounds_toArray, List.set_cons_zero, List.set_cons_succ])
  refine FlowT.last (fun _ w' => ∃ w2, Ext W2 w2 ∧ w' = store2 w2 g (X * 2) (.fn Y)) 10 rfl (by kernel_rfl) (by kernel_rfl) (fun w2 hx hk => ?_) (fun _ w4 hR4 => ?_)
  · have hV := ((HR2).out.ext hx).vars
    obtain ⟨q0, q1⟩ := own_v hV (at_some HX.out)
    have f0 := own_free hV (X * 2)
    have f1 := own_free hV (X * 2 + 1)
    unfold does
    go_simp
    exact ⟨w2, hx, rfl⟩
  obtain ⟨w2, hx2, rfl⟩ := hR4
  simp only [Act.put]
  have HS := hid (show s.stmt P k x = { s with vars := s.vars.set X (.fn Y) } by unfold Rn.stmt; rw [isK_ne Hkx.out (k' := kAddr) rfl, isK_ne Hkx.out (k' := kCopy) rfl, isK_ne Hkx.out (k' := kLoad) rfl, isK_ne Hkx.out (k' := kStore) rfl, isK_ne Hkx.out (k' := kNew) rfl, Hkx.out, HY.out]; simp only [cond_true, cond_false, Rn.set, HXe.out, Int.toNat_natCast])
  have HR5 := hid (((HR2).out.ext hx2).putV X HX.out (.fn Y))
  have HO := hid ((((HW2).out.trans hx2).old n0).trans (store2_old (y := (.fn Y)) (i := X * 2) ((HR2).out.vlo (b := g) rfl)))
  clear hx2
  go_wp2
  go_end0
  exact ⟨rfl, ⟨_, _, _, by rw [HS.out]; exact HR5.out⟩, HO.out⟩
end Go.Proofs.YtkabgmohgjljkaaGreatDoor
