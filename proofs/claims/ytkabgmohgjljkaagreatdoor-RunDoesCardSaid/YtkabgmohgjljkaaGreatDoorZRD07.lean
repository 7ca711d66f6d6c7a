/- Texts of one proof, put together: W6 W1 W2. -/
import Derived.Test.YtkabgmohgjljkaaGreatDoorZRD03
import Derived.Test.YtkabgmohgjljkaaGreatDoorZRD06

/- The reference's runs: a state in memory; statements that set one variable. -/
namespace Go.Proofs.YtkabgmohgjljkaaGreatDoor
set_option linter.unusedSimpArgs false
set_option linter.unusedVariables false
open Go Go.RowKit

/-- A state in memory. -/
structure RfAt (w : World) (n0 sb : Nat) (vv tv pv : Value) (s : Rn) : Prop where
  blk : Blk w sb #[vv, tv, pv] 55
  lo : n0 ≤ sb
  vars : w.ownsRow n0 52 2 vv s.vars.length (s.vars.flatMap Vl.cells)
  things : w.ownsRow n0 52 2 tv s.things.length (s.things.flatMap Vl.cells)
  places : w.ownsRow n0 3 1 pv s.places.length (icells s.pl)
  ne : ∀ b, vv.ownBlock = some b → tv.ownBlock ≠ some b
theorem RfAt.vb {w : World} {n0 sb : Nat} {vv tv pv : Value} {s : Rn} (h : RfAt w n0 sb vv tv pv s) {b : Nat} (hb : vv.ownBlock = some b) : b ≠ sb := by
  obtain ⟨c, hc⟩ := own_ty h.vars hb
  exact Blk.ty_ne hc h.blk (by decide)
theorem RfAt.tb {w : World} {n0 sb : Nat} {vv tv pv : Value} {s : Rn} (h : RfAt w n0 sb vv tv pv s) {b : Nat} (hb : tv.ownBlock = some b) : b ≠ sb := by
  obtain ⟨c, hc⟩ := own_ty h.things hb
  exact Blk.ty_ne hc h.blk (by decide)
theorem RfAt.pb {w : World} {n0 sb : Nat} {vv tv pv : Value} {s : Rn} (h : RfAt w n0 sb vv tv pv s) {b : Nat} (hb : pv.ownBlock = some b) : b ≠ sb := by
  obtain ⟨c, hc⟩ := own_ty h.places hb
  exact Blk.ty_ne hc h.blk (by decide)
theorem RfAt.vp {w : World} {n0 sb : Nat} {vv tv pv : Value} {s : Rn} (h : RfAt w n0 sb vv tv pv s) {b : Nat} (hb : vv.ownBlock = some b) : pv.ownBlock ≠ some b := fun e => by
  obtain ⟨c, hc⟩ := own_ty h.vars hb
  obtain ⟨d, hd⟩ := own_ty h.places e
  exact Blk.ty_ne hc hd (by decide) rfl
theorem RfAt.tp {w : World} {n0 sb : Nat} {vv tv pv : Value} {s : Rn} (h : RfAt w n0 sb vv tv pv s) {b : Nat} (hb : tv.ownBlock = some b) : pv.ownBlock ≠ some b := fun e => by
  obtain ⟨c, hc⟩ := own_ty h.things hb
  obtain ⟨d, hd⟩ := own_ty h.places e
  exact Blk.ty_ne hc hd (by decide) rfl
theorem RfAt.ext {w w' : World} {n0 sb : Nat} {vv tv pv : Value} {s : Rn} (h : RfAt w n0 sb vv tv pv s) (x : Ext w w') : RfAt w' n0 sb vv tv pv s :=
  ⟨h.blk.ext x, h.lo, own_ext h.vars x, own_ext h.things x, own_ext h.places x, h.ne⟩

/-- A variable that is written. -/
theorem RfAt.putV {w : World} {n0 sb g cap n : Nat} {tv pv : Value} {s : Rn} (h : RfAt w n0 sb (.slice (some ⟨g, 0, none⟩) n cap) tv pv s) (i : Nat) (hi : i < s.vars.length) (y : Vl) : RfAt (store2 w g (i * 2) y) n0 sb (.slice (some ⟨g, 0, none⟩) n cap) tv pv { s with vars := s.vars.set i y } := by
  have k := store2_keep w g (i * 2) y
  have hn : n = s.vars.length := by
    rcases h.vars.2 with ⟨h2, _⟩ | ⟨_, _, _, h2, _⟩
    · simp at h2
    · simp only [Value.slice.injEq] at h2; exact h2.2.1
  subst hn
  refine ⟨h.blk.keep k fun e => h.vb (b := g) rfl e.symm, h.lo, ?_, row_keep h.things k fun b hb e => ?_, row_keep h.places k fun b hb e => ?_, h.ne⟩
  · simp only [List.length_set]; exact own_put2 h.vars i hi y
  · subst e; exact h.ne b rfl hb
  · subst e; exact h.vp (b := b) rfl hb
/-- A thing that is written. -/
theorem RfAt.putT {w : World} {n0 sb g cap n : Nat} {vv pv : Value} {s : Rn} (h : RfAt w n0 sb vv (.slice (some ⟨g, 0, none⟩) n cap) pv s) (i : Nat) (hi : i < s.things.length) (y : Vl) : RfAt (store2 w g (i * 2) y) n0 sb vv (.slice (some ⟨g, 0, none⟩) n cap) pv { s with things := s.things.set i y } := by
  have k := store2_keep w g (i * 2) y
  have hn : n = s.things.length := by
    rcases h.things.2 with ⟨h2, _⟩ | ⟨_, _, _, h2, _⟩
    · simp at h2
    · simp only [Value.slice.injEq] at h2; exact h2.2.1
  subst hn
  refine ⟨h.blk.keep k fun e => h.tb (b := g) rfl e.symm, h.lo, row_keep h.vars k fun b hb e => ?_, ?_, row_keep h.places k fun b hb e => ?_, h.ne⟩
  · subst e; exact h.ne b hb rfl
  · simp only [List.length_set]; exact own_put2 h.things i hi y
  · subst e; exact h.tp (b := b) rfl hb
theorem RfAt.vlo {w : World} {n0 sb : Nat} {vv tv pv : Value} {s : Rn} (h : RfAt w n0 sb vv tv pv s) {b : Nat} (hb : vv.ownBlock = some b) : n0 ≤ b := (World.ownsRow.lt h.vars b hb).1
theorem RfAt.tlo {w : World} {n0 sb : Nat} {vv tv pv : Value} {s : Rn} (h : RfAt w n0 sb vv tv pv s) {b : Nat} (hb : tv.ownBlock = some b) : n0 ≤ b := (World.ownsRow.lt h.things b hb).1

theorem RfAt.vn {w : World} {n0 sb g cap n : Nat} {tv pv : Value} {s : Rn} (h : RfAt w n0 sb (.slice (some ⟨g, 0, none⟩) n cap) tv pv s) : w.ownsRow n0 52 2 (.slice (some ⟨g, 0, none⟩) n cap) n (s.vars.flatMap Vl.cells) := by
  have hn : n = s.vars.length := by
    rcases h.vars.2 with ⟨h2, _⟩ | ⟨_, _, _, h2, _⟩
    · simp at h2
    · simp only [Value.slice.injEq] at h2; exact h2.2.1
  subst hn
  exact h.vars

set_option maxRecDepth 100000 in
set_option maxHeartbeats 12800000 in
theorem rstdo_addr (a1 a2 a3 : Option Addr) (c1 c2 c3 : Nat) (P : PP) (k : Nat) (x : PS) (hxk : P.stmts[k]? = some x) (hg : P.Good x) (hkx : x.isK kAddr = true)  (s : Rn) (hs : s.Ok P) (w : World) (n0 sb : Nat) (vv tv pv : Value) (hR : RfAt w n0 sb vv tv pv s) (hP : ProgR w n0 (.slice a1 P.vars.length c1) (.slice a2 P.funs.length c2) (.slice a3 P.stmts.length c3) P) (hn0 : n0 ≤ w.heap.size) (hsm : s.things.length ≤ 100000) :
    Calls Tryz.prog 13 #[.pointer (some ⟨sb, 0, none⟩), pval a1 a2 a3 c1 c2 c3 P, .int .i64 (k : Int)] w fun e w' => e = .returned (.tuple #[]) ∧ (∃ vv' tv' pv', RfAt w' n0 sb vv' tv' pv' (s.stmt P k x)) ∧ Old n0 w w' := by
  have hk : k < P.stmts.length := by
    rcases Nat.lt_or_ge k P.stmts.length with h | h
    · exact h
    · rw [List.getElem?_eq_none h] at hxk; cases hxk
  have hml := hP.stmts.len
  obtain ⟨W1, hW1⟩ : ∃ W1, W1 = w.alloc (.cells (pcells a1 a2 a3 c1 c2 c3 P) 26) := ⟨_, rfl⟩
  have hx1 : Ext w W1 := by rw [hW1]; exact (Ext.refl _).alloc _
  obtain ⟨y, x', av, cv, rfl, hxk', e0, e1, e2, e3, hI⟩ := (hP.ext hx1).stmts.at hk
  obtain rfl := Option.some.inj (hxk.symm.trans hxk')
  obtain ⟨W2, hW2⟩ : ∃ W2, W2 = W1.alloc (.cells (scells x av cv) 58) := ⟨_, rfl⟩
  have hx2 : Ext W1 W2 := by rw [hW2]; exact (Ext.refl _).alloc _
  have HW2 := hid (hx1.trans hx2)
  have HB1 : Hid (Blk W2 w.heap.size (pcells a1 a2 (some y) c1 c2 c3 P) 26) := hid (by
    have : Blk W1 w.heap.size (pcells a1 a2 (some y) c1 c2 c3 P) 26 := by rw [hW1]; exact Blk.new _ _ _
    exact this.ext hx2)
  have hs1 : W1.heap.size = w.heap.size + 1 := by rw [hW1, heap_size_alloc]
  have HB2 : Hid (Blk W2 (w.heap.size + 1) (scells x av cv) 58) := hid (by
    rw [← hs1, hW2]; exact Blk.new _ _ _)
  have HR2 := hid (hR.ext HW2.out)
  have HP2 := hid (hP.ext HW2.out)
  have HI := hid (hI.old (hx2.old n0))
  have Hs := hid hs
  have Hg := hid hg
  have Hn0 := hid hn0
  have hgx := hg.gx
  rw [hW1] at e0 e1 e2 e3
  have HW2e : Hid (W2 = (w.alloc (.cells #[.slice a1 P.vars.length c1, .slice a2 P.funs.length c2, .slice (some y) P.stmts.length c3] 26)).alloc (.cells #[.string x.kind, .int .i64 x.x, .int .i64 x.y, .slice av x.args.length cv] 58)) := hid (by rw [hW2, hW1]; rfl)
  unfold pcells at e0 e1 e2 e3
  obtain ⟨X, hX⟩ := Int.eq_ofNat_of_zero_le hgx.1
  have HX : Hid (X < s.vars.length) := hid (by rw [hs.lv]; omega)
  have HXe := hid hX
  have hXl := HX.out
  obtain ⟨g, cap, hvv⟩ := own_some hR.vars (by have := HX.out; omega)
  subst hvv
  have hnv : s.vars.length = P.vars.length := hs.lv
  have d0 := HR2.out.blk.kc (X := fun _ => False) (fun e => e) 0 rfl
  have d1 := HR2.out.blk.kc (X := fun _ => False) (fun e => e) 1 rfl
  have d2 := HR2.out.blk.kc (X := fun _ => False) (fun e => e) 2 rfl
  have m1 := HB2.out.kc (X := fun _ => False) (fun e => e) 1 rfl
  have m2 := HB2.out.kc (X := fun _ => False) (fun e => e) 2 rfl
  have m3 := HB2.out.kc (X := fun _ => False) (fun e => e) 3 rfl
  simp only [scells, List.getElem_toArray, List.getElem_cons_zero, List.getElem_cons_succ] at d0 d1 d2 m1 m2 m3
  rw [hX] at m1
  have hsbl := hR.blk.lt
  have Hkx := hid hkx
  have hkk := hkx
  unfold PS.isK kAddr at hkk
  clear hxk hxk' hW1 hW2 hx1 hx2 hs1 hR hP hI hs hg hX hgx hkx hn0
  unfold pval
  have hf : x.isK kFun = false := isK_ne Hkx.out rfl
  have hn : x.isK kNew = false := isK_ne Hkx.out rfl
  have hyv := Hg.out.yv hf hn
  obtain ⟨Y, hY⟩ := Int.eq_ofNat_of_zero_le hyv.1
  have HYl : Hid (Y < s.vars.length) := hid (by rw [hnv]; omega)
  have HY := hid hY
  rw [hY] at m2
  obtain ⟨v, hv⟩ : ∃ v, v = s.vars.getD Y .none := ⟨_, rfl⟩
  have HVy := hid (at_some HYl.out)
  rw [← hv] at HVy
  have HVat : Hid (s.at x.y = v) := hid (by unfold Rn.at; rw [hY, hv]; rfl)
  clear hY hyv hv
  have v0 : ∀ w1, Keep (fun _ => False) W2 w1 → w1.cell? ⟨g, Y * 2, none⟩ = some (.string v.kind) := fun w1 k => (own_v (HR2.out.ext k.ext).vars HVy.out).1
  have v1 : ∀ w1, Keep (fun _ => False) W2 w1 → w1.cell? ⟨g, Y * 2 + 1, none⟩ = some (.int .i64 (v.num : Int)) := fun w1 k => (own_v (HR2.out.ext k.ext).vars HVy.out).2
  have hYl := HYl.out
  clear hf hn v0 v1
  go_enter Tryz.func13, Tryz.ntmps13
  go_wp2
  rw [← HW2e.out]
  refine wp_flowT (fun _ => False) (by kernel_rfl) (by kernel_rfl) ?_
  repeat (apply FlowT.d; (intro w1 hk; unfold does; go_simp; (try go_ints); (first | exact DetR.mk | (simp only [↓IntWalk.iteOmega, Oper.doesUpon_value]; exact DetR.mk) | (simp only [↓IntWalk.iteOmega]; go_simp; (try go_ints); exact DetR.mk))); simp only [Act.put, List.setIfInBounds_toArray, List.set_cons_zero, List.set_cons_succ])
  refine FlowT.last (fun _ w' => ∃ w2, Ext W2 w2 ∧ w' = store2 w2 g (X * 2) (.var Y)) 10 rfl (by kernel_rfl) (by kernel_rfl) (fun w2 hx hk => ?_) (fun _ w4 hR4 => ?_)
  · have hV := ((HR2).out.ext hx).vars
    obtain ⟨q0, q1⟩ := own_v hV (at_some HX.out)
    have f0 := own_free hV (X * 2)
    have f1 := own_free hV (X * 2 + 1)
    unfold does
    go_simp
    exact ⟨w2, hx, rfl⟩
  obtain ⟨w2, hx2, rfl⟩ := hR4
  simp only [Act.put]
  have HS := hid (show s.stmt P k x = { s with vars := s.vars.set X (.var Y) } by unfold Rn.stmt; rw [Hkx.out, HY.out]; simp only [cond_true, Rn.set, HXe.out, Int.toNat_natCast])
  have HR5 := hid (((HR2).out.ext hx2).putV X HX.out (.var Y))
  have HO := hid ((((HW2).out.trans hx2).old n0).trans (store2_old (y := (.var Y)) (i := X * 2) ((HR2).out.vlo (b := g) rfl)))
  clear hx2
  go_wp2
  go_end0
  exact ⟨rfl, ⟨_, _, _, by rw [HS.out]; exact HR5.out⟩, HO.out⟩

set_option maxRecDepth 100000 in
set_option maxHeartbeats 12800000 in
theorem rstdo_copy (a1 a2 a3 : Option Addr) (c1 c2 c3 : Nat) (P : PP) (k : Nat) (x : PS) (hxk : P.stmts[k]? = some x) (hg : P.Good x) (hkx : x.isK kCopy = true)  (s : Rn) (hs : s.Ok P) (w : World) (n0 sb : Nat) (vv tv pv : Value) (hR : RfAt w n0 sb vv tv pv s) (hP : ProgR w n0 (.slice a1 P.vars.length c1) (.slice a2 P.funs.length c2) (.slice a3 P.stmts.length c3) P) (hn0 : n0 ≤ w.heap.size) (hsm : s.things.length ≤ 100000) :
    Calls Tryz.prog 13 #[.pointer (some ⟨sb, 0, none⟩), pval a1 a2 a3 c1 c2 c3 P, .int .i64 (k : Int)] w fun e w' => e = .returned (.tuple #[]) ∧ (∃ vv' tv' pv', RfAt w' n0 sb vv' tv' pv' (s.stmt P k x)) ∧ Old n0 w w' := by
  have hk : k < P.stmts.length := by
    rcases Nat.lt_or_ge k P.stmts.length with h | h
    · exact h
    · rw [List.getElem?_eq_none h] at hxk; cases hxk
  have hml := hP.stmts.len
  obtain ⟨W1, hW1⟩ : ∃ W1, W1 = w.alloc (.cells (pcells a1 a2 a3 c1 c2 c3 P) 26) := ⟨_, rfl⟩
  have hx1 : Ext w W1 := by rw [hW1]; exact (Ext.refl _).alloc _
  obtain ⟨y, x', av, cv, rfl, hxk', e0, e1, e2, e3, hI⟩ := (hP.ext hx1).stmts.at hk
  obtain rfl := Option.some.inj (hxk.symm.trans hxk')
  obtain ⟨W2, hW2⟩ : ∃ W2, W2 = W1.alloc (.cells (scells x av cv) 58) := ⟨_, rfl⟩
  have hx2 : Ext W1 W2 := by rw [hW2]; exact (Ext.refl _).alloc _
  have HW2 := hid (hx1.trans hx2)
  have HB1 : Hid (Blk W2 w.heap.size (pcells a1 a2 (some y) c1 c2 c3 P) 26) := hid (by
    have : Blk W1 w.heap.size (pcells a1 a2 (some y) c1 c2 c3 P) 26 := by rw [hW1]; exact Blk.new _ _ _
    exact this.ext hx2)
  have hs1 : W1.heap.size = w.heap.size + 1 := by rw [hW1, heap_size_alloc]
  have HB2 : Hid (Blk W2 (w.heap.size + 1) (scells x av cv) 58) := hid (by
    rw [← hs1, hW2]; exact Blk.new _ _ _)
  have HR2 := hid (hR.ext HW2.out)
  have HP2 := hid (hP.ext HW2.out)
  have HI := hid (hI.old (hx2.old n0))
  have Hs := hid hs
  have Hg := hid hg
  have Hn0 := hid hn0
  have hgx := hg.gx
  rw [hW1] at e0 e1 e2 e3
  have HW2e : Hid (W2 = (w.alloc (.cells #[.slice a1 P.vars.length c1, .slice a2 P.funs.length c2, .slice (some y) P.stmts.length c3] 26)).alloc (.cells #[.string x.kind, .int .i64 x.x, .int .i64 x.y, .slice av x.args.length cv] 58)) := hid (by rw [hW2, hW1]; rfl)
  unfold pcells at e0 e1 e2 e3
  obtain ⟨X, hX⟩ := Int.eq_ofNat_of_zero_le hgx.1
  have HX : Hid (X < s.vars.length) := hid (by rw [hs.lv]; omega)
  have HXe := hid hX
  have hXl := HX.out
  obtain ⟨g, cap, hvv⟩ := own_some hR.vars (by have := HX.out; omega)
  subst hvv
  have hnv : s.vars.length = P.vars.length := hs.lv
  have d0 := HR2.out.blk.kc (X := fun _ => False) (fun e => e) 0 rfl
  have d1 := HR2.out.blk.kc (X := fun _ => False) (fun e => e) 1 rfl
  have d2 := HR2.out.blk.kc (X := fun _ => False) (fun e => e) 2 rfl
  have m1 := HB2.out.kc (X := fun _ => False) (fun e => e) 1 rfl
  have m2 := HB2.out.kc (X := fun _ => False) (fun e => e) 2 rfl
  have m3 := HB2.out.kc (X := fun _ => False) (fun e => e) 3 rfl
  simp only [scells, List.getElem_toArray, List.getElem_cons_zero, List.getElem_cons_succ] at d0 d1 d2 m1 m2 m3
  rw [hX] at m1
  have hsbl := hR.blk.lt
  have Hkx := hid hkx
  have hkk := hkx
  unfold PS.isK kCopy at hkk
  clear hxk hxk' hW1 hW2 hx1 hx2 hs1 hR hP hI hs hg hX hgx hkx hn0
  unfold pval
  have hf : x.isK kFun = false := isK_ne Hkx.out rfl
  have hn : x.isK kNew = false := isK_ne Hkx.out rfl
  have h1 : (x.kind.toList == [97, 100, 100, 114]) = false := isK_ne Hkx.out (k' := kAddr) rfl
  have hyv := Hg.out.yv hf hn
  obtain ⟨Y, hY⟩ := Int.eq_ofNat_of_zero_le hyv.1
  have HYl : Hid (Y < s.vars.length) := hid (by rw [hnv]; omega)
  have HY := hid hY
  rw [hY] at m2
  obtain ⟨v, hv⟩ : ∃ v, v = s.vars.getD Y .none := ⟨_, rfl⟩
  have HVy := hid (at_some HYl.out)
  rw [← hv] at HVy
  have HVat : Hid (s.at x.y = v) := hid (by unfold Rn.at; rw [hY, hv]; rfl)
  clear hY hyv hv
  have v0 : ∀ w1, Keep (fun _ => False) W2 w1 → w1.cell? ⟨g, Y * 2, none⟩ = some (.string v.kind) := fun w1 k => (own_v (HR2.out.ext k.ext).vars HVy.out).1
  have v1 : ∀ w1, Keep (fun _ => False) W2 w1 → w1.cell? ⟨g, Y * 2 + 1, none⟩ = some (.int .i64 (v.num : Int)) := fun w1 k => (own_v (HR2.out.ext k.ext).vars HVy.out).2
  have hYl := HYl.out
  clear hf hn
  go_enter Tryz.func13, Tryz.ntmps13
  go_wp2
  rw [← HW2e.out]
  refine wp_flowT (fun _ => False) (by kernel_rfl) (by kernel_rfl) ?_
  repeat (apply FlowT.d; (intro w1 hk; unfold does; go_simp; (try go_ints); (first | exact DetR.mk | (simp only [↓IntWalk.iteOmega, Oper.doesUpon_value]; exact DetR.mk) | (simp only [↓IntWalk.iteOmega]; go_simp; (try go_ints); exact DetR.mk))); simp only [Act.put, List.setIfInBounds_toArray, List.set_cons_zero, List.set_cons_succ])
  refine FlowT.last (fun _ w' => ∃ w2, Ext W2 w2 ∧ w' = store2 w2 g (X * 2) v) 15 rfl (by kernel_rfl) (by kernel_rfl) (fun w2 hx hk => ?_) (fun _ w4 hR4 => ?_)
  · have hV := ((HR2).out.ext hx).vars
    obtain ⟨q0, q1⟩ := own_v hV (at_some HX.out)
    have f0 := own_free hV (X * 2)
    have f1 := own_free hV (X * 2 + 1)
    unfold does
    go_simp
    exact ⟨w2, hx, rfl⟩
  obtain ⟨w2, hx2, rfl⟩ := hR4
  simp only [Act.put]
  have HS := hid (show s.stmt P k x = { s with vars := s.vars.set X v } by unfold Rn.stmt; rw [isK_ne Hkx.out (k' := kAddr) rfl, Hkx.out]; simp only [cond_true, cond_false, HVat.out, Rn.set, HXe.out, Int.toNat_natCast])
  have HR5 := hid (((HR2).out.ext hx2).putV X HX.out v)
  have HO := hid ((((HW2).out.trans hx2).old n0).trans (store2_old (y := v) (i := X * 2) ((HR2).out.vlo (b := g) rfl)))
  clear hx2
  go_wp2
  go_end0
  exact ⟨rfl, ⟨_, _, _, by rw [HS.out]; exact HR5.out⟩, HO.out⟩

set_option maxRecDepth 100000 in
set_option maxHeartbeats 12800000 in
theorem rstdo_fun (a1 a2 a3 : Option Addr) (c1 c2 c3 : Nat) (P : PP) (k : Nat) (x : PS) (hxk : P.stmts[k]? = some x) (hg : P.Good x) (hkx : x.isK kFun = true)  (s : Rn) (hs : s.Ok P) (w : World) (n0 sb : Nat) (vv tv pv : Value) (hR : RfAt w n0 sb vv tv pv s) (hP : ProgR w n0 (.slice a1 P.vars.length c1) (.slice a2 P.funs.length c2) (.slice a3 P.stmts.length c3) P) (hn0 : n0 ≤ w.heap.size) (hsm : s.things.length ≤ 100000) :
    Calls Tryz.prog 13 #[.pointer (some ⟨sb, 0, none⟩), pval a1 a2 a3 c1 c2 c3 P, .int .i64 (k : Int)] w fun e w' => e = .returned (.tuple #[]) ∧ (∃ vv' tv' pv', RfAt w' n0 sb vv' tv' pv' (s.stmt P k x)) ∧ Old n0 w w' := by
  have hk : k < P.stmts.length := by
    rcases Nat.lt_or_ge k P.stmts.length with h | h
    · exact h
    · rw [List.getElem?_eq_none h] at hxk; cases hxk
  have hml := hP.stmts.len
  obtain ⟨W1, hW1⟩ : ∃ W1, W1 = w.alloc (.cells (pcells a1 a2 a3 c1 c2 c3 P) 26) := ⟨_, rfl⟩
  have hx1 : Ext w W1 := by rw [hW1]; exact (Ext.refl _).alloc _
  obtain ⟨y, x', av, cv, rfl, hxk', e0, e1, e2, e3, hI⟩ := (hP.ext hx1).stmts.at hk
  obtain rfl := Option.some.inj (hxk.symm.trans hxk')
  obtain ⟨W2, hW2⟩ : ∃ W2, W2 = W1.alloc (.cells (scells x av cv) 58) := ⟨_, rfl⟩
  have hx2 : Ext W1 W2 := by rw [hW2]; exact (Ext.refl _).alloc _
  have HW2 := hid (hx1.trans hx2)
  have HB1 : Hid (Blk W2 w.heap.size (pcells a1 a2 (some y) c1 c2 c3 P) 26) := hid (by
    have : Blk W1 w.heap.size (pcells a1 a2 (some y) c1 c2 c3 P) 26 := by rw [hW1]; exact Blk.new _ _ _
    exact this.ext hx2)
  have hs1 : W1.heap.size = w.heap.size + 1 := by rw [hW1, heap_size_alloc]
  have HB2 : Hid (Blk W2 (w.heap.size + 1) (scells x av cv) 58) := hid (by
    rw [← hs1, hW2]; exact Blk.new _ _ _)
  have HR2 := hid (hR.ext HW2.out)
  have HP2 := hid (hP.ext HW2.out)
  have HI := hid (hI.old (hx2.old n0))
  have Hs := hid hs
  have Hg := hid hg
  have Hn0 := hid hn0
  have hgx := hg.gx
  rw [hW1] at e0 e1 e2 e3
  have HW2e : Hid (W2 = (w.alloc (.cells #[.slice a1 P.vars.length c1, .slice a2 P.funs.length c2, .slice (some y) P.stmts.length c3] 26)).alloc (.cells #[.string x.kind, .int .i64 x.x, .int .i64 x.y, .slice av x.args.length cv] 58)) := hid (by rw [hW2, hW1]; rfl)
  unfold pcells at e0 e1 e2 e3
  obtain ⟨X, hX⟩ := Int.eq_ofNat_of_zero_le hgx.1
  have HX : Hid (X < s.vars.length) := hid (by rw [hs.lv]; omega)
  have HXe := hid hX
  have hXl := HX.out
  obtain ⟨g, cap, hvv⟩ := own_some hR.vars (by have := HX.out; omega)
  subst hvv
  have hnv : s.vars.length = P.vars.length := hs.lv
  have d0 := HR2.out.blk.kc (X := fun _ => False) (fun e => e) 0 rfl
  have d1 := HR2.out.blk.kc (X := fun _ => False) (fun e => e) 1 rfl
  have d2 := HR2.out.blk.kc (X := fun _ => False) (fun e => e) 2 rfl
  have m1 := HB2.out.kc (X := fun _ => False) (fun e => e) 1 rfl
  have m2 := HB2.out.kc (X := fun _ => False) (fun e => e) 2 rfl
  have m3 := HB2.out.kc (X := fun _ => False) (fun e => e) 3 rfl
  simp only [scells, List.getElem_toArray, List.getElem_cons_zero, List.getElem_cons_succ] at d0 d1 d2 m1 m2 m3
  rw [hX] at m1
  have hsbl := hR.blk.lt
  have Hkx := hid hkx
  have hkk := hkx
  unfold PS.isK kFun at hkk
  clear hxk hxk' hW1 hW2 hx1 hx2 hs1 hR hP hI hs hg hX hgx hkx hn0
  unfold pval
  have h1 : (x.kind.toList == [97, 100, 100, 114]) = false := isK_ne Hkx.out (k' := kAddr) rfl
  have h2 : (x.kind.toList == [99, 111, 112, 121]) = false := isK_ne Hkx.out (k' := kCopy) rfl
  have h3 : (x.kind.toList == [108, 111, 97, 100]) = false := isK_ne Hkx.out (k' := kLoad) rfl
  have h4 : (x.kind.toList == [115, 116, 111, 114, 101]) = false := isK_ne Hkx.out (k' := kStore) rfl
  have h5 : (x.kind.toList == [110, 101, 119]) = false := isK_ne Hkx.out (k' := kNew) rfl
  obtain ⟨Y, hY⟩ := Int.eq_ofNat_of_zero_le (Hg.out.yf Hkx.out).1
  have HY := hid hY
  rw [hY] at m2
  clear hY
  go_enter Tryz.func13, Tryz.ntmps13
  go_wp2
  rw [← HW2e.out]
  refine wp_flowT (fun _ => False) (by kernel_rfl) (by kernel_rfl) ?_
  repeat (apply FlowT.d; (intro w1 hk; unfold does; go_simp; (try go_ints); (first | exact DetR.mk | (simp only [↓IntWalk.iteOmega, Oper.doesUpon_value]; exact DetR.mk) | (simp only [↓IntWalk.iteOmega]; go_simp; (try go_ints); exact DetR.mk))); simp only [Act.put, List.setIfInBounds_toArray, List.set_cons_zero, List.set_cons_succ])
  refine FlowT.last (fun _ w' => ∃ w2, Ext W2 w2 ∧ w' = store2 w2 g (X * 2) (.fn Y)) 10 rfl (by kernel_rfl) (by kernel_rfl) (fun w2 hx hk => ?_) (fun _ w4 hR4 => ?_)
  · have hV := ((HR2).out.ext hx).vars
    obtain ⟨q0, q1⟩ := own_v hV (at_some HX.out)
    have f0 := own_free hV (X * 2)
    have f1 := own_free hV (X * 2 + 1)
    unfold does
    go_simp
    exact ⟨w2, hx, rfl⟩
  obtain ⟨w2, hx2, rfl⟩ := hR4
  simp only [Act.put]
  have HS := hid (show s.stmt P k x = { s with vars := s.vars.set X (.fn Y) } by unfold Rn.stmt; rw [isK_ne Hkx.out (k' := kAddr) rfl, isK_ne Hkx.out (k' := kCopy) rfl, isK_ne Hkx.out (k' := kLoad) rfl, isK_ne Hkx.out (k' := kStore) rfl, isK_ne Hkx.out (k' := kNew) rfl, Hkx.out, HY.out]; simp only [cond_true, cond_false, Rn.set, HXe.out, Int.toNat_natCast])
  have HR5 := hid (((HR2).out.ext hx2).putV X HX.out (.fn Y))
  have HO := hid ((((HW2).out.trans hx2).old n0).trans (store2_old (y := (.fn Y)) (i := X * 2) ((HR2).out.vlo (b := g) rfl)))
  clear hx2
  go_wp2
  go_end0
  exact ⟨rfl, ⟨_, _, _, by rw [HS.out]; exact HR5.out⟩, HO.out⟩
end Go.Proofs.YtkabgmohgjljkaaGreatDoor


/- The reference's programs: variables, lists, names. -/
namespace Go.Proofs.YtkabgmohgjljkaaGreatDoor
set_option linter.unusedSimpArgs false
set_option linter.unusedVariables false
open Go Go.RowKit

theorem PP.inV_eq (P : PP) (n : Int) : P.inV n = (decide (0 ≤ n) && decide (n < P.vars.length)) := by
  unfold PP.inV
  by_cases h1 : n < 0
  · have h2 : ¬ 0 ≤ n := by omega
    simp [h1, h2]
  · by_cases h2 : n < P.vars.length
    · have h3 : 0 ≤ n := by omega
      have h4 : ¬ (P.vars.length : Int) ≤ n := by omega
      simp [h1, h2, h3, h4]
    · have h4 : (P.vars.length : Int) ≤ n := by omega
      simp [h2, h4]
set_option maxRecDepth 100000 in
set_option maxHeartbeats 1600000 in
theorem risvar_any (a1 a2 a3 : Option Addr) (c1 c2 c3 : Nat) (P : PP) (n : Int) (w : World) :
    Calls Tryz.prog 24 #[pval a1 a2 a3 c1 c2 c3 P, .int .i64 n] w fun e w' => e = .returned (.bool (P.inV n)) ∧ Ext w w' := by
  have Hr := hid (PP.inV_eq P n)
  unfold pval
  generalize P.funs.length = m2 at *
  generalize P.stmts.length = m3 at *
  generalize P.vars.length = m at *
  go_enter Tryz.func24, Tryz.ntmps24
  by_cases hn : 0 ≤ n
  · by_cases hm : n < m
    · go_wp2
      go_ret
      exact ⟨by rw [Hr.out, decide_eq_true hn, decide_eq_true hm]; rfl, (Ext.refl _).alloc _⟩
    · go_wp2
      go_ret
      exact ⟨by rw [Hr.out, decide_eq_true hn, decide_eq_false (show ¬ n < (m : Int) by omega)]; rfl, (Ext.refl _).alloc _⟩
  · go_wp2
    go_ret
    exact ⟨by rw [Hr.out, decide_eq_false (show ¬ 0 ≤ n by omega)]; rfl, (Ext.refl _).alloc _⟩

set_option maxRecDepth 100000 in
set_option maxHeartbeats 1600000 in
theorem rarevars_any (a1 a2 a3 : Option Addr) (c1 c2 c3 : Nat) (P : PP) (v : Value) (l : List Int) (w : World) (n0 : Nat) (h : IntsR w n0 v l) :
    Calls Tryz.prog 23 #[pval a1 a2 a3 c1 c2 c3 P, v] w fun e w' => e = .returned (.bool (P.allV l)) ∧ Ext w w' := by
  have HI := hid h
  obtain ⟨aa, ca, rfl, h2, h3, h4, h5⟩ := h
  have hml : (l.length : Int) ≤ 9223372036854775807 := by omega
  have H4 := hid h4
  have H5 := hid h5
  obtain ⟨W, hW⟩ : ∃ W, W = w.alloc (.cells (pcells a1 a2 a3 c1 c2 c3 P) 26) := ⟨_, rfl⟩
  have HX : Hid (Ext w W) := hid (by rw [hW]; exact (Ext.refl _).alloc _)
  have HB : Hid (Blk W w.heap.size (pcells a1 a2 a3 c1 c2 c3 P) 26) := hid (by rw [hW]; exact Blk.new _ _ _)
  have HV := fun n w1 => hid (risvar_any a1 a2 a3 c1 c2 c3 P n w1)
  unfold pval at HV ⊢
  unfold pcells at hW
  have HW := hid hW
  clear h2 h3 h4 h5 hW
  go_enter Tryz.func23, Tryz.ntmps23
  go_wp2
  rw [← HW.out]
  go_loopw [5] (fun t5 wr => ∃ k : Nat, t5 = .int .i64 (k : Int) ∧ k ≤ l.length ∧ (∀ j t, j < k → l[j]? = some t → P.inV t = true) ∧ Ext W wr) (fun t5 _ => l.length - (intOf t5).toNat)
  case atStart => exact ⟨0, rfl, Nat.zero_le _, fun j t h => by omega, Ext.refl _⟩
  case round =>
    obtain ⟨k, rfl, hk, hp, hx⟩ := hrel
    have Hp := hid hp
    have Hx := hid hx
    clear hp hx
    by_cases hlt : k < l.length
    · obtain ⟨y, rfl⟩ := H4.out (by omega)
      obtain ⟨q, hq⟩ : ∃ q, l[k]? = some q := ⟨_, List.getElem?_eq_getElem hlt⟩
      have hc := (HX.out.trans Hx.out).cellx ((H5.out y rfl (by omega)).2 k hlt q hq)
      have hcK : ∀ w1, Keep (fun _ => False) wr w1 → w1.cell? (y.add k) = some (.int .i64 q) := fun w1 k => k.ext.cellx hc
      have d0 := (HB.out.ext Hx.out).kc (X := fun _ => False) (fun e => e) 0 rfl
      have d1 := (HB.out.ext Hx.out).kc (X := fun _ => False) (fun e => e) 1 rfl
      have d2 := (HB.out.ext Hx.out).kc (X := fun _ => False) (fun e => e) 2 rfl
      simp only [pcells, List.getElem_toArray, List.getElem_cons_zero, List.getElem_cons_succ] at d0 d1 d2
      have Hq := hid hq
      clear hq hc
      go_wp2
      refine wp_flowT (fun _ => False) (by kernel_rfl) (by kernel_rfl) ?_
      repeat (apply FlowT.d; (intro w1 hk; unfold does; go_simp; (try go_ints); (first | exact DetR.mk | (simp only [↓IntWalk.iteOmega, Oper.doesUpon_value]; exact DetR.mk) | (simp only [↓IntWalk.iteOmega]; go_simp; (try go_ints); exact DetR.mk))); simp only [Act.put, List.setIfInBounds_toArray, List.set_cons_zero, List.set_cons_succ])
      apply FlowT.d
      · intro w1 hk
        unfold does
        go_simp
        exact CallR.det ((HV q w1).out)
      simp only [Act.put, List.setIfInBounds_toArray, List.set_cons_zero, List.set_cons_succ]
      repeat (apply FlowT.d; (intro w1 hk; unfold does; go_simp; (try go_ints); (first | exact DetR.mk | (simp only [↓IntWalk.iteOmega, Oper.doesUpon_value]; exact DetR.mk) | (simp only [↓IntWalk.iteOmega]; go_simp; (try go_ints); exact DetR.mk))); simp only [Act.put, List.setIfInBounds_toArray, List.set_cons_zero, List.set_cons_succ])
      refine FlowT.fin fun w2 hx2 hk2 => ?_
      have HX2 := hid (Hx.out.trans hx2)
      clear hx2 hk2 hcK d0 d1 d2
      cases hv : P.inV q with
      | true =>
        have Hv := hid hv
        clear hv
        go_wp2
        go_roundw
        case rel =>
          refine ⟨k + 1, by go_num, by omega, fun j t hj ht => ?_, HX2.out⟩
          by_cases hjk : j = k
          · subst hjk
            obtain rfl := Option.some.inj (Hq.out.symm.trans ht)
            exact Hv.out
          · exact Hp.out j t (by omega) ht
        case measure => simp [intOf]; omega
      | false =>
        have Hr := hid (show P.allV l = false from List.all_eq_false.2 ⟨q, List.mem_of_getElem? Hq.out, by rw [hv]; decide⟩)
        go_wp2
        go_ret
        exact ⟨by rw [Hr.out]; rfl, HX.out.trans HX2.out⟩
    · obtain rfl : k = l.length := by omega
      have Hr := hid (show P.allV l = true from List.all_eq_true.2 fun t ht => by
        obtain ⟨j, hj, e⟩ := List.mem_iff_getElem.1 ht
        exact Hp.out j t hj (by rw [List.getElem?_eq_getElem hj, e]))
      go_wp2
      go_ret
      exact ⟨by rw [Hr.out]; rfl, HX.out.trans Hx.out⟩

set_option maxRecDepth 100000 in
set_option maxHeartbeats 1600000 in
theorem rhas_any (v : Value) (l : List Int) (s : Int) (w : World) (n0 : Nat) (h : IntsR w n0 v l) :
    Calls Tryz.prog 25 #[v, .int .i64 s] w fun e w' => e = .returned (.bool (decide (s ∈ l))) ∧ w = w' := by
  obtain ⟨aa, ca, rfl, h2, h3, h4, h5⟩ := h
  have hml : (l.length : Int) ≤ 9223372036854775807 := by omega
  have H4 := hid h4
  have H5 := hid h5
  clear h2 h3 h4 h5
  go_enter Tryz.func25, Tryz.ntmps25
  go_wp2
  go_loop [5] (fun t5 => ∃ k : Nat, t5 = .int .i64 (k : Int) ∧ k ≤ l.length ∧ ∀ j t, j < k → l[j]? = some t → t ≠ s) (fun t5 => l.length - (intOf t5).toNat)
  case atStart => exact ⟨0, rfl, Nat.zero_le _, fun j t h => by omega⟩
  case round =>
    obtain ⟨k, rfl, hk, hp⟩ := hrel
    have Hp := hid hp
    clear hp
    by_cases hlt : k < l.length
    · obtain ⟨y, rfl⟩ := H4.out (by omega)
      obtain ⟨q, hq⟩ : ∃ q, l[k]? = some q := ⟨_, List.getElem?_eq_getElem hlt⟩
      have hc := (H5.out y rfl (by omega)).2 k hlt q hq
      have Hq := hid hq
      clear hq
      by_cases he : q = s
      · subst he
        have Hin := hid (List.mem_of_getElem? Hq.out)
        go_wp2
        go_ret
        exact ⟨by rw [decide_eq_true Hin.out]; rfl, rfl⟩
      · have He := hid he
        go_wp2
        refine ⟨⟨k + 1, by go_num, by omega, fun j t hj ht => ?_⟩, by simp [intOf]; omega⟩
        by_cases hjk : j = k
        · subst hjk
          obtain rfl := Option.some.inj (Hq.out.symm.trans ht)
          exact He.out
        · exact Hp.out j t (by omega) ht
    · obtain rfl : k = l.length := by omega
      have Hn := hid (show ¬ s ∈ l from fun ht => by
        obtain ⟨j, hj, e⟩ := List.mem_iff_getElem.1 ht
        exact Hp.out j s hj (by rw [List.getElem?_eq_getElem hj, e]) rfl)
      go_wp2
      go_ret
      exact ⟨by rw [decide_eq_false Hn.out]; rfl, rfl⟩

theorem eqB_comm (s t : ByteArray) : eqB s t = (t.toList == s.toList) := by
  unfold eqB
  rw [Bool.eq_iff_iff, beq_iff_eq, beq_iff_eq]
  exact ⟨fun h => h.symm, fun h => h.symm⟩
set_option maxRecDepth 100000 in
set_option maxHeartbeats 1600000 in
theorem rhastext_any (v : Value) (l : List ByteArray) (s : ByteArray) (w : World) (n0 : Nat) (h : StrsR w n0 v l) :
    Calls Tryz.prog 42 #[v, .string s] w fun e w' => e = .returned (.bool (memB s l)) ∧ w = w' := by
  obtain ⟨aa, ca, rfl, h2, h3, h4, h5⟩ := h
  have hml : (l.length : Int) ≤ 9223372036854775807 := by omega
  have H4 := hid h4
  have H5 := hid h5
  clear h2 h3 h4 h5
  go_enter Tryz.func42, Tryz.ntmps42
  go_wp2
  go_loop [5] (fun t5 => ∃ k : Nat, t5 = .int .i64 (k : Int) ∧ k ≤ l.length ∧ ∀ j t, j < k → l[j]? = some t → eqB s t = false) (fun t5 => l.length - (intOf t5).toNat)
  case atStart => exact ⟨0, rfl, Nat.zero_le _, fun j t h => by omega⟩
  case round =>
    obtain ⟨k, rfl, hk, hp⟩ := hrel
    have Hp := hid hp
    clear hp
    by_cases hlt : k < l.length
    · obtain ⟨y, rfl⟩ := H4.out (by omega)
      obtain ⟨q, hq⟩ : ∃ q, l[k]? = some q := ⟨_, List.getElem?_eq_getElem hlt⟩
      have hc := (H5.out y rfl (by omega)).2 k hlt q hq
      have Hq := hid hq
      clear hq
      cases he : eqB s q with
      | true =>
        have Hin := hid (show memB s l = true from List.any_eq_true.2 ⟨q, List.mem_of_getElem? Hq.out, he⟩)
        rw [eqB_comm] at he
        go_wp2
        go_ret
        exact ⟨by rw [Hin.out]; rfl, rfl⟩
      | false =>
        have He := hid he
        rw [eqB_comm] at he
        go_wp2
        refine ⟨⟨k + 1, by go_num, by omega, fun j t hj ht => ?_⟩, by simp [intOf]; omega⟩
        by_cases hjk : j = k
        · subst hjk
          obtain rfl := Option.some.inj (Hq.out.symm.trans ht)
          exact He.out
        · exact Hp.out j t (by omega) ht
    · obtain rfl : k = l.length := by omega
      have Hn := hid (show memB s l = false from List.any_eq_false.2 fun t ht => by
        obtain ⟨j, hj, e⟩ := List.mem_iff_getElem.1 ht
        rw [Hp.out j t hj (by rw [List.getElem?_eq_getElem hj, e])]
        decide)
      go_wp2
      go_ret
      exact ⟨by rw [Hn.out]; rfl, rfl⟩
end Go.Proofs.YtkabgmohgjljkaaGreatDoor


/- The reference's names. -/
namespace Go.Proofs.YtkabgmohgjljkaaGreatDoor
set_option linter.unusedSimpArgs false
set_option linter.unusedVariables false
open Go Go.RowKit Go.Shelf
open Go.Lib (trimS trimLeftS trimRightS toList_data)

theorem dw_nil {p : UInt8 → Bool} : ∀ l : List UInt8, (∀ x ∈ l, p x = true) → l.dropWhile p = []
  | [], _ => rfl
  | a :: l, h => by
    rw [List.dropWhile_cons, h a (List.mem_cons_self ..)]
    exact dw_nil l fun x hx => h x (List.mem_cons_of_mem _ hx)
theorem dw_mem {p : UInt8 → Bool} : ∀ (l : List UInt8) (b : UInt8), b ∈ l → p b = false → ∃ a r, l.dropWhile p = a :: r ∧ p a = false
  | a :: l, b, hb, hp => by
    cases ha : p a with
    | false => exact ⟨a, l, by rw [List.dropWhile_cons, ha]; rfl, ha⟩
    | true =>
      rcases List.mem_cons.1 hb with rfl | hb
      · rw [ha] at hp; cases hp
      · rw [List.dropWhile_cons, ha]
        exact dw_mem l b hb hp
theorem trimS_nil (l cs : List UInt8) : trimS l cs = [] ↔ ∀ b ∈ l, cs.contains b = true := by
  unfold trimS trimLeftS trimRightS
  constructor
  · intro h b hb
    cases hp : cs.contains b with
    | true => rfl
    | false =>
      obtain ⟨a, r, he, ha⟩ := dw_mem (p := (cs.contains ·)) l.reverse b (List.mem_reverse.2 hb) hp
      rw [he] at h
      obtain ⟨a2, r2, he2, _⟩ := dw_mem (p := (cs.contains ·)) (a :: r).reverse a (List.mem_reverse.2 (List.mem_cons_self ..)) ha
      rw [he2] at h
      cases h
  · intro h
    rw [dw_nil (p := (cs.contains ·)) l.reverse fun x hx => h x (List.mem_reverse.1 hx)]
    rfl
def okAt (b k : Nat) : Bool := (decide (97 ≤ b) && decide (b ≤ 122)) || (decide (48 ≤ b) && decide (b ≤ 57) && !decide (k = 0))
theorem letters_has (b : UInt8) : lettersS.data.toList.contains b = ((decide (97 ≤ b.toNat) && decide (b.toNat ≤ 122)) || (decide (48 ≤ b.toNat) && decide (b.toNat ≤ 57))) := by
  have h : ∀ n, n < 256 → lettersS.data.toList.contains (UInt8.ofNat n) = ((decide (97 ≤ n) && decide (n ≤ 122)) || (decide (48 ≤ n) && decide (n ≤ 57))) := by decide +kernel
  have := h b.toNat b.toNat_lt
  rwa [UInt8.ofNat_toNat] at this
theorem nameRest_iff (s : ByteArray) : nameRest s = true ↔ ∀ (k : Nat) (h : k < s.size), lettersS.data.toList.contains s[k] = true := by
  unfold nameRest eqB
  rw [beq_iff_eq, toList_data, toList_data]
  show trimS s.data.toList lettersS.data.toList = [] ↔ _
  rw [trimS_nil]
  constructor
  · intro h k hk
    refine h _ ?_
    have : s.data.toList[k]? = some s[k] := by
      rw [List.getElem?_eq_getElem (by simpa using hk)]
      rfl
    exact List.mem_of_getElem? this
  · intro h b hb
    obtain ⟨k, hk, e⟩ := List.mem_iff_getElem.1 hb
    have hk' : k < s.size := by simpa using hk
    have := h k hk'
    rwa [show s[k] = b from e] at this
theorem nameOk_iff (s : ByteArray) : nameOk s = true ↔ memB s reserved = false ∧ 1 ≤ s.size ∧ s.size ≤ 8 ∧ ∀ (k : Nat) (h : k < s.size), okAt s[k].toNat k = true := by
  unfold nameOk
  simp only [Bool.and_eq_true, Bool.not_eq_true', decide_eq_true_eq]
  rw [nameRest_iff]
  have he : s.toList.isEmpty = false ↔ 1 ≤ s.size := by
    rw [toList_data]
    have hl : s.data.toList.length = s.size := by simp
    cases h : s.data.toList with
    | nil =>
      have hz : s.size = 0 := by rw [← hl, h]; rfl
      exact ⟨fun h => (by cases h), fun h => by omega⟩
    | cons a r =>
      have hz : s.size = r.length + 1 := by rw [← hl, h]; rfl
      exact ⟨fun _ => by omega, fun _ => rfl⟩
  rw [he]
  constructor
  · rintro ⟨h1, ⟨⟨⟨⟨h2, h3⟩, h4⟩, h5⟩, h6⟩⟩
    refine ⟨h1, h2, h3, fun k hk => ?_⟩
    have h7 := h6 k hk
    rw [letters_has] at h7
    unfold okAt
    by_cases h0 : k = 0
    · subst h0
      have hf : first s = s[0].toNat := by unfold first; rw [dif_pos hk]
      rw [hf] at h4 h5
      simp [h4, h5]
    · simp only [h0, decide_false, Bool.not_false, Bool.and_true]
      exact h7
  · rintro ⟨h1, h2, h3, h4⟩
    have hz : 0 < s.size := h2
    have hf : first s = s[0].toNat := by unfold first; rw [dif_pos hz]
    have h0 := h4 0 hz
    unfold okAt at h0
    simp at h0
    refine ⟨h1, ⟨⟨⟨⟨h2, h3⟩, by rw [hf]; exact h0.1⟩, by rw [hf]; exact h0.2⟩, fun k hk => ?_⟩⟩
    have h5 := h4 k hk
    rw [letters_has]
    unfold okAt at h5
    simp only [Bool.or_eq_true, Bool.and_eq_true] at h5 ⊢
    exact h5.imp id fun h => h.1

set_option maxRecDepth 100000 in
set_option maxHeartbeats 3200000 in
theorem risname_any (s : ByteArray) (w : World) (hs : s.size ≤ 9223372036854775807) : Calls Tryz.prog 22 #[.string s] w fun e w' => e = .returned (.bool (nameOk s)) ∧ w = w' := by
  go_enter Tryz.func22, Tryz.ntmps22
  have hres : memB s reserved = ((s.toList == [118, 97, 114]) || ((s.toList == [102, 110]) || ((s.toList == [110, 101, 119]) || (s.toList == [99, 97, 108, 108])))) := by
    have t1 : (⟨#[118, 97, 114]⟩ : ByteArray).toList = [118, 97, 114] := by decide +kernel
    have t2 : (⟨#[102, 110]⟩ : ByteArray).toList = [102, 110] := by decide +kernel
    have t3 : (⟨#[110, 101, 119]⟩ : ByteArray).toList = [110, 101, 119] := by decide +kernel
    have t4 : (⟨#[99, 97, 108, 108]⟩ : ByteArray).toList = [99, 97, 108, 108] := by decide +kernel
    simp only [memB, reserved, List.any_cons, List.any_nil, Bool.or_false, eqB, t1, t2, t3, t4]
  cases hm : memB s reserved with
  | true =>
    have Hr := hid (show nameOk s = false by unfold nameOk; rw [hm]; rfl)
    rw [hm] at hres
    have Hres := hid hres
    clear hm hres
    cases h1 : (s.toList == [118, 97, 114]) with
    | true =>
      go_wp2
      go_ret
      exact ⟨by rw [Hr.out]; rfl, rfl⟩
    | false =>
      cases h2 : (s.toList == [102, 110]) with
      | true =>
        go_wp2
        go_ret
        exact ⟨by rw [Hr.out]; rfl, rfl⟩
      | false =>
        cases h3 : (s.toList == [110, 101, 119]) with
        | true =>
        go_wp2
        go_ret
        exact ⟨by rw [Hr.out]; rfl, rfl⟩
        | false =>
          cases h4 : (s.toList == [99, 97, 108, 108]) with
          | true =>
        go_wp2
        go_ret
        exact ⟨by rw [Hr.out]; rfl, rfl⟩
          | false => have hres := Hres.out; rw [h1, h2, h3, h4] at hres; cases hres
  | false =>
    have Hm := hid hm
    rw [hm] at hres
    obtain ⟨h1, h2, h3, h4⟩ : (s.toList == [118, 97, 114]) = false ∧ (s.toList == [102, 110]) = false ∧ (s.toList == [110, 101, 119]) = false ∧ (s.toList == [99, 97, 108, 108]) = false := by
      have := hres.symm
      simp only [Bool.or_eq_false_iff] at this
      exact ⟨this.1, this.2.1, this.2.2.1, this.2.2.2⟩
    clear hm hres
    go_wp2
    clear h1 h2 h3 h4
    go_loop [3] (fun t3 => ∃ k : Nat, t3 = .int .i64 (k : Int) ∧ k ≤ s.size ∧ ∀ (j : Nat) (h : j < s.size), j < k → okAt s[j].toNat j = true) (fun t3 => s.size - (intOf t3).toNat)
    case atStart => exact ⟨0, rfl, Nat.zero_le _, fun j h hj => by omega⟩
    case round =>
      obtain ⟨k, rfl, hk, hp⟩ := hrel
      have Hp := hid hp
      clear hp
      by_cases hlt : k < s.size
      · have hb : s[k].toNat < 256 := byte_lt _
        by_cases l1 : 97 ≤ s[k].toNat
        · by_cases l2 : s[k].toNat ≤ 122
          · have Hok := hid (show okAt s[k].toNat k = true by unfold okAt; simp [l1, l2])
            have d1 : 48 ≤ s[k].toNat := by omega
            have d2 : ¬ s[k].toNat ≤ 57 := by omega
            go_wp2
            refine ⟨⟨k + 1, by go_num, by omega, fun j h hj => ?_⟩, by simp [intOf]; omega⟩
            by_cases hjk : j = k
            · subst hjk
              exact Hok.out
            · exact Hp.out j h (by omega)
          · have d1 : 48 ≤ s[k].toNat := by omega
            have d2 : ¬ s[k].toNat ≤ 57 := by omega
            have e1 : decide ((s[k].toNat : Int) ≤ 122) = false := decide_eq_false (by omega)
            have e2 : decide ((s[k].toNat : Int) ≤ 57) = false := decide_eq_false (by omega)
            have Hr := hid (show nameOk s = false by
              cases hn : nameOk s with
              | false => rfl
              | true =>
                have h := ((nameOk_iff s).1 hn).2.2.2 k hlt
                unfold okAt at h
                simp at h
                omega)
            go_wp2
            go_ret
            exact ⟨by rw [Hr.out]; rfl, rfl⟩
        · by_cases d1 : 48 ≤ s[k].toNat
          · by_cases d2 : s[k].toNat ≤ 57
            · by_cases h0 : k = 0
              · subst h0
                have Hr := hid (show nameOk s = false by
                  cases hn : nameOk s with
                  | false => rfl
                  | true =>
                    have h := ((nameOk_iff s).1 hn).2.2.2 0 hlt
                    unfold okAt at h
                    simp at h
                    omega)
                go_wp2
                go_ret
                exact ⟨by rw [Hr.out]; rfl, rfl⟩
              · have Hok := hid (show okAt s[k].toNat k = true by unfold okAt; simp [d1, d2, h0])
                go_wp2
                refine ⟨⟨k + 1, by go_num, by omega, fun j h hj => ?_⟩, by simp [intOf]; omega⟩
                by_cases hjk : j = k
                · subst hjk
                  exact Hok.out
                · exact Hp.out j h (by omega)
            · have e2 : decide ((s[k].toNat : Int) ≤ 57) = false := decide_eq_false (by omega)
              have Hr := hid (show nameOk s = false by
                cases hn : nameOk s with
                | false => rfl
                | true =>
                  have h := ((nameOk_iff s).1 hn).2.2.2 k hlt
                  unfold okAt at h
                  simp at h
                  omega)
              go_wp2
              go_ret
              exact ⟨by rw [Hr.out]; rfl, rfl⟩
          · have Hr := hid (show nameOk s = false by
              cases hn : nameOk s with
              | false => rfl
              | true =>
                have h := ((nameOk_iff s).1 hn).2.2.2 k hlt
                unfold okAt at h
                simp at h
                omega)
            go_wp2
            go_ret
            exact ⟨by rw [Hr.out]; rfl, rfl⟩
      · obtain rfl : k = s.size := by omega
        have Hall := hid (show ∀ (j : Nat) (h : j < s.size), okAt s[j].toNat j = true from fun j h => Hp.out j h h)
        by_cases z1 : 1 ≤ s.size
        · by_cases z2 : s.size ≤ 8
          · have Hr := hid ((nameOk_iff s).2 ⟨Hm.out, z1, z2, Hall.out⟩)
            have H8 := hid (show decide ((s.size : Int) ≤ 8) = true from decide_eq_true (by omega))
            go_wp2
            go_ret
            exact ⟨by rw [Hr.out]; exact congrArg (fun b => Ending.returned (Value.bool b)) H8.out, rfl⟩
          · have Hr := hid (show nameOk s = false by
              cases hn : nameOk s with
              | false => rfl
              | true => exact absurd ((nameOk_iff s).1 hn).2.2.1 z2)
            have H8 := hid (show decide ((s.size : Int) ≤ 8) = false from decide_eq_false (by omega))
            go_wp2
            go_ret
            exact ⟨by rw [Hr.out]; exact congrArg (fun b => Ending.returned (Value.bool b)) H8.out, rfl⟩
        · have Hr := hid (show nameOk s = false by
            cases hn : nameOk s with
            | false => rfl
            | true => exact absurd ((nameOk_iff s).1 hn).2.1 z1)
          go_wp2
          go_ret
          exact ⟨by rw [Hr.out]; rfl, rfl⟩
end Go.Proofs.YtkabgmohgjljkaaGreatDoor
