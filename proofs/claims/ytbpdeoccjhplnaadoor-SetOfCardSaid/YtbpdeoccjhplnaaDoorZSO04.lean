/- Texts of one proof, put together: U9 UQ UR UT UV UW UX Par2 UY UZ V1 V2 L4 L8 L9 LA LB LC LD LE LO. -/
import Derived.Test.YtbpdeoccjhplnaaDoorZSO01
import Derived.Test.YtbpdeoccjhplnaaDoorZSO03
import Derived.LaidEql

/- Programs: the check. -/
namespace Go.Proofs.YtbpdeoccjhplnaaDoor
set_option linter.unusedSimpArgs false
set_option linter.unusedVariables false
open Go Go.RowKit

def PP.big (P : PP) : Bool := decide (40 < P.vars.length) || decide (6 < P.funs.length) || decide (80 < P.stmts.length)
def PP.names (P : PP) : List ByteArray := P.funs.map PF.name
/-- What is wrong ahead of the statements. -/
def PP.err1 (P : PP) : Nat := bif P.big then 8 else if namesErr P.vars = 5 ∨ namesErr P.names = 5 then 5 else if namesErr P.vars = 7 ∨ namesErr P.names = 7 then 7 else P.funsErr
/-- The first statement that is not well. -/
def PP.FirstBad (P : PP) (i : Nat) (s : PS) : Prop := P.stmts[i]? = some s ∧ P.stmtErr s ≠ 0 ∧ ∀ j t, j < i → P.stmts[j]? = some t → P.stmtErr t = 0
def PP.allWell (P : PP) : Prop := ∀ j t, j < P.stmts.length → P.stmts[j]? = some t → P.stmtErr t = 0
/-- What a check tells. -/
def ErrIs (ad : Nat → Addr) (P : PP) (w : World) (v : Value) : Prop :=
  (P.err1 ≠ 0 ∧ v = evOf ad P.err1) ∨ (P.err1 = 0 ∧ P.allWell ∧ v = .nilIface) ∨
  (P.err1 = 0 ∧ ∃ i s b, P.FirstBad i s ∧ v = .iface 87 (.pointer (some ⟨b, 0, none⟩)) ∧ Blk w b #[.int .i64 (i : Int), evOf ad (P.stmtErr s)] 91)

theorem epComp : (Tryd.prog.info? 215).map (·.comparable) = some true := by kernel_rfl
theorem epSize : (Tryd.prog.info? 234).map (·.size) = some 1 := by kernel_rfl
/-- Errors that are compared. -/
theorem eq_facts {w : World} {ad : Nat → Addr} (h : ErrsP w ad) :
    (binOp .eql 25 (.iface 215 (.pointer (some (ad 5)))) (.iface 215 (.pointer (some (ad 5))))).run Tryd.prog w = .ok (.bool true) w ∧
    (binOp .eql 25 (.iface 215 (.pointer (some (ad 7)))) (.iface 215 (.pointer (some (ad 7))))).run Tryd.prog w = .ok (.bool true) w ∧
    (binOp .eql 25 (.iface 215 (.pointer (some (ad 5)))) (.iface 215 (.pointer (some (ad 7))))).run Tryd.prog w = .ok (.bool false) w ∧
    (binOp .eql 25 (.iface 215 (.pointer (some (ad 7)))) (.iface 215 (.pointer (some (ad 5))))).run Tryd.prog w = .ok (.bool false) w ∧
    (binOp .eql 25 .nilIface (.iface 215 (.pointer (some (ad 5))))).run Tryd.prog w = .ok (.bool false) w ∧
    (binOp .eql 25 .nilIface (.iface 215 (.pointer (some (ad 7))))).run Tryd.prog w = .ok (.bool false) w := by
  obtain ⟨i, hi, hcmp⟩ := Option.map_eq_some_iff.1 epComp
  obtain ⟨j, hj, hjs⟩ := Option.map_eq_some_iff.1 epSize
  obtain ⟨c5, t5, r5⟩ := h.row5
  obtain ⟨c7, t7, r7⟩ := h.row7
  exact ⟨run_eql_iface_ptr_same w _ Tryd.underlying25 Tryd.underlying215 hi hcmp hj, run_eql_iface_ptr_same w _ Tryd.underlying25 Tryd.underlying215 hi hcmp hj,
    run_eql_iface_ptr_other w Tryd.underlying25 Tryd.underlying215 hi hcmp hj (by rw [hjs]; decide) h.ne57 r5 r7, run_eql_iface_ptr_other w Tryd.underlying25 Tryd.underlying215 hi hcmp hj (by rw [hjs]; decide) h.ne57.symm r7 r5,
    run_eql_iface_nil_left w _ _ Tryd.underlying25, run_eql_iface_nil_left w _ _ Tryd.underlying25⟩

theorem namesErr_cases (l : List ByteArray) : namesErr l = 0 ∨ namesErr l = 5 ∨ namesErr l = 7 := by
  unfold namesErr
  cases anyBad l <;> cases dupS l <;> simp

set_option maxRecDepth 100000 in
set_option maxHeartbeats 12800000 in
theorem pcheck_any (a1 a2 a3 : Option Addr) (c1 c2 c3 : Nat) (P : PP) (w : World) (n0 : Nat) (ad : Nat → Addr) (hE : ErrsP w ad) (h : ProgR w n0 (.slice a1 P.vars.length c1) (.slice a2 P.funs.length c2) (.slice a3 P.stmts.length c3) P)
    (hz1 : ∀ s ∈ P.vars, s.size ≤ 1000000) (hz2 : ∀ s ∈ P.names, s.size ≤ 1000000) (hml1 : (P.vars.length : Int) ≤ 9223372036854775807) :
    Calls Tryd.prog 43 #[pval a1 a2 a3 c1 c2 c3 P] w fun e w' => ∃ v, e = .returned v ∧ ErrIs ad P w' v ∧ Ext w w' := by
  have HP := hid h
  have HE := hid hE
  have hml2 := h.funs.len
  have hml3 := h.stmts.len
  clear h hE
  obtain ⟨W, hW⟩ : ∃ W, W = w.alloc (.cells (pcells a1 a2 a3 c1 c2 c3 P) 37) := ⟨_, rfl⟩
  have HW : Hid (Ext w W) := hid (by rw [hW]; exact (Ext.refl _).alloc _)
  have HB : Hid (Blk W w.heap.size (pcells a1 a2 a3 c1 c2 c3 P) 37) := hid (by rw [hW]; exact Blk.new _ _ _)
  unfold pval
  unfold pcells at hW
  have HWe := hid hW
  clear hW
  have d0 := HB.out.kc (X := fun _ => False) (fun e => e) 0 rfl
  have d1 := HB.out.kc (X := fun _ => False) (fun e => e) 1 rfl
  have d2 := HB.out.kc (X := fun _ => False) (fun e => e) 2 rfl
  simp only [pcells, List.getElem_toArray, List.getElem_cons_zero, List.getElem_cons_succ] at d0 d1 d2
  by_cases hbig : P.big = true
  · have he : P.err1 = 8 := by unfold PP.err1; rw [hbig]; rfl
    have He := hid (show ErrIs ad P W (evOf ad 8) from .inl ⟨by rw [he]; decide, by rw [he]⟩)
    unfold PP.big at hbig
    simp only [Bool.or_eq_true, decide_eq_true_eq] at hbig
    have k8 := (HE.out.ext HW.out).at8
    have HE8 := hid (show ErrIs ad P (w.alloc (.cells #[.slice a1 P.vars.length c1, .slice a2 P.funs.length c2, .slice a3 P.stmts.length c3] 37)) (.iface 215 (.pointer (some (ad 8)))) by rw [← HWe.out]; exact He.out)
    have HX8 := hid (show Ext w (w.alloc (.cells #[.slice a1 P.vars.length c1, .slice a2 P.funs.length c2, .slice a3 P.stmts.length c3] 37)) from (Ext.refl w).alloc _)
    unfold evOf at k8
    rw [HWe.out] at k8
    clear he d0 d1 d2
    go_enter Tryd.func43, Tryd.ntmps43
    by_cases b1 : 40 < P.vars.length
    · clear hbig
      go_wp2
      go_ret
      exact ⟨_, rfl, HE8.out, HX8.out⟩
    · by_cases b2 : 6 < P.funs.length
      · clear hbig
        go_wp2
        go_ret
        exact ⟨_, rfl, HE8.out, HX8.out⟩
      · have b3 : 80 < P.stmts.length := by omega
        clear hbig
        go_wp2
        go_ret
        exact ⟨_, rfl, HE8.out, HX8.out⟩
  have hbig' : P.big = false := by simpa using hbig
  have HBig := hid hbig'
  have hb := hbig'
  unfold PP.big at hb
  simp only [Bool.or_eq_false_iff, decide_eq_false_iff_not] at hb
  obtain ⟨⟨q1, q2⟩, q3⟩ := hb
  clear hbig hbig'
  have HFn := hid fun w1 (x : Ext w w1) => pfunnames_any a1 a2 a3 c1 c2 c3 P w1 n0 (HP.out.ext x).funs (by omega)
  unfold pval at HFn
  go_enter Tryd.func43, Tryd.ntmps43
  go_wp2
  rw [← HWe.out]
  refine wp_flowT (fun _ => False) (by kernel_rfl) (by kernel_rfl) ?_
  repeat (apply FlowT.d; (intro w1 hk; unfold does; go_simp; (try go_ints); (first | exact DetR.mk | (simp only [↓IntWalk.iteOmega, Oper.doesUpon_value]; exact DetR.mk) | (simp only [↓IntWalk.iteOmega]; go_simp; (try go_ints); exact DetR.mk))); simp only [Act.put, List.setIfInBounds_toArray, List.set_cons_zero, List.set_cons_succ])
  refine FlowT.s (fun v w' => w'.ownsRow W.heap.size 9 1 v P.funs.length (P.names.map .string) ∧ Ext W w') 3 rfl (by kernel_rfl) (fun _ _ _ ⟨h1, h2⟩ x => ⟨own_ext h1 x, h2.trans x⟩) (fun w1 hC hk => ?_) ?_
  · unfold does
    go_simp
    refine CallR.act ((HFn.out w1 (HW.out.trans hk.ext)).mono ?_)
    rintro e w2 ⟨v, rfl, hr, hx⟩
    exact ⟨v, rfl, (hk.ext.trans hx).keep _, own_low hr hk.size, hk.ext.trans hx⟩
  rintro v ⟨_, hI, _⟩
  obtain ⟨a4, c4, rfl⟩ := row_form hI
  clear hI
  simp only [Act.put, List.setIfInBounds_toArray, List.set_cons_zero, List.set_cons_succ]
  refine FlowT.s (fun v w' => ∃ g, v = .slice (some ⟨g, 0, none⟩) 2 2 ∧ Blk w' g #[.slice a1 P.vars.length c1, .slice a4 P.funs.length c4] 33 ∧ w'.ownsRow W.heap.size 9 1 (.slice a4 P.funs.length c4) P.funs.length (P.names.map .string) ∧ Ext W w') 4 rfl (by kernel_rfl) (fun _ _ _ ⟨g, h1, h2, h3, h4⟩ x => ⟨g, h1, h2.ext x, own_ext h3 x, h4.trans x⟩) (fun w1 hC hk => ?_) ?_
  · unfold does
    go_simp
    exact ⟨hk.alloc _, _, rfl, Blk.new _ _ _, own_ext hC.1 ((Ext.refl _).alloc _), hC.2.alloc _⟩
  rintro _ ⟨_, g, rfl, _, _⟩
  simp only [Act.put, List.setIfInBounds_toArray, List.set_cons_zero, List.set_cons_succ]
  repeat (apply FlowT.d; (intro w1 hk; unfold does; go_simp; (try go_ints); (first | exact DetR.mk | (simp only [↓IntWalk.iteOmega, Oper.doesUpon_value]; exact DetR.mk) | (simp only [↓IntWalk.iteOmega]; go_simp; (try go_ints); exact DetR.mk))); simp only [Act.put, List.setIfInBounds_toArray, List.set_cons_zero, List.set_cons_succ])
  refine FlowT.fin fun wA hC hk => ?_
  obtain ⟨g', e, hg, hrow, hxA⟩ := hC
  obtain rfl : g = g' := by simpa using e
  have Hg := hid hg
  have HS2 := hid (StrsR.own (n0 := wA.heap.size) (l := P.names) (by simpa [PP.names] using hrow) (Nat.le_refl _))
  have HxA := hid hxA
  clear hg hrow hxA e hk
  have k5 := (HE.out.ext (HW.out.trans HxA.out)).at5
  have k7 := (HE.out.ext (HW.out.trans HxA.out)).at7
  unfold evOf at k5 k7
  obtain ⟨wB, hwB⟩ : ∃ wB, wB = wA.alloc (.cells #[.iface 215 (.pointer (some (ad 5))), .iface 215 (.pointer (some (ad 7)))] 25) := ⟨_, rfl⟩
  have HxC : Hid (Ext wA wB) := hid (by rw [hwB]; exact (Ext.refl _).alloc _)
  have HxB := hid (HxA.out.trans HxC.out)
  have HB9 : Hid (Blk wB wA.heap.size #[.iface 215 (.pointer (some (ad 5))), .iface 215 (.pointer (some (ad 7)))] 25) := hid (by rw [hwB]; exact Blk.new _ _ _)
  have hne1 : ¬ ad 5 = ad 7 := HE.out.ne57
  have hne2 : ¬ ad 7 = ad 5 := fun h => hne1 h.symm
  have HwB := hid hwB
  clear hwB d0 d1 d2
  go_wp2
  rw [← HwB.out]
  clear k5 k7
  go_loopw [39] (fun t39 wr => ∃ k : Nat, t39 = .int .i64 (k : Int) ∧ k ≤ 2 ∧ (0 < k → namesErr P.vars ≠ 5 ∧ namesErr P.names ≠ 5) ∧ (1 < k → namesErr P.vars ≠ 7 ∧ namesErr P.names ≠ 7) ∧ Ext wB wr) (fun t39 _ => 2 - (intOf t39).toNat)
  case atStart => exact ⟨0, rfl, by omega, fun h => by omega, fun h => by omega, Ext.refl _⟩
  case round =>
    obtain ⟨k, rfl, hk, hp5, hp7, hx⟩ := hrel
    have Hx := hid hx
    have x0 := (HB9.out.ext hx).av 0 rfl
    have x1 := (HB9.out.ext hx).av 1 rfl
    simp only [List.getElem_toArray, List.getElem_cons_zero, List.getElem_cons_succ] at x0 x1
    clear hx
    rcases (by omega : k = 0 ∨ k = 1 ∨ k = 2) with rfl | rfl | rfl
    · clear hp5 hp7
      go_wp2
      generalize wr = wz at *
      go_loopw [45] (fun t45 wr => ∃ j : Nat, t45 = .int .i64 (j : Int) ∧ j ≤ 2 ∧ (0 < j → namesErr P.vars ≠ 5) ∧ (1 < j → namesErr P.names ≠ 5) ∧ Ext wB wr) (fun t45 _ => 2 - (intOf t45).toNat)
      case atStart => exact ⟨0, rfl, by omega, fun h => by omega, fun h => by omega, Hx.out⟩
      case round =>
        obtain ⟨j, rfl, hj, hq0, hq1, hy⟩ := hrel
        have Hy := hid hy
        have Hq0 := hid hq0
        have Hq1 := hid hq1
        have r0 := (Hg.out.ext (HxC.out.trans hy)).av 0 rfl
        have r1 := (Hg.out.ext (HxC.out.trans hy)).av 1 rfl
        simp only [List.getElem_toArray, List.getElem_cons_zero, List.getElem_cons_succ] at r0 r1
        clear hy hq0 hq1
        rcases (by omega : j = 0 ∨ j = 1 ∨ j = 2) with rfl | rfl | rfl
        · have HN := hid (names_any _ P.vars wr n0 ad (HE.out.ext (HW.out.trans (HxB.out.trans Hy.out))) (HP.out.ext (HW.out.trans (HxB.out.trans Hy.out))).vars hz1)
          go_wp2_with fail
          refine HN.out.mono ?_
          intro e w5 hx5
          obtain ⟨rfl, hx5⟩ := hx5
          have Hx5 := hid (Hy.out.trans hx5)
          clear HN hx5
          obtain ⟨z1, z2, z3, z4, z5, z6⟩ := eq_facts (HE.out.ext (HW.out.trans (HxB.out.trans Hx5.out)))
          rcases namesErr_cases P.vars with hd | hd | hd
          · rw [show errv (evOf ad) (namesErr P.vars) = .nilIface from by rw [hd]; rfl]
            have Hd := hid hd
            clear hd
            go_wp2
            go_roundw
            case rel => exact ⟨_, _, _, _, _, _, _, _, _, _, _, _, _, _, ⟨1, by go_num, by omega, fun h => by first | omega | exact Hq0.out (by omega) | (rw [Hd.out]; decide), fun h => by first | omega | (rw [Hd.out]; decide), Hx5.out⟩, rfl⟩
            case measure => simp [intOf]
          · rw [show errv (evOf ad) (namesErr P.vars) = .iface 215 (.pointer (some (ad 5))) from by rw [hd]; rfl]
            have Hd := hid hd
            clear hd
            go_wp2
            go_ret
            have he : P.err1 = 5 := by unfold PP.err1; rw [HBig.out]; simp [Hd.out]
            exact ⟨_, rfl, .inl ⟨by rw [he]; decide, by rw [he]; rfl⟩, HW.out.trans (HxB.out.trans Hx5.out)⟩
          · rw [show errv (evOf ad) (namesErr P.vars) = .iface 215 (.pointer (some (ad 7))) from by rw [hd]; rfl]
            have Hd := hid hd
            clear hd
            go_wp2
            go_roundw
            case rel => exact ⟨_, _, _, _, _, _, _, _, _, _, _, _, _, _, ⟨1, by go_num, by omega, fun h => by first | omega | exact Hq0.out (by omega) | (rw [Hd.out]; decide), fun h => by first | omega | (rw [Hd.out]; decide), Hx5.out⟩, rfl⟩
            case measure => simp [intOf]
        · have HN := hid (names_any _ P.names wr wA.heap.size ad (HE.out.ext (HW.out.trans (HxB.out.trans Hy.out))) (HS2.out.old ((HxC.out.trans Hy.out).old _)) hz2)
          go_wp2_with fail
          refine HN.out.mono ?_
          intro e w5 hx5
          obtain ⟨rfl, hx5⟩ := hx5
          have Hx5 := hid (Hy.out.trans hx5)
          clear HN hx5
          obtain ⟨z1, z2, z3, z4, z5, z6⟩ := eq_facts (HE.out.ext (HW.out.trans (HxB.out.trans Hx5.out)))
          rcases namesErr_cases P.names with hd | hd | hd
          · rw [show errv (evOf ad) (namesErr P.names) = .nilIface from by rw [hd]; rfl]
            have Hd := hid hd
            clear hd
            go_wp2
            go_roundw
            case rel => exact ⟨_, _, _, _, _, _, _, _, _, _, _, _, _, _, ⟨2, by go_num, by omega, fun h => by first | omega | exact Hq0.out (by omega) | (rw [Hd.out]; decide), fun h => by first | omega | (rw [Hd.out]; decide), Hx5.out⟩, rfl⟩
            case measure => simp [intOf]
          · rw [show errv (evOf ad) (namesErr P.names) = .iface 215 (.pointer (some (ad 5))) from by rw [hd]; rfl]
            have Hd := hid hd
            clear hd
            go_wp2
            go_ret
            have he : P.err1 = 5 := by unfold PP.err1; rw [HBig.out]; simp [Hd.out]
            exact ⟨_, rfl, .inl ⟨by rw [he]; decide, by rw [he]; rfl⟩, HW.out.trans (HxB.out.trans Hx5.out)⟩
          · rw [show errv (evOf ad) (namesErr P.names) = .iface 215 (.pointer (some (ad 7))) from by rw [hd]; rfl]
            have Hd := hid hd
            clear hd
            go_wp2
            go_roundw
            case rel => exact ⟨_, _, _, _, _, _, _, _, _, _, _, _, _, _, ⟨2, by go_num, by omega, fun h => by first | omega | exact Hq0.out (by omega) | (rw [Hd.out]; decide), fun h => by first | omega | (rw [Hd.out]; decide), Hx5.out⟩, rfl⟩
            case measure => simp [intOf]
        · go_wp2
          go_roundw
          case rel => exact ⟨1, by go_num, by omega, fun _ => ⟨Hq0.out (by omega), Hq1.out (by omega)⟩, fun h => by omega, Hy.out⟩
          case measure => simp [intOf]
    · have Hp5 := hid (hp5 (by omega))
      clear hp5 hp7
      go_wp2
      generalize wr = wz at *
      go_loopw [45] (fun t45 wr => ∃ j : Nat, t45 = .int .i64 (j : Int) ∧ j ≤ 2 ∧ (0 < j → namesErr P.vars ≠ 7) ∧ (1 < j → namesErr P.names ≠ 7) ∧ Ext wB wr) (fun t45 _ => 2 - (intOf t45).toNat)
      case atStart => exact ⟨0, rfl, by omega, fun h => by omega, fun h => by omega, Hx.out⟩
      case round =>
        obtain ⟨j, rfl, hj, hq0, hq1, hy⟩ := hrel
        have Hy := hid hy
        have Hq0 := hid hq0
        have Hq1 := hid hq1
        have r0 := (Hg.out.ext (HxC.out.trans hy)).av 0 rfl
        have r1 := (Hg.out.ext (HxC.out.trans hy)).av 1 rfl
        simp only [List.getElem_toArray, List.getElem_cons_zero, List.getElem_cons_succ] at r0 r1
        clear hy hq0 hq1
        rcases (by omega : j = 0 ∨ j = 1 ∨ j = 2) with rfl | rfl | rfl
        · have HN := hid (names_any _ P.vars wr n0 ad (HE.out.ext (HW.out.trans (HxB.out.trans Hy.out))) (HP.out.ext (HW.out.trans (HxB.out.trans Hy.out))).vars hz1)
          go_wp2_with fail
          refine HN.out.mono ?_
          intro e w5 hx5
          obtain ⟨rfl, hx5⟩ := hx5
          have Hx5 := hid (Hy.out.trans hx5)
          clear HN hx5
          obtain ⟨z1, z2, z3, z4, z5, z6⟩ := eq_facts (HE.out.ext (HW.out.trans (HxB.out.trans Hx5.out)))
          rcases namesErr_cases P.vars with hd | hd | hd
          · rw [show errv (evOf ad) (namesErr P.vars) = .nilIface from by rw [hd]; rfl]
            have Hd := hid hd
            clear hd
            go_wp2
            go_roundw
            case rel => exact ⟨_, _, _, _, _, _, _, _, _, _, _, _, _, _, ⟨1, by go_num, by omega, fun h => by first | omega | exact Hq0.out (by omega) | (rw [Hd.out]; decide), fun h => by first | omega | (rw [Hd.out]; decide), Hx5.out⟩, rfl⟩
            case measure => simp [intOf]
          · rw [show errv (evOf ad) (namesErr P.vars) = .iface 215 (.pointer (some (ad 5))) from by rw [hd]; rfl]
            have Hd := hid hd
            clear hd
            go_wp2
            go_roundw
            case rel => exact ⟨_, _, _, _, _, _, _, _, _, _, _, _, _, _, ⟨1, by go_num, by omega, fun h => by first | omega | exact Hq0.out (by omega) | (rw [Hd.out]; decide), fun h => by first | omega | (rw [Hd.out]; decide), Hx5.out⟩, rfl⟩
            case measure => simp [intOf]
          · rw [show errv (evOf ad) (namesErr P.vars) = .iface 215 (.pointer (some (ad 7))) from by rw [hd]; rfl]
            have Hd := hid hd
            clear hd
            go_wp2
            go_ret
            have he : P.err1 = 7 := by unfold PP.err1; rw [HBig.out]; simp [Hd.out, Hp5.out.1, Hp5.out.2]
            exact ⟨_, rfl, .inl ⟨by rw [he]; decide, by rw [he]; rfl⟩, HW.out.trans (HxB.out.trans Hx5.out)⟩
        · have HN := hid (names_any _ P.names wr wA.heap.size ad (HE.out.ext (HW.out.trans (HxB.out.trans Hy.out))) (HS2.out.old ((HxC.out.trans Hy.out).old _)) hz2)
          go_wp2_with fail
          refine HN.out.mono ?_
          intro e w5 hx5
          obtain ⟨rfl, hx5⟩ := hx5
          have Hx5 := hid (Hy.out.trans hx5)
          clear HN hx5
          obtain ⟨z1, z2, z3, z4, z5, z6⟩ := eq_facts (HE.out.ext (HW.out.trans (HxB.out.trans Hx5.out)))
          rcases namesErr_cases P.names with hd | hd | hd
          · rw [show errv (evOf ad) (namesErr P.names) = .nilIface from by rw [hd]; rfl]
            have Hd := hid hd
            clear hd
            go_wp2
            go_roundw
            case rel => exact ⟨_, _, _, _, _, _, _, _, _, _, _, _, _, _, ⟨2, by go_num, by omega, fun h => by first | omega | exact Hq0.out (by omega) | (rw [Hd.out]; decide), fun h => by first | omega | (rw [Hd.out]; decide), Hx5.out⟩, rfl⟩
            case measure => simp [intOf]
          · rw [show errv (evOf ad) (namesErr P.names) = .iface 215 (.pointer (some (ad 5))) from by rw [hd]; rfl]
            have Hd := hid hd
            clear hd
            go_wp2
            go_roundw
            case rel => exact ⟨_, _, _, _, _, _, _, _, _, _, _, _, _, _, ⟨2, by go_num, by omega, fun h => by first | omega | exact Hq0.out (by omega) | (rw [Hd.out]; decide), fun h => by first | omega | (rw [Hd.out]; decide), Hx5.out⟩, rfl⟩
            case measure => simp [intOf]
          · rw [show errv (evOf ad) (namesErr P.names) = .iface 215 (.pointer (some (ad 7))) from by rw [hd]; rfl]
            have Hd := hid hd
            clear hd
            go_wp2
            go_ret
            have he : P.err1 = 7 := by unfold PP.err1; rw [HBig.out]; simp [Hd.out, Hp5.out.1, Hp5.out.2]
            exact ⟨_, rfl, .inl ⟨by rw [he]; decide, by rw [he]; rfl⟩, HW.out.trans (HxB.out.trans Hx5.out)⟩
        · go_wp2
          go_roundw
          case rel => exact ⟨2, by go_num, by omega, fun _ => Hp5.out, fun _ => ⟨Hq0.out (by omega), Hq1.out (by omega)⟩, Hy.out⟩
          case measure => simp [intOf]
    · have Hp5 := hid (hp5 (by omega))
      have Hp7 := hid (hp7 (by omega))
      have H1 := hid (show P.err1 = P.funsErr by unfold PP.err1; rw [HBig.out]; simp [Hp5.out.1, Hp5.out.2, Hp7.out.1, Hp7.out.2])
      have d0 := (HB.out.ext (HxB.out.trans Hx.out)).av 0 rfl
      have d1 := (HB.out.ext (HxB.out.trans Hx.out)).av 1 rfl
      have d2 := (HB.out.ext (HxB.out.trans Hx.out)).av 2 rfl
      simp only [pcells, List.getElem_toArray, List.getElem_cons_zero, List.getElem_cons_succ] at d0 d1 d2
      have HF := hid (pfuns_any a1 a2 a3 c1 c2 c3 P wr n0 ad (HE.out.ext (HW.out.trans (HxB.out.trans Hx.out))) (HP.out.ext (HW.out.trans (HxB.out.trans Hx.out))).funs)
      unfold pval at HF
      clear hp5 hp7 x0 x1
      go_wp2_with fail
      refine HF.out.mono ?_
      intro e w5 hx5
      obtain ⟨rfl, hx5⟩ := hx5
      have Hx5 := hid (HxB.out.trans (Hx.out.trans hx5))
      clear HF hx5 d0 d1 d2
      by_cases hf : P.funsErr = 0
      · rw [show errv (evOf ad) P.funsErr = .nilIface from by rw [hf]; rfl]
        have Hf := hid (show P.err1 = 0 by rw [H1.out, hf])
        have d0 := (HB.out.ext Hx5.out).av 0 rfl
        have d1 := (HB.out.ext Hx5.out).av 1 rfl
        have d2 := (HB.out.ext Hx5.out).av 2 rfl
        simp only [pcells, List.getElem_toArray, List.getElem_cons_zero, List.getElem_cons_succ] at d0 d1 d2
        clear hf Hx H1
        go_wp2
        clear d0 d1 d2
        generalize wr = wz at *
        have HxD := Hx5
        clear Hx5
        go_loopw [65] (fun t65 wr => ∃ k : Nat, t65 = .int .i64 (k : Int) ∧ k ≤ P.stmts.length ∧ (∀ j s, j < k → P.stmts[j]? = some s → P.stmtErr s = 0) ∧ Ext W wr) (fun t65 _ => P.stmts.length - (intOf t65).toNat)
        case atStart => exact ⟨0, rfl, Nat.zero_le _, fun j s h => by omega, HxD.out⟩
        case round =>
          obtain ⟨k, rfl, hk, hne, hx⟩ := hrel
          have Hne := hid hne
          have Hx := hid hx
          clear hne hx HxD
          by_cases hlt : k < P.stmts.length
          · obtain ⟨y, s, av, cv, rfl, hfk, e0, e1, e2, e3, hI⟩ := (HP.out.ext (HW.out.trans Hx.out)).stmts.at hlt
            have Hfk := hid hfk
            obtain ⟨W3, hW3⟩ : ∃ W3, W3 = wr.alloc (.cells #[.string s.kind, .int .i64 s.x, .int .i64 s.y, .slice av s.args.length cv] 43) := ⟨_, rfl⟩
            have hx3 : Ext wr W3 := by rw [hW3]; exact (Ext.refl _).alloc _
            have Hx3 := hid (Hx.out.trans hx3)
            have HS := hid (pstmt_any a1 a2 (some y) c1 c2 c3 P s av cv W3 n0 ad (HE.out.ext (HW.out.trans Hx3.out)) (hI.old (hx3.old n0)))
            unfold pval sval at HS
            have HW3 := hid hW3
            have q0 := (HB.out.ext Hx3.out).av 0 rfl
            have q1 := (HB.out.ext Hx3.out).av 1 rfl
            have q2 := (HB.out.ext Hx3.out).av 2 rfl
            simp only [pcells, List.getElem_toArray, List.getElem_cons_zero, List.getElem_cons_succ] at q0 q1 q2
            rw [hW3] at q0 q1 q2
            clear hfk hI hW3 hx3
            go_wp2_with fail
            rw [← HW3.out]
            refine HS.out.mono ?_
            intro e w4 hx4
            obtain ⟨rfl, hx4⟩ := hx4
            have Hx4 := hid (Hx3.out.trans hx4)
            clear HS hx4 q0 q1 q2
            by_cases hz : P.stmtErr s = 0
            · rw [show errv (evOf ad) (P.stmtErr s) = .nilIface from by rw [hz]; rfl]
              have Hz := hid hz
              clear hz
              go_wp2
              go_roundw
              case rel => exact ⟨k + 1, by go_num, by omega, fun j t hj ht => by
                by_cases hjk : j = k
                · subst hjk
                  obtain rfl := Option.some.inj (Hfk.out.symm.trans ht)
                  exact Hz.out
                · exact Hne.out j t (by omega) ht, Hx4.out⟩
              case measure => simp [intOf]; omega
            · rw [show errv (evOf ad) (P.stmtErr s) = .iface 215 (.pointer (some (ad (P.stmtErr s)))) from by unfold errv; rw [if_neg hz]; rfl]
              have Hr : Hid (ErrIs ad P (w4.alloc (.cells #[.int .i64 (k : Int), .iface 215 (.pointer (some (ad (P.stmtErr s))))] 91)) (.iface 87 (.pointer (some ⟨w4.heap.size, 0, none⟩)))) := hid (.inr (.inr ⟨Hf.out, k, s, _, ⟨Hfk.out, hz, Hne.out⟩, rfl, Blk.new _ _ _⟩))
              have HxE := hid (HW.out.trans (Hx4.out.alloc (.cells #[.int .i64 (k : Int), .iface 215 (.pointer (some (ad (P.stmtErr s))))] 91)))
              clear hz
              go_wp2
              go_ret
              exact ⟨_, rfl, Hr.out, HxE.out⟩
          · obtain rfl : k = P.stmts.length := by omega
            have Hr := hid (show ErrIs ad P wr .nilIface from .inr (.inl ⟨Hf.out, Hne.out, rfl⟩))
            have HxE := hid (HW.out.trans Hx.out)
            go_wp2
            go_ret
            exact ⟨_, rfl, Hr.out, HxE.out⟩
      · rw [show errv (evOf ad) P.funsErr = .iface 215 (.pointer (some (ad P.funsErr))) from by unfold errv; rw [if_neg hf]; rfl]
        have Hf := hid (show ErrIs ad P w5 (.iface 215 (.pointer (some (ad P.funsErr)))) from .inl ⟨by rw [H1.out]; exact hf, by rw [H1.out]; rfl⟩)
        clear hf
        go_wp2
        go_ret
        exact ⟨_, rfl, Hf.out, HW.out.trans Hx5.out⟩
end Go.Proofs.YtbpdeoccjhplnaaDoor


/- Runs, plainly: values, states, what a statement does, and what stays so. -/
namespace Go.Proofs.YtbpdeoccjhplnaaDoor
set_option linter.unusedSimpArgs false
set_option linter.unusedVariables false
open Go Go.RowKit

inductive Vl where
  | none
  | var (n : Nat)
  | thing (n : Nat)
  | fn (n : Nat)
def Vl.kind : Vl → ByteArray
  | .none => ⟨#[110, 111, 110, 101]⟩
  | .var _ => ⟨#[118, 97, 114]⟩
  | .thing _ => ⟨#[116, 104, 105, 110, 103]⟩
  | .fn _ => ⟨#[102, 117, 110]⟩
def Vl.num : Vl → Nat
  | .none => 0
  | .var n => n
  | .thing n => n
  | .fn n => n
def Vl.cells (v : Vl) : List Value := [.string v.kind, .int .i64 (v.num : Int)]
theorem Vl.cells_len (v : Vl) : v.cells.length = 2 := rfl
def Vl.In (nv nt nf : Nat) : Vl → Prop
  | .none => True
  | .var n => n < nv
  | .thing n => n < nt
  | .fn n => n < nf
theorem Vl.In.mono {nv nt nf nt' : Nat} {v : Vl} (h : v.In nv nt nf) (hn : nt ≤ nt') : v.In nv nt' nf := by
  cases v <;> simp only [Vl.In] at h ⊢ <;> omega
structure Rn where
  vars : List Vl
  things : List Vl
  places : List Nat
def Rn.at (s : Rn) (n : Int) : Vl := s.vars.getD n.toNat .none
def Rn.get (s : Rn) : Vl → Vl
  | .var n => s.vars.getD n .none
  | .thing n => s.things.getD n .none
  | _ => .none
def Vl.isAddr : Vl → Bool
  | .var _ => true
  | .thing _ => true
  | _ => false
def Rn.set (s : Rn) (n : Int) (v : Vl) : Rn := { s with vars := s.vars.set n.toNat v }
def Rn.put (s : Rn) (c v : Vl) : Rn :=
  match c with
  | .var n => { s with vars := s.vars.set n v }
  | .thing n => { s with things := s.things.set n v }
  | _ => s
def kAddr : List UInt8 := [97, 100, 100, 114]
def kCopy : List UInt8 := [99, 111, 112, 121]
def kLoad : List UInt8 := [108, 111, 97, 100]
def kStore : List UInt8 := [115, 116, 111, 114, 101]
/-- Parameters take what came. -/
def Rn.give (s : Rn) : List Int → List Vl → Rn
  | p :: ps, v :: vs => (s.set p v).give ps vs
  | _, _ => s
def Rn.callF (s : Rn) (x : PS) (f : PF) : Rn :=
  if f.params.length = x.args.length then
    let s1 := s.give f.params (x.args.map s.at)
    s1.set x.x (s1.at f.ret)
  else s
def Rn.call (P : PP) (x : PS) (s : Rn) : Rn :=
  match s.at x.y with
  | .fn n => match P.funs[n]? with
    | some f => s.callF x f
    | none => s
  | _ => s
def Rn.stmt (P : PP) (k : Nat) (x : PS) (s : Rn) : Rn :=
  bif x.isK kAddr then s.set x.x (.var x.y.toNat) else
  bif x.isK kCopy then s.set x.x (s.at x.y) else
  bif x.isK kLoad then (bif (s.at x.y).isAddr then s.set x.x (s.get (s.at x.y)) else s) else
  bif x.isK kStore then s.put (s.at x.x) (s.at x.y) else
  bif x.isK kNew then { (s.set x.x (.thing s.things.length)) with things := s.things ++ [.none], places := s.places ++ [k] } else
  bif x.isK kFun then s.set x.x (.fn x.y.toNat) else
  bif x.isK kCall then s.call P x else s
def Rn.step (P : PP) (s : Rn) (k : Nat) : Rn :=
  match P.stmts[k]? with
  | some x => s.stmt P k x
  | none => s
def Rn.begin (P : PP) : Rn := ⟨List.replicate P.vars.length .none, [], []⟩
def Rn.run (P : PP) (l : List Nat) : Rn := l.foldl (Rn.step P) (Rn.begin P)

structure Rn.Ok (P : PP) (s : Rn) : Prop where
  lv : s.vars.length = P.vars.length
  rv : ∀ v ∈ s.vars, v.In P.vars.length s.things.length P.funs.length
  rt : ∀ v ∈ s.things, v.In P.vars.length s.things.length P.funs.length
  lp : s.places.length = s.things.length

/-- What a statement that is well has. -/
structure PP.Good (P : PP) (x : PS) : Prop where
  gx : 0 ≤ x.x ∧ x.x < P.vars.length
  yf : x.isK kFun = true → 0 ≤ x.y ∧ x.y < P.funs.length
  yv : x.isK kFun = false → x.isK kNew = false → 0 ≤ x.y ∧ x.y < P.vars.length
  args : ∀ a ∈ x.args, 0 ≤ a ∧ a < P.vars.length
theorem PP.inV_iff {P : PP} {n : Int} (h : P.inV n = true) : 0 ≤ n ∧ n < P.vars.length := by
  unfold PP.inV at h
  simp at h
  omega
theorem PP.good {P : PP} {x : PS} (h : P.stmtErr x = 0) : P.Good x := by
  unfold PP.stmtErr at h
  cases h1 : memB x.kind kindsS with
  | false => rw [h1] at h; simp at h
  | true =>
  cases h2 : P.bound x with
  | false => rw [h1, h2] at h; simp at h
  | true =>
  unfold PP.bound at h2
  simp only [Bool.and_eq_true] at h2
  refine ⟨PP.inV_iff h2.1.1, fun hf => ?_, fun hf hn => ?_, fun a ha => ?_⟩
  · have := h2.1.2
    unfold PP.boundY at this
    rw [hf] at this
    simpa using this
  · have := h2.1.2
    unfold PP.boundY at this
    rw [hf, hn] at this
    exact PP.inV_iff this
  · have := h2.2
    unfold PP.allV at this
    exact PP.inV_iff (List.all_eq_true.1 this a ha)
/-- What a function that is well has. -/
structure PP.GoodF (P : PP) (f : PF) : Prop where
  params : ∀ a ∈ f.params, 0 ≤ a ∧ a < P.vars.length
  ret : 0 ≤ f.ret ∧ f.ret < P.vars.length
  few : f.params.length ≤ 3
theorem PP.goodF {P : PP} (h : P.funsErr = 0) {f : PF} (hf : f ∈ P.funs) : P.GoodF f := by
  unfold PP.funsErr at h
  cases h1 : P.funs.any bad9 with
  | true => rw [h1] at h; simp at h
  | false =>
  cases h2 : P.funs.any P.bad2 with
  | true => rw [h1, h2] at h; simp at h
  | false =>
  have g1 := List.any_eq_false.1 h1 f hf
  have g2 := List.any_eq_false.1 h2 f hf
  unfold bad9 at g1
  unfold PP.bad2 PP.allV at g2
  simp at g1 g2
  exact ⟨fun a ha => PP.inV_iff (g2.1 a ha), PP.inV_iff g2.2, g1⟩

theorem Rn.Ok.at {P : PP} {s : Rn} (h : s.Ok P) (n : Int) : (s.at n).In P.vars.length s.things.length P.funs.length := by
  unfold Rn.at
  rw [List.getD_eq_getElem?_getD]
  cases hx : s.vars[n.toNat]? with
  | none => exact trivial
  | some v => exact h.rv v (List.mem_of_getElem? hx)
theorem Rn.Ok.get {P : PP} {s : Rn} (h : s.Ok P) (c : Vl) : (s.get c).In P.vars.length s.things.length P.funs.length := by
  cases c with
  | none => exact trivial
  | fn n => exact trivial
  | var n =>
    simp only [Rn.get, List.getD_eq_getElem?_getD]
    cases hx : s.vars[n]? with
    | none => exact trivial
    | some v => exact h.rv v (List.mem_of_getElem? hx)
  | thing n =>
    simp only [Rn.get, List.getD_eq_getElem?_getD]
    cases hx : s.things[n]? with
    | none => exact trivial
    | some v => exact h.rt v (List.mem_of_getElem? hx)
theorem Rn.Ok.set {P : PP} {s : Rn} (h : s.Ok P) (n : Int) {v : Vl} (hv : v.In P.vars.length s.things.length P.funs.length) : (s.set n v).Ok P := by
  refine ⟨by simp [Rn.set, h.lv], fun u hu => ?_, h.rt, h.lp⟩
  rcases List.mem_or_eq_of_mem_set hu with hu | rfl
  · exact h.rv u hu
  · exact hv
theorem Rn.Ok.put {P : PP} {s : Rn} (h : s.Ok P) (c : Vl) {v : Vl} (hv : v.In P.vars.length s.things.length P.funs.length) : (s.put c v).Ok P := by
  cases c with
  | none => exact h
  | fn n => exact h
  | var n => exact h.set (n : Int) hv
  | thing n =>
    refine ⟨h.lv, fun u hu => ?_, fun u hu => ?_, ?_⟩
    · simp only [Rn.put, List.length_set]; exact h.rv u hu
    · simp only [Rn.put, List.length_set]
      rcases List.mem_or_eq_of_mem_set hu with hu | rfl
      · exact h.rt u hu
      · exact hv
    · simp only [Rn.put, List.length_set]; exact h.lp
theorem Rn.set_things (s : Rn) (n : Int) (v : Vl) : (s.set n v).things = s.things := rfl
theorem Rn.give_things : ∀ (ps : List Int) (vs : List Vl) (s : Rn), (s.give ps vs).things = s.things ∧ (s.give ps vs).places = s.places
  | [], _, _ => ⟨rfl, rfl⟩
  | _ :: _, [], _ => ⟨rfl, rfl⟩
  | p :: ps, v :: vs, s => give_things ps vs (s.set p v)
theorem Rn.Ok.give {P : PP} : ∀ (ps : List Int) (vs : List Vl) {s : Rn}, s.Ok P → (∀ v ∈ vs, v.In P.vars.length s.things.length P.funs.length) → (s.give ps vs).Ok P
  | [], _, _, h, _ => h
  | _ :: _, [], _, h, _ => h
  | p :: ps, v :: vs, s, h, hv => Rn.Ok.give ps vs (h.set p (hv v (List.mem_cons_self ..))) fun u hu => hv u (List.mem_cons_of_mem _ hu)
theorem Rn.call_eq (P : PP) (x : PS) (s : Rn) : (s.call P x).things = s.things ∧ (s.call P x).places = s.places := by
  unfold Rn.call
  split
  · split
    · unfold Rn.callF
      split
      · exact Rn.give_things _ _ _
      · exact ⟨rfl, rfl⟩
    · exact ⟨rfl, rfl⟩
  · exact ⟨rfl, rfl⟩
theorem Rn.Ok.call {P : PP} {s : Rn} (h : s.Ok P) (x : PS) : (s.call P x).Ok P := by
  unfold Rn.call
  split
  · split
    · rename_i f _
      unfold Rn.callF
      split
      · have h1 : (s.give f.params (x.args.map s.at)).Ok P := h.give _ _ (fun v hv => by
          obtain ⟨a, _, rfl⟩ := List.mem_map.1 hv
          exact h.at a)
        exact h1.set _ (h1.at _)
      · exact h
    · exact h
  · exact h
theorem Rn.Ok.stmt {P : PP} {s : Rn} (h : s.Ok P) (k : Nat) {x : PS} (hg : P.Good x) : (s.stmt P k x).Ok P := by
  unfold Rn.stmt
  cases h1 : x.isK kAddr with
  | true =>
    have hf : x.isK kFun = false := by unfold PS.isK at h1 ⊢; rw [eq_of_beq h1]; rfl
    have hn : x.isK kNew = false := by unfold PS.isK at h1 ⊢; rw [eq_of_beq h1]; rfl
    have := hg.yv hf hn
    exact h.set _ (show Vl.In _ _ _ (.var _) by simp only [Vl.In]; omega)
  | false =>
  cases h2 : x.isK kCopy with
  | true => exact h.set _ (h.at _)
  | false =>
  cases h3 : x.isK kLoad with
  | true =>
    simp only [cond_true, cond_false]
    cases h4 : (s.at x.y).isAddr with
    | true => exact h.set _ (h.get _)
    | false => exact h
  | false =>
  cases h4 : x.isK kStore with
  | true => exact h.put _ (h.at _)
  | false =>
  cases h5 : x.isK kNew with
  | true =>
    simp only [cond_true, cond_false]
    refine ⟨by simp [Rn.set, h.lv], fun u hu => ?_, fun u hu => ?_, by simp [h.lp]⟩
    · rcases List.mem_or_eq_of_mem_set hu with hu | rfl
      · exact (h.rv u hu).mono (by simp)
      · simp only [Vl.In, List.length_append, List.length_singleton]; omega
    · rcases List.mem_append.1 hu with hu | hu
      · exact (h.rt u hu).mono (by simp)
      · rw [List.mem_singleton.1 hu]; exact trivial
  | false =>
  cases h6 : x.isK kFun with
  | true =>
    have := hg.yf h6
    exact h.set _ (show Vl.In _ _ _ (.fn _) by simp only [Vl.In]; omega)
  | false =>
  cases h7 : x.isK kCall with
  | true => exact h.call x
  | false => exact h
theorem Rn.Ok.begin (P : PP) : (Rn.begin P).Ok P :=
  ⟨by simp [Rn.begin], fun v hv => by rw [(List.mem_replicate.1 hv).2]; exact trivial, fun v hv => (by cases hv), rfl⟩
theorem Rn.stmt_places (P : PP) (k : Nat) (x : PS) (s : Rn) : (s.stmt P k x).places = s.places ++ (if x.isK kNew then [k] else []) := by
  have nn : ∀ l : List UInt8, x.isK l = true → l ≠ kNew → x.isK kNew = false := fun l h hl => by
    unfold PS.isK at h ⊢
    rw [eq_of_beq h]
    simpa using hl
  unfold Rn.stmt
  cases h1 : x.isK kAddr with
  | true => rw [nn _ h1 (by decide)]; simp [Rn.set]
  | false =>
  cases h2 : x.isK kCopy with
  | true => rw [nn _ h2 (by decide)]; simp [Rn.set]
  | false =>
  cases h3 : x.isK kLoad with
  | true =>
    rw [nn _ h3 (by decide)]
    simp only [cond_true, cond_false]
    cases h4 : (s.at x.y).isAddr <;> simp [Rn.set]
  | false =>
  cases h4 : x.isK kStore with
  | true =>
    rw [nn _ h4 (by decide)]
    simp only [cond_true, cond_false]
    cases s.at x.x <;> simp [Rn.put]
  | false =>
  cases h5 : x.isK kNew with
  | true => simp
  | false =>
  cases h6 : x.isK kFun with
  | true => simp [Rn.set]
  | false =>
  cases h7 : x.isK kCall with
  | true => simp [(Rn.call_eq P x s).2]
  | false => simp
end Go.Proofs.YtbpdeoccjhplnaaDoor


/- Runs: a state in memory; the cell that a value is the address of. -/
namespace Go.Proofs.YtbpdeoccjhplnaaDoor
set_option linter.unusedSimpArgs false
set_option linter.unusedVariables false
open Go Go.RowKit

def Rn.pl (s : Rn) : List Int := s.places.map Int.ofNat
theorem kset2 : ∀ (R : List Vl) (i : Nat) (y : Vl), i < R.length → ((R.flatMap Vl.cells).set (i * 2) (.string y.kind)).set (i * 2 + 1) (.int .i64 (y.num : Int)) = (R.set i y).flatMap Vl.cells
  | [], i, y, h => by simp at h
  | x :: l, 0, y, h => by simp [Vl.cells]
  | x :: l, i + 1, y, h => by
    have ih := kset2 l i y (by simpa using h)
    rw [List.set_cons_succ, List.flatMap_cons, List.flatMap_cons, ← ih]
    rw [show (i + 1) * 2 = i * 2 + 2 by omega, show i * 2 + 2 + 1 = i * 2 + 1 + 2 by omega]
    simp only [Vl.cells, List.cons_append, List.nil_append, List.set_cons_succ]
def store2 (w : World) (g i : Nat) (y : Vl) : World := (w.setCell ⟨g, i, none⟩ (.string y.kind)).setCell ⟨g, i + 1, none⟩ (.int .i64 (y.num : Int))
theorem store2_keep (w : World) (g i : Nat) (y : Vl) : Keep (fun b => b = g) w (store2 w g i y) :=
  have k : ∀ (u : World) j v, Keep (fun b => b = g) w u → Keep (fun b => b = g) w (u.setCell ⟨g, j, none⟩ v) := fun _ _ v h => h.set rfl v
  k _ _ _ (k _ _ _ (Keep.refl _ w))
theorem own_put2 {w : World} {base g n cap : Nat} {e : TypeId} {R : List Vl} (h : w.ownsRow base e 2 (.slice (some ⟨g, 0, none⟩) n cap) n (R.flatMap Vl.cells)) (i : Nat) (hi : i < R.length) (y : Vl) : (store2 w g (i * 2) y).ownsRow base e 2 (.slice (some ⟨g, 0, none⟩) n cap) n ((R.set i y).flatMap Vl.cells) := by
  have hl : (R.flatMap Vl.cells).length = R.length * 2 := fm_len Vl.cells 2 Vl.cells_len R
  rw [← kset2 R i y hi]
  unfold store2
  exact own_set (own_set h _ (by omega) _) _ (by simp only [List.length_set]; omega) _
theorem own_v {w : World} {base g n cap : Nat} {e : TypeId} {R : List Vl} (h : w.ownsRow base e 2 (.slice (some ⟨g, 0, none⟩) n cap) n (R.flatMap Vl.cells)) {i : Nat} {x : Vl} (hx : R[i]? = some x) :
    w.cell? ⟨g, i * 2, none⟩ = some (.string x.kind) ∧ w.cell? ⟨g, i * 2 + 1, none⟩ = some (.int .i64 (x.num : Int)) := by
  have c : ∀ j v, (Vl.cells x)[j]? = some v → j < 2 → w.cell? ⟨g, i * 2 + j, none⟩ = some v := fun j v hv hj => own_get h _ ((fm_get Vl.cells 2 Vl.cells_len R i j x hx hj).trans hv)
  exact ⟨c 0 _ rfl (by omega), c 1 _ rfl (by omega)⟩
theorem store2_old {w : World} {n0 g i : Nat} {y : Vl} (h : n0 ≤ g) : Old n0 w (store2 w g i y) := (store2_keep w g i y).mono fun b _ e => by rw [e]; exact h
/-- The address that a value is. -/
def Vl.ptr (vv tv : Value) : Vl → Value
  | .var n => .pointer (vv.ownBlock.map fun g => ⟨g, n * 2, Option.none⟩)
  | .thing n => .pointer (tv.ownBlock.map fun g => ⟨g, n * 2, Option.none⟩)
  | _ => .pointer Option.none

end Go.Proofs.YtbpdeoccjhplnaaDoor


/- Runs: what a statement does: those that set one variable, or a cell. -/
namespace Go.Proofs.YtbpdeoccjhplnaaDoor
set_option linter.unusedSimpArgs false
set_option linter.unusedVariables false
open Go Go.RowKit

theorem at_some {l : List Vl} {n : Nat} (h : n < l.length) : l[n]? = some (l.getD n .none) := by simp [List.getD_eq_getElem?_getD, h]
theorem isK_ne {x : PS} {k k' : List UInt8} (h : x.isK k = true) (hne : (k == k') = false) : x.isK k' = false := by
  unfold PS.isK at h ⊢
  rw [eq_of_beq h]
  exact hne


end Go.Proofs.YtbpdeoccjhplnaaDoor


/- Runs: what a statement does: load and store. -/
namespace Go.Proofs.YtbpdeoccjhplnaaDoor
set_option linter.unusedSimpArgs false
set_option linter.unusedVariables false
open Go Go.RowKit


end Go.Proofs.YtbpdeoccjhplnaaDoor


/- Runs: what a call does. -/
namespace Go.Proofs.YtbpdeoccjhplnaaDoor
set_option linter.unusedSimpArgs false
set_option linter.unusedVariables false
open Go Go.RowKit

end Go.Proofs.YtbpdeoccjhplnaaDoor


/- Runs: a call that is done. -/
namespace Go.Proofs.YtbpdeoccjhplnaaDoor
set_option linter.unusedSimpArgs false
set_option linter.unusedVariables false
open Go Go.RowKit

theorem Rn.give_len : ∀ (ps : List Int) (vs : List Vl) (s : Rn), (s.give ps vs).vars.length = s.vars.length
  | [], _, _ => rfl
  | _ :: _, [], _ => rfl
  | p :: ps, v :: vs, s => by
    have h := give_len ps vs (s.set p v)
    simp only [Rn.give]
    rw [h]
    simp [Rn.set]
theorem Rn.give_snoc : ∀ (ps : List Int) (vs : List Vl) (s : Rn) (k : Nat) (p : Int) (v : Vl), ps[k]? = some p → vs[k]? = some v → s.give (ps.take (k + 1)) (vs.take (k + 1)) = (s.give (ps.take k) (vs.take k)).set p v
  | [], _, _, _, _, _, h, _ => by simp at h
  | _ :: _, [], _, _, _, _, _, h => by simp at h
  | p :: ps, v :: vs, s, 0, q, u, h1, h2 => by
    simp at h1 h2
    subst h1 h2
    simp [Rn.give]
  | p :: ps, v :: vs, s, k + 1, q, u, h1, h2 => by
    simp only [List.getElem?_cons_succ] at h1 h2
    simp only [List.take_succ_cons, Rn.give]
    exact give_snoc ps vs (s.set p v) k q u h1 h2

theorem Rn.give_in {P : PP} (s : Rn) (hs : s.Ok P) (l : List Int) (ps : List Int) : (s.give ps (l.map s.at)).Ok P :=
  hs.give _ _ fun v hv => by
    obtain ⟨a, _, rfl⟩ := List.mem_map.1 hv
    exact hs.at a
theorem flat_snoc (l : List Vl) (u : Vl) : (l ++ [u]).flatMap Vl.cells = l.flatMap Vl.cells ++ Vl.cells u := by simp
end Go.Proofs.YtbpdeoccjhplnaaDoor

/- One that acts floats beside two that act in a row. -/
namespace Go.Proofs.YtbpdeoccjhplnaaDoor
set_option linter.unusedSimpArgs false
set_option linter.unusedVariables false
open Go Go.RowKit
section
variable {P : Program} {ops : Array Oper} {X : Nat → Prop} {w0 : World} {Q : Act → World → Prop} {L : List Nat}

/-- j, then m; i whenever. -/
theorem Flow.par3g {listed : Array Bool} {C : World → Prop} {a : Act} (j m i : Nat) (oj om oi : Oper) (hoj : ops[j]? = some oj) (hom : ops[m]? = some om) (hoi : ops[i]? = some oi) (hij : i ≠ j) (him : i ≠ m)
    (hsi : ∀ cs b, oi.op ≠ .select cs b) (hsj : ∀ cs b, oj.op ≠ .select cs b) (hsm : ∀ cs b, om.op ≠ .select cs b) (hap : oi.apart ops oj = true) (hap2 : oi.apart ops om = true)
    (r0 : (Region.ready .any ops listed == [j, i]) = true) (r1 : (Region.ready .any ops (listed.setIfInBounds i true) == [j]) = true) (r2 : (Region.ready .any ops ((listed.setIfInBounds i true).setIfInBounds j true) == [m]) = true)
    (r3 : (Region.ready .any ops (listed.setIfInBounds j true) == [m, i]) = true)
    (A B : Value → World → Prop) (AB D : Value → Value → World → Prop) (F : Value → Value → Value → World → Prop)
    (sA : ∀ v w w', A v w → Ext w w' → A v w') (sB : ∀ v w w', B v w → Ext w w' → B v w') (sAB : ∀ u v w w', AB u v w → Ext w w' → AB u v w') (sD : ∀ u v w w', D u v w → Ext w w' → D u v w') (sF : ∀ t u v w w', F t u v w → Ext w w' → F t u v w')
    (i0 : ∀ w, C w → Keep X w0 w → does P ops oi a w (ActR X w0 A))
    (j0 : ∀ w, C w → Keep X w0 w → does P ops oj a w (ActR X w0 B))
    (i1 : ∀ vj w, B vj w → Keep X w0 w → does P ops oi a w (ActR X w0 fun v => AB v vj))
    (j1 : ∀ vi w, A vi w → Keep X w0 w → does P ops oj a w (ActR X w0 (AB vi)))
    (m1 : ∀ vj w, B vj w → Keep X w0 w → does P ops om (a.put oj.dst vj) w (ActR X w0 (D vj)))
    (m2 : ∀ vi vj w, AB vi vj w → Keep X w0 w → does P ops om (a.put oj.dst vj) w (ActR X w0 (F vi vj)))
    (k1 : ∀ vi vj vm, (∃ w, F vi vj vm w) → Flow P ops w0 Q X L (((listed.setIfInBounds i true).setIfInBounds j true).setIfInBounds m true) (F vi vj vm) (((a.put oi.dst vi).put oj.dst vj).put om.dst vm))
    (k2 : ∀ vj vm, (∃ w, D vj vm w) → Flow P ops w0 Q X L ((listed.setIfInBounds j true).setIfInBounds m true) (D vj vm) ((a.put oj.dst vj).put om.dst vm)) :
    Flow P ops w0 Q X L listed C a := by
  have hs := Oper.apart_spec hap
  have hs2 := Oper.apart_spec hap2
  -- both done, then m
  have both : ∀ vi vj, Flow P ops w0 Q X L ((listed.setIfInBounds i true).setIfInBounds j true) (AB vi vj) ((a.put oi.dst vi).put oj.dst vj) := by
    intro vi vj
    refine Flow.acts [m] r2 (by simp) (fun _ => om) (fun _ u w => F vi vj u w) (fun _ u w w' h hx => sF _ _ _ _ _ h hx) ?_ ?_
    · intro n hn
      obtain rfl : n = m := by simpa using hn
      refine ⟨hom, fun w h h4 => ?_⟩
      rw [Act.put_comm a vi vj hs.2.1, does_put hsm hs2.1]
      exact m2 vi vj w h h4
    · intro n hn u hu
      obtain rfl : n = m := by simpa using hn
      exact k1 vi vj u hu
  refine Flow.acts [j, i] r0 (by simp) (fun n => if n = i then oi else oj) (fun n v w => if n = i then A v w else B v w) ?_ ?_ ?_
  · intro n v w w' h2 hx
    try simp only at h2 ⊢
    split
    · rename_i e; rw [if_pos e] at h2; exact sA _ _ _ h2 hx
    · rename_i e; rw [if_neg e] at h2; exact sB _ _ _ h2 hx
  · intro n hn
    rcases (by simpa using hn : n = j ∨ n = i) with rfl | rfl
    · refine ⟨by simpa [Ne.symm hij] using hoj, fun w h1 h2 => ?_⟩
      simp only [Ne.symm hij, if_false]
      exact j0 w h1 h2
    · refine ⟨by simpa using hoi, fun w h1 h2 => ?_⟩
      simp only [if_true]
      exact i0 w h1 h2
  · intro n hn v hv
    rcases (by simpa using hn : n = j ∨ n = i) with rfl | rfl
    · simp only [Ne.symm hij, if_false] at hv ⊢
      refine Flow.acts [m, i] r3 (by simp) (fun q => if q = i then oi else om) (fun q u w => if q = i then AB u v w else D v u w) ?_ ?_ ?_
      · intro q u w w' h3 hx
        try simp only at h3 ⊢
        split
        · rename_i e; rw [if_pos e] at h3; exact sAB _ _ _ _ h3 hx
        · rename_i e; rw [if_neg e] at h3; exact sD _ _ _ _ h3 hx
      · intro q hq
        rcases (by simpa using hq : q = m ∨ q = i) with rfl | rfl
        · refine ⟨by simpa [Ne.symm him] using hom, fun w h1 h3 => ?_⟩
          simp only [Ne.symm him, if_false]
          exact m1 v w h1 h3
        · refine ⟨by simpa using hoi, fun w h1 h3 => ?_⟩
          simp only [if_true]
          rw [does_put hsi hs.2.2]
          exact i1 v w h1 h3
      · intro q hq u hu
        rcases (by simpa using hq : q = m ∨ q = i) with rfl | rfl
        · simp only [Ne.symm him, if_false] at hu ⊢
          exact k2 v u hu
        · simp only [if_true] at hu ⊢
          have := both u v
          rw [Array.setIfInBounds_comm _ _ hij, Act.put_comm a u v hs.2.1] at this
          exact this
    · simp only [if_true] at hv ⊢
      refine Flow.acts [j] r1 (by simp) (fun _ => oj) (fun _ u w => AB v u w) (fun _ u w w' h hx => sAB _ _ _ _ h hx) ?_ ?_
      · intro n hn
        obtain rfl : n = j := by simpa using hn
        refine ⟨hoj, fun w h2 h3 => ?_⟩
        rw [does_put hsj hs.1]
        exact j1 v w h2 h3
      · intro n hn u hu
        obtain rfl : n = j := by simpa using hn
        exact both v u
end
end Go.Proofs.YtbpdeoccjhplnaaDoor


/- Runs: what a new thing does. -/
namespace Go.Proofs.YtbpdeoccjhplnaaDoor
set_option linter.unusedSimpArgs false
set_option linter.unusedVariables false
open Go Go.RowKit

/-- append of one element to a row of one's own, where the order is left open. -/
theorem does_append_el {ops : Array Oper} {o : Oper} {a : Act} {w : World} {R : Value → World → Prop} (base : Nat) (hbase : base ≤ w.heap.size) (t e : TypeId) (z : Value) (size bytes : Nat) (ht : Tryd.prog.underlying t = some (.slice e)) (hinf : (Tryd.prog.info? e).map (fun i => (i.zero, i.size, i.bytes)) = some (some z, size, bytes)) (hz1 : z.cells.size = size) (hsz : 0 < size)
    (hb8 : bytes ≤ 64) (hg : o.guard = none) (s x : Operand) (ho : o.op = .call { callee := .builtin .append, args := #[s, x], argTypes := #[t, t] })
    (v : Value) (n : Nat) (xs : List Value) (hs : a.eval s = v) (hown : w.ownsRow base e size v n xs) (g : Nat) (us : List Value) (hul : us.length = size) (hu : ∀ u ∈ us, u.oneCell' = true) (hx : a.eval x = .slice (some ⟨g, 0, none⟩) 1 1) (hb : Blk w g us.toArray e) (hl : n ≤ 1000000)
    (h : ∀ v' w', w'.ownsRow base e size v' (n + 1) (xs ++ us) → Keep (fun k => v.ownBlock = some k) w w' → (v'.ownBlock = v.ownBlock ∨ v'.ownBlock = some w.heap.size) → R v' w') : does Tryd.prog ops o a w R := by
  obtain ⟨ti, hi, hz0, hz, hz2⟩ := info_parts hinf
  obtain ⟨v', w', hr, h2, h3, _, h4⟩ := run_append_own_at (P := Tryd.prog) w base t o.type e ti z size bytes ht hi hz0 hz hz2 hz1 hsz v n xs hown ⟨g, 0, none⟩ 1 1 us (by rw [hul]; omega) (fun j q hq => by
    rw [show (⟨g, 0, none⟩ : Addr).add j = ⟨g, j, none⟩ from by by_cases h0 : j = 0 <;> simp [Addr.add, h0], hb.cell j]
    simpa using hq) hu (by simp only [maxLen]; omega) (by
      have : (n + 1) * bytes ≤ (n + 1) * 64 := Nat.mul_le_mul_left _ hb8
      omega) hbase
  exact does_of_run hg (run_exec_append s x t ho hs hx hr) (h v' w' h2 (grown_keep h3) h4)

section
variable {P : Program} {ops : Array Oper} {X : Nat → Prop} {w0 : World} {Q : Act → World → Prop} {L : List Nat}
/-- From here on other blocks may be written, by number. -/
theorem Flow.turn1 {listed : Array Bool} {C : World → Prop} {a : Act} (Y : Nat → Prop) (i : Nat) (o : Oper) (ho : ops[i]? = some o) (hr : (Region.ready .any ops listed == [i]) = true)
    (hw : ((List.range listed.size).all fun j => !listed.getD j false || (L.contains j || waits2B ops i j)) = true) (R : Value → World → Prop)
    (hR : ∀ v w w', R v w → Ext w w' → R v w') (h : ∀ w, C w → Keep X w0 w → does P ops o a w (ActR Y w0 R))
    (k : ∀ v, (∃ w, R v w) → Flow P ops w0 Q Y L (listed.setIfInBounds i true) (R v) (a.put o.dst v)) : Flow P ops w0 Q X L listed C a :=
  Flow.turn Y i o R ho (by simpa using hr) (fun j hj => by
    have hjs : j < listed.size := by
      rcases Nat.lt_or_ge j listed.size with h | h
      · exact h
      · rw [Array.getD_eq_getD_getElem?, Array.getElem?_eq_none h] at hj; cases hj
    have h1 := List.all_eq_true.1 hw j (List.mem_range.2 hjs)
    rw [hj] at h1
    simp only [Bool.not_true, Bool.false_or, Bool.or_eq_true] at h1
    exact h1.imp (fun h => by simpa using h) waits2_of) h (fun v hv => Flow.mono (k v hv) fun _ ⟨_, hw, he⟩ => hR _ _ _ hw he)
theorem Flow.l {listed : Array Bool} {C : World → Prop} {a : Act} {v : Value} (i : Nat) (o : Oper) (ho : ops[i]? = some o) (hr : (Region.ready .any ops listed).contains i = true)
    (h : ∀ w, does P ops o a w (DetR v w)) (k : Flow P ops w0 Q X (i :: L) (listed.setIfInBounds i true) C (a.put o.dst v)) : Flow P ops w0 Q X L listed C a :=
  Flow.loose i o v ho (by simpa using hr) h k
end
/-- One number in a new block; one value that is none. -/
def IntOne (k : Nat) (u : Value) (w : World) : Prop := ∃ b, u = .slice (some ⟨b, 0, none⟩) 1 1 ∧ Blk w b #[.int .i64 (k : Int)] 3
theorem IntOne.ext {k : Nat} {u : Value} {w w' : World} (h : IntOne k u w) (x : Ext w w') : IntOne k u w' := by
  obtain ⟨b, e, hb⟩ := h
  exact ⟨b, e, hb.ext x⟩
theorem IntOne.mk (k : Nat) (w : World) : IntOne k (.slice (some ⟨w.heap.size, 0, none⟩) 1 1) (w.alloc (.cells #[.int .i64 (k : Int)] 3)) := ⟨_, rfl, Blk.new _ _ _⟩
end Go.Proofs.YtbpdeoccjhplnaaDoor


/- Runs: what any statement does. -/
namespace Go.Proofs.YtbpdeoccjhplnaaDoor
set_option linter.unusedSimpArgs false
set_option linter.unusedVariables false
open Go Go.RowKit

theorem isK_of {x : PS} {b : ByteArray} {k : List UInt8} (hb : b.toList = k) (h : eqB x.kind b = true) : x.isK k = true := by
  unfold eqB at h
  rw [hb] at h
  exact h
theorem kind_cases {P : PP} {x : PS} (h : P.stmtErr x = 0) : x.isK kAddr = true ∨ x.isK kCopy = true ∨ x.isK kLoad = true ∨ x.isK kStore = true ∨ x.isK kNew = true ∨ x.isK kFun = true ∨ x.isK kCall = true := by
  unfold PP.stmtErr at h
  cases hm : memB x.kind kindsS with
  | false => rw [hm] at h; simp at h
  | true =>
    simp only [memB, kindsS, List.any_cons, List.any_nil, Bool.or_false, Bool.or_eq_true] at hm
    refine hm.imp (fun h => ?_) (Or.imp (fun h => ?_) (Or.imp (fun h => ?_) (Or.imp (fun h => ?_) (Or.imp (fun h => ?_) (Or.imp (fun h => ?_) (fun h => ?_))))))
    · exact isK_of (k := kAddr) (by decide +kernel) h
    · exact isK_of (k := kCopy) (by decide +kernel) h
    · exact isK_of (k := kLoad) (by decide +kernel) h
    · exact isK_of (k := kStore) (by decide +kernel) h
    · exact isK_of (k := kNew) (by decide +kernel) h
    · exact isK_of (k := kFun) (by decide +kernel) h
    · exact isK_of (k := kCall) (by decide +kernel) h
end Go.Proofs.YtbpdeoccjhplnaaDoor


/- Runs: run.Do: programs that are none, scripts that are none. -/
namespace Go.Proofs.YtbpdeoccjhplnaaDoor
set_option linter.unusedSimpArgs false
set_option linter.unusedVariables false
open Go Go.RowKit

def PP.badk (P : PP) (n : Int) : Bool := decide (n < 0) || decide ((P.stmts.length : Int) ≤ n)
def zeroS : Value := .agg #[.slice none 0 0, .slice none 0 0, .slice none 0 0]
def zcells : Array Value := #[.slice none 0 0, .slice none 0 0, .slice none 0 0]
theorem ErrIs.form {ad : Nat → Addr} {P : PP} {w : World} {v : Value} (h : ErrIs ad P w v) : (v = .nilIface ∧ P.err1 = 0 ∧ P.allWell) ∨ ((∃ t x, v = .iface t (.pointer (some x))) ∧ ¬ (P.err1 = 0 ∧ P.allWell)) := by
  rcases h with ⟨h1, h2⟩ | ⟨h1, h2, h3⟩ | ⟨h1, i, s, b, h2, h3, _⟩
  · refine .inr ⟨?_, fun h => h1 h.1⟩
    obtain ⟨x, hx⟩ : ∃ x, evOf ad P.err1 = .iface 215 (.pointer (some x)) := ⟨_, rfl⟩
    exact ⟨_, _, by rw [h2, hx]⟩
  · exact .inl ⟨h3, h1, h2⟩
  · refine .inr ⟨⟨_, _, h3⟩, fun h => h2.2.1 (h.2 i s ?_ h2.1)⟩
    rcases Nat.lt_or_ge i P.stmts.length with h | h
    · exact h
    · have h3 := h2.1; rw [List.getElem?_eq_none h] at h3; cases h3
/-- The script's first number that names no statement. -/
def PP.FirstK (P : PP) (l : List Int) (i : Nat) : Prop := ∃ x, l[i]? = some x ∧ P.badk x = true ∧ ∀ j y, j < i → l[j]? = some y → P.badk y = false
/-- What a run tells that is refused. -/
def RunNo (ad : Nat → Addr) (P : PP) (l : List Int) (w : World) (v : Value) : Prop :=
  (¬ (P.err1 = 0 ∧ P.allWell) ∧ ErrIs ad P w v) ∨ (P.err1 = 0 ∧ P.allWell ∧ 2000 < l.length ∧ v = evOf ad 8) ∨
  (P.err1 = 0 ∧ P.allWell ∧ l.length ≤ 2000 ∧ ∃ i b, P.FirstK l i ∧ v = .iface 87 (.pointer (some ⟨b, 0, none⟩)) ∧ Blk w b #[.int .i64 (i : Int), evOf ad 2] 91)
/-- A script that may be done. -/
def PP.Runs (P : PP) (l : List Int) : Prop := P.err1 = 0 ∧ P.allWell ∧ l.length ≤ 2000 ∧ ∀ x ∈ l, P.badk x = false

theorem store3_keep (w : World) (g : Nat) (v0 v1 v2 : Value) : Keep (fun b => b = g) w (((w.setCell ⟨g, 0, none⟩ v0).setCell ⟨g, 1, none⟩ v1).setCell ⟨g, 2, none⟩ v2) :=
  have k : ∀ (u : World) j v, Keep (fun b => b = g) w u → Keep (fun b => b = g) w (u.setCell ⟨g, j, none⟩ v) := fun _ _ v h => h.set rfl v
  k _ _ _ (k _ _ _ (k _ _ _ (Keep.refl _ w)))
theorem store3 {w : World} {g : Nat} {x0 x1 x2 v0 v1 v2 : Value} {t : TypeId} (h : Blk w g #[x0, x1, x2] t) : Blk (((w.setCell ⟨g, 0, none⟩ v0).setCell ⟨g, 1, none⟩ v1).setCell ⟨g, 2, none⟩ v2) g #[v0, v1, v2] t := by
  have := ((h.set 0 v0).set 1 v1).set 2 v2
  simpa using this
/-- A fault in a new block. -/
def FtAt (i : Nat) (ev : Value) (v : Value) (w : World) : Prop := ∃ b, v = .pointer (some ⟨b, 0, none⟩) ∧ Blk w b #[.int .i64 (i : Int), ev] 91
theorem FtAt.ext {i : Nat} {ev v : Value} {w w' : World} (h : FtAt i ev v w) (x : Ext w w') : FtAt i ev v w' := by
  obtain ⟨b, e, h⟩ := h
  exact ⟨b, e, h.ext x⟩
end Go.Proofs.YtbpdeoccjhplnaaDoor


/- Runs: run.Do: a script that is done. -/
namespace Go.Proofs.YtbpdeoccjhplnaaDoor
set_option linter.unusedSimpArgs false
set_option linter.unusedVariables false
open Go Go.RowKit

theorem Rn.run_snoc (P : PP) (l : List Nat) (k : Nat) : Rn.run P (l ++ [k]) = (Rn.run P l).step P k := by simp [Rn.run, List.foldl_append]
theorem Rn.Ok.step {P : PP} {s : Rn} (h : s.Ok P) (hw : P.allWell) (k : Nat) : (s.step P k).Ok P := by
  unfold Rn.step
  cases hx : P.stmts[k]? with
  | none => exact h
  | some x =>
    have hk : k < P.stmts.length := by
      rcases Nat.lt_or_ge k P.stmts.length with h | h
      · exact h
      · rw [List.getElem?_eq_none h] at hx; cases hx
    exact h.stmt k (PP.good (hw k x hk hx))
theorem Rn.Ok.foldl {P : PP} (hw : P.allWell) : ∀ (l : List Nat) {s : Rn}, s.Ok P → (l.foldl (Rn.step P) s).Ok P
  | [], _, h => h
  | k :: l, _, h => Rn.Ok.foldl hw l (h.step hw k)
theorem Rn.Ok.run {P : PP} (hw : P.allWell) (l : List Nat) : (Rn.run P l).Ok P := Rn.Ok.foldl hw l (Rn.Ok.begin P)
theorem Rn.step_len (P : PP) (s : Rn) (k : Nat) : (s.step P k).places.length ≤ s.places.length + 1 := by
  unfold Rn.step
  cases hx : P.stmts[k]? with
  | none => exact Nat.le_succ _
  | some x =>
    simp only [Rn.stmt_places]
    split <;> simp
theorem Rn.foldl_len (P : PP) : ∀ (l : List Nat) (s : Rn), (l.foldl (Rn.step P) s).places.length ≤ s.places.length + l.length
  | [], s => Nat.le_refl _
  | k :: l, s => by
    have h1 := Rn.foldl_len P l (s.step P k)
    have h2 := Rn.step_len P s k
    simp only [List.foldl_cons, List.length_cons]
    omega
theorem Rn.run_len {P : PP} (hw : P.allWell) (l : List Nat) : (Rn.run P l).things.length ≤ l.length := by
  rw [← (Rn.Ok.run hw l).lp]
  have := Rn.foldl_len P l (Rn.begin P)
  simpa [Rn.run, Rn.begin] using this

theorem ElR.lift {n0 n1 n : Nat} {v : Value} {E : Nat → Addr → Prop} (h : ElR n0 v n E) (hn : n0 ≤ n1) : ElR n1 v n E := h.mono hn fun _ _ _ _ h => h
theorem ProgR.lift {w : World} {n0 n1 : Nat} {v1 v2 v3 : Value} {P : PP} (h : ProgR w n0 v1 v2 v3 P) (hn : n0 ≤ n1) : ProgR w n1 v1 v2 v3 P :=
  ⟨ElR.lift h.vars hn, ElR.mono h.funs hn fun i y _ _ hE f hf => by
    obtain ⟨pv, h1, h2, h3, h4⟩ := hE f hf
    exact ⟨pv, h1, h2, h3, ElR.lift h4 hn⟩, ElR.mono h.stmts hn fun i y _ _ hE f hf => by
    obtain ⟨pv, h1, h2, h3, h4, h5⟩ := hE f hf
    exact ⟨pv, h1, h2, h3, h4, ElR.lift h5 hn⟩⟩
theorem fm_rep (k : Nat) : (List.replicate (k + 1) Vl.none).flatMap Vl.cells = (List.replicate k Vl.none).flatMap Vl.cells ++ Vl.cells .none := by
  rw [List.replicate_succ', List.flatMap_append]
  simp

theorem IntsR.at {w : World} {n0 : Nat} {a : Option Addr} {n cap : Nat} {l : List Int} (h : IntsR w n0 (.slice a n cap) l) {k : Nat} (hk : k < l.length) : ∃ y q, a = some y ∧ l[k]? = some q ∧ w.cell? (y.add k) = some (.int .i64 q) := by
  obtain ⟨a', cap', h1, h2, h3, h4, h5⟩ := h
  obtain ⟨rfl, rfl, rfl⟩ : a = a' ∧ n = l.length ∧ cap = cap' := by simpa using h1
  obtain ⟨y, rfl⟩ := h4 (by omega)
  have hx : l[k]? = some (l[k]'hk) := List.getElem?_eq_getElem hk
  exact ⟨y, _, rfl, hx, (h5 y rfl (by omega)).2 k hk _ hx⟩
theorem PP.funs_ok {P : PP} (h : P.err1 = 0) : P.funsErr = 0 := by
  unfold PP.err1 at h
  cases hb : P.big with
  | true => rw [hb] at h; simp at h
  | false =>
    rw [hb] at h
    simp only [cond_false] at h
    split at h
    · omega
    · split at h
      · omega
      · exact h
end Go.Proofs.YtbpdeoccjhplnaaDoor


/- Links: a frame is sent and kept. -/
namespace Go.Proofs.YtbpdeoccjhplnaaDoor
set_option linter.unusedSimpArgs false
set_option linter.unusedVariables false
open Go Go.RowKit

theorem fr_cells (f : Fr) (v : Value) (n : Int) : kcells (⟨f, v⟩, n) = [.int .u8 (f.kind.toNat : Int), .int .i64 f.fr, .int .i64 f.to, .int .i64 f.seq, v, .int .i64 n] := rfl

end Go.Proofs.YtbpdeoccjhplnaaDoor


/- Links: a tick. -/
namespace Go.Proofs.YtbpdeoccjhplnaaDoor
set_option linter.unusedSimpArgs false
set_option linter.unusedVariables false
open Go Go.RowKit

theorem FV.At.ints {w : World} {n0 : Nat} {t : Option Nat} {x : FV} {a : Option Addr} {cap : Nat} (h : x.At w n0 t) (hv : x.v = .slice a x.f.nums.length cap) : Ints w a x.f.nums.length x.f.nums := by
  obtain ⟨a', c', e, hi, _⟩ := NumsAt.form h
  rw [hv] at e
  simp only [Value.slice.injEq, true_and] at e
  rw [e.1]
  exact hi
def stampK (s : Snd) (x : FV × Int) : FV × Int := if s.late (x.1.f, x.2) then (x.1, s.now + 1) else x
def lateK (s : Snd) (x : FV × Int) : Bool := s.late (x.1.f, x.2)
theorem Snd.tick_eq {s : Snd} {ks : List (FV × Int)} (h : s.l = ks.map fun x => (x.1.f, x.2)) : s.tick.l = (ks.map (stampK s)).map fun x => (x.1.f, x.2) := by
  simp only [Snd.tick, h, List.map_map]
  apply List.map_congr_left
  intro x _
  simp only [Function.comp, Snd.stamp, stampK]
  split <;> rfl
theorem Snd.again_eq {s : Snd} {ks : List (FV × Int)} (h : s.l = ks.map fun x => (x.1.f, x.2)) : s.again = (ks.filter (lateK s)).map fun x => x.1.f := by
  simp only [Snd.again, h, List.filter_map, List.map_map]
  rfl
/-- The row while it is gone through. -/
def midK (s : Snd) (ks : List (FV × Int)) (i : Nat) : List (FV × Int) := (ks.take i).map (stampK s) ++ ks.drop i
theorem midK_len (s : Snd) (ks : List (FV × Int)) (i : Nat) (hi : i ≤ ks.length) : (midK s ks i).length = ks.length := by simp [midK]; omega
theorem midK_get (s : Snd) (ks : List (FV × Int)) (i : Nat) (x : FV × Int) (hx : ks[i]? = some x) : (midK s ks i)[i]? = some x := by
  have hi : i < ks.length := by
    rcases Nat.lt_or_ge i ks.length with h | h
    · exact h
    · rw [List.getElem?_eq_none h] at hx; cases hx
  unfold midK
  rw [List.getElem?_append_right (by simp; omega), List.getElem?_drop]
  simp only [List.length_map, List.length_take, Nat.min_eq_left (Nat.le_of_lt hi), Nat.sub_self, Nat.add_zero]
  exact hx
theorem midK_no (s : Snd) (ks : List (FV × Int)) (i : Nat) (x : FV × Int) (hx : ks[i]? = some x) (h : lateK s x = false) : midK s ks (i + 1) = midK s ks i := by
  have hi : i < ks.length := by
    rcases Nat.lt_or_ge i ks.length with h | h
    · exact h
    · rw [List.getElem?_eq_none h] at hx; cases hx
  have hd : ks.drop i = x :: ks.drop (i + 1) := by
    rw [List.drop_eq_getElem_cons hi]
    rw [List.getElem?_eq_getElem hi] at hx
    rw [Option.some.inj hx]
  unfold midK
  rw [List.take_add_one, hx, hd]
  simp only [Option.toList, List.map_append, List.map_cons, List.map_nil, List.append_assoc, List.cons_append, List.nil_append]
  congr 2
  unfold stampK
  rw [if_neg]
  unfold lateK at h
  simp [h]
theorem midK_yes (s : Snd) (ks : List (FV × Int)) (i : Nat) (x : FV × Int) (hx : ks[i]? = some x) (h : lateK s x = true) : midK s ks (i + 1) = (midK s ks i).set i (x.1, s.now + 1) := by
  have hi : i < ks.length := by
    rcases Nat.lt_or_ge i ks.length with h | h
    · exact h
    · rw [List.getElem?_eq_none h] at hx; cases hx
  have hd : ks.drop i = x :: ks.drop (i + 1) := by
    rw [List.drop_eq_getElem_cons hi]
    rw [List.getElem?_eq_getElem hi] at hx
    rw [Option.some.inj hx]
  unfold midK
  rw [List.take_add_one, hx, hd, List.set_append_right _ _ (by simp; omega)]
  simp only [Option.toList, List.map_append, List.map_cons, List.map_nil, List.append_assoc, List.cons_append, List.nil_append, List.length_map, List.length_take, Nat.min_eq_left (Nat.le_of_lt hi), Nat.sub_self, List.set_cons_zero]
  congr 2
  unfold stampK
  rw [if_pos]
  unfold lateK at h
  exact h
theorem midK_mem {s : Snd} {ks : List (FV × Int)} {i : Nat} {y : FV × Int} (h : y ∈ midK s ks i) : ∃ x ∈ ks, y.1 = x.1 := by
  rcases List.mem_append.1 h with h | h
  · obtain ⟨x, hx, rfl⟩ := List.mem_map.1 h
    refine ⟨x, List.mem_of_mem_take hx, ?_⟩
    unfold stampK
    split <;> rfl
  · exact ⟨y, List.mem_of_mem_drop h, rfl⟩
theorem late_snoc (s : Snd) (ks : List (FV × Int)) (j : Nat) (x : FV × Int) (hx : ks[j]? = some x) : ((ks.take (j + 1)).filter (lateK s)).map (fun x => x.1.f) = ((ks.take j).filter (lateK s)).map (fun x => x.1.f) ++ if lateK s x = true then [x.1.f] else [] := by
  rw [List.take_add_one, hx, List.filter_append, List.map_append]
  simp only [Option.toList, List.filter_cons, List.filter_nil]
  split <;> rfl

end Go.Proofs.YtbpdeoccjhplnaaDoor


/- Links: a frame is taken: refused, or old. -/
namespace Go.Proofs.YtbpdeoccjhplnaaDoor
set_option linter.unusedSimpArgs false
set_option linter.unusedVariables false
open Go Go.RowKit

/-- The map's find is the plain one. -/
theorem mfind_find (k : Int) : ∀ (ms : List FV) (i : Nat), mfind (ms.map fun x => (x.f.seq, x.val)) k i = match Rcv.find (ms.map FV.f) k with
    | none => none
    | some j => (ms[j]?).map fun x => (i + j, x.val)
  | [], i => rfl
  | x :: l, i => by
    have ih := mfind_find k l (i + 1)
    simp only [List.map_cons]
    unfold mfind
    simp only [Rcv.find, List.findIdx?_cons] at ih ⊢
    by_cases h : x.f.seq = k
    · simp [h]
    · rw [if_neg (by simp; exact fun e => h e.symm)]
      simp only [h, decide_false, Bool.false_eq_true, if_false]
      rw [ih]
      cases List.findIdx? (fun f => decide (f.seq = k)) (l.map FV.f) with
      | none => rfl
      | some j =>
        simp only [Option.map_some, List.getElem?_cons_succ]
        rw [show i + 1 + j = i + (j + 1) by omega]
theorem mval_none {ms : List FV} {k : Int} (h : Rcv.find (ms.map FV.f) k = none) : mval (ms.map fun x => (x.f.seq, x.val)) k = none := by
  unfold mval
  rw [mfind_find, h]
  rfl
theorem mval_some {ms : List FV} {k : Int} {j : Nat} (h : Rcv.find (ms.map FV.f) k = some j) : ∃ x, ms[j]? = some x ∧ x.f.seq = k ∧ mfind (ms.map fun x => (x.f.seq, x.val)) k 0 = some (j, x.val) ∧ mval (ms.map fun x => (x.f.seq, x.val)) k = some x.val := by
  obtain ⟨f, hf, hs⟩ := Rcv.find_get h
  rw [List.getElem?_map] at hf
  cases hx : ms[j]? with
  | none => rw [hx] at hf; cases hf
  | some x =>
    rw [hx] at hf
    obtain rfl := Option.some.inj hf
    have h1 : mfind (ms.map fun x => (x.f.seq, x.val)) k 0 = some (j, x.val) := by rw [mfind_find, h]; simp [hx]
    exact ⟨x, rfl, hs, h1, by unfold mval; rw [h1]; rfl⟩
section
variable {P : Program} {ops : Array Oper} {w : World} {o : Oper} {a : Act} {R : Value → World → Prop}
theorem does_map_new (hg : o.guard = none) (mo x vo : Operand) (t kt et : TypeId) (hop : o.op = Op.mapUpdate t mo x vo) (ht : P.underlying t = some (.map kt et)) (hk : P.underlying kt = some (.int .i64)) (b : Nat) (m : List (Int × Value)) (h : MapAt w b m)
    (hm : a.eval mo = .map (some b)) (k : Int) (hx : a.eval x = .int .i64 k) (v : Value) (hv : a.eval vo = v) (hn : mval m k = none)
    (hK : ∀ w', MapAt w' b (m ++ [(k, v)]) → Keep (fun k => k = b) w w' → R undef w') : does P ops o a w R := by
  obtain ⟨w', hrun, r1, r2⟩ := run_map_new ht hk h k v hn
  unfold does
  rw [if_pos (by simp [Region.wanted, hg])]
  simp [execOp, hop, hm, hx, hv, hrun, Result.andThen]
  exact hK w' r1 r2
theorem does_map_del (hg : o.guard = none) (mo x : Operand) (t kt et : TypeId) (hop : o.op = Op.call { callee := Callee.builtin Builtin.delete, args := #[mo, x], argTypes := #[t, kt] }) (ht : P.underlying t = some (.map kt et)) (hk : P.underlying kt = some (.int .i64)) (b : Nat) (m : List (Int × Value)) (h : MapAt w b m)
    (hm : a.eval mo = .map (some b)) (k : Int) (hx : a.eval x = .int .i64 k) (j : Nat) (v : Value) (hj : mfind m k 0 = some (j, v))
    (hK : ∀ w', MapAt w' b (m.eraseIdx j) → Keep (fun k => k = b) w w' → R (.tuple #[]) w') : does P ops o a w R := by
  obtain ⟨w', hrun, r1, r2⟩ := run_map_del ht hk h k j v hj o.type
  unfold does
  rw [if_pos (by simp [Region.wanted, hg])]
  simp [execOp, hop, resolve, invoke, builtin, hm, hx, hrun, Result.andThen]
  exact hK w' r1 r2
end

end Go.Proofs.YtbpdeoccjhplnaaDoor


/- Links: a frame is taken: an old one, or one that comes too early. -/
namespace Go.Proofs.YtbpdeoccjhplnaaDoor
set_option linter.unusedSimpArgs false
set_option linter.unusedVariables false
open Go Go.RowKit

end Go.Proofs.YtbpdeoccjhplnaaDoor


/- Links: a frame is taken that comes too early. -/
namespace Go.Proofs.YtbpdeoccjhplnaaDoor
set_option linter.unusedSimpArgs false
set_option linter.unusedVariables false
open Go Go.RowKit

theorem MapAt.qne {w : World} {b q : Nat} {m : List (Int × Value)} {c : Array Value} {e : TypeId} (h : MapAt w b m) (hq : Blk w q c e) : ¬ q = b := h.ne hq
theorem Wr.map {w : World} {n0 : Nat} {t : Option Nat} {b : Nat} {m : List (Int × Value)} (h : MapAt w b m) (hl : n0 ≤ b) : Wr w n0 t fun g => g = b := fun g hg _ => ⟨by omega, fun hi => by
  subst hg
  obtain ⟨es, c, hb, _⟩ := h
  obtain ⟨c', z, hi⟩ := hi
  rw [hb] at hi
  cases hi⟩


end Go.Proofs.YtbpdeoccjhplnaaDoor


/- Links: the frame that is due is taken, and what waited behind it. -/
namespace Go.Proofs.YtbpdeoccjhplnaaDoor
set_option linter.unusedSimpArgs false
set_option linter.unusedVariables false
open Go Go.RowKit

/-- How many entries a map has. -/
def mapSize (w : World) (b : Nat) : Nat := match w.heap[b]? with
  | some (.map es _) => es.size
  | _ => 0
theorem MapAt.size {w : World} {b : Nat} {m : List (Int × Value)} (h : MapAt w b m) : mapSize w b = m.length := by
  obtain ⟨es, c, hb, he⟩ := h
  unfold mapSize
  rw [hb]
  have := congrArg List.length he
  simpa using this
theorem Rcv.run_none {n : Nat} {r : Rcv} {out : List Fr} (h : find r.wait r.due = none) : run (n + 1) r out = (out, r) := by
  unfold run
  rw [h]
theorem Rcv.run_some {n : Nat} {r : Rcv} {out : List Fr} {k : Nat} {f : Fr} (h : find r.wait r.due = some k) (hf : r.wait[k]? = some f) : run (n + 1) r out = run n { r with due := r.due + 1, wait := r.wait.eraseIdx k } (out ++ [f]) := by
  conv => lhs; unfold run
  rw [h]
  simp [hf]

theorem map_eraseIdx {α β : Type} (g : α → β) (l : List α) (j : Nat) : (l.eraseIdx j).map g = (l.map g).eraseIdx j := by
  simp only [List.eraseIdx_eq_take_drop_succ, List.map_append, List.map_take, List.map_drop]
end Go.Proofs.YtbpdeoccjhplnaaDoor


/- Links: a frame is sent, or taken, in every case; the law's own trial. -/
namespace Go.Proofs.YtbpdeoccjhplnaaDoor
set_option linter.unusedSimpArgs false
set_option linter.unusedVariables false
open Go Go.RowKit

theorem errv_ne {ev : Nat → Value} {c : Nat} (h : c ≠ 0) : errv ev c = ev c := by unfold errv; rw [if_neg h]
end Go.Proofs.YtbpdeoccjhplnaaDoor


/- Links: the law's own trial. -/
namespace Go.Proofs.YtbpdeoccjhplnaaDoor
set_option linter.unusedSimpArgs false
set_option linter.unusedVariables false
open Go Go.RowKit

theorem ints_new (w : World) (vs : List Int) (hi : ∀ i, vs.getD i 0 ≤ 9223372036854775807) (hl : vs.length ≤ 1000) : Ints (w.alloc (.cells (icells vs).toArray 3)) (some ⟨w.heap.size, 0, none⟩) vs.length vs := by
  have h : IRow w.heap.size (w.alloc (.cells (icells vs).toArray 3)) (.slice (some ⟨w.heap.size, 0, none⟩) vs.length vs.length) vs :=
    own_of_blk (Blk.new _ _ _) (Nat.le_refl _) (Nat.le_refl _) (by unfold maxLen; omega) (by simp [icells]) (by rw [List.toList_toArray, Nat.mul_one, List.take_of_length_le (by simp [icells])])
  exact h.ints hi

end Go.Proofs.YtbpdeoccjhplnaaDoor


/- LinkOnce, plainly. -/
namespace Go.Proofs.YtbpdeoccjhplnaaDoor
set_option linter.unusedSimpArgs false
set_option linter.unusedVariables false

/-- The frame of the k-th number. -/
def ofr (N : List Int) (k : Nat) : Fr := ⟨100, 2, 4, (k : Int), [N.getD k 0]⟩
def oks (N : List Int) : Nat → Snd
  | 0 => Snd.new 2 4
  | i + 1 => (oks N i).sent 100 [N.getD i 0]
theorem oks_eq (N : List Int) (i : Nat) : oks N i = ⟨2, 4, (i : Int), 0, (List.range i).map fun j => (ofr N j, (0 : Int))⟩ := by
  induction i with
  | zero => rfl
  | succ i ih =>
    show (oks N i).sent 100 [N.getD i 0] = _
    rw [ih]
    simp only [Snd.sent, Snd.frame, List.range_succ, List.map_append, List.map_cons, List.map_nil, ofr]
    rfl
theorem ofr_code (N : List Int) (k : Nat) (hk : k ≤ 1000) (h : 0 ≤ N.getD k 0 ∧ N.getD k 0 ≤ 2147483648) : (ofr N k).code = 0 := by
  have h1 : inB (k : Int) 2147483648 = true := by simp [inB]; omega
  have h2 : anyFar [N.getD k 0] = false := by
    generalize N.getD k 0 = v at *
    simp only [anyFar, List.any_cons, List.any_nil, farB]
    simp
    omega
  unfold Fr.code ofr
  simp only
  rw [h1, h2]
  rfl
theorem oks_err (N : List Int) (i : Nat) (hi : i < 200) (h : 0 ≤ N.getD i 0 ∧ N.getD i 0 ≤ 2147483648) : (oks N i).err 100 [N.getD i 0] = 0 := by
  have hc : ((oks N i).frame 100 [N.getD i 0]).code = 0 := by
    rw [oks_eq]
    exact ofr_code N i (by omega) h
  have hl : (oks N i).l.length = i := by rw [oks_eq]; simp
  unfold Snd.err
  rw [if_neg (fun e => e hc), if_neg (by decide), if_neg (by omega)]
theorem oks_ok (N : List Int) (i : Nat) (hi : i ≤ 200) : (oks N i).Ok i := by
  rw [oks_eq]
  exact ⟨by simp only; omega, by simp only; omega, fun k hk => by
    obtain ⟨j, _, rfl⟩ := List.mem_map.1 hk
    simp, by simp; exact hi⟩

/-- The sender, while what is told is answered: those from a on are kept, each sent last at c. -/
def osn (N : List Int) (n a : Nat) (now c : Int) : Snd := ⟨2, 4, (n : Int), now, (List.range' a (n - a)).map fun j => (ofr N j, c)⟩
theorem oks_osn (N : List Int) (n : Nat) : oks N n = osn N n 0 0 0 := by rw [oks_eq, osn, Nat.sub_zero, List.range_eq_range']
theorem osn_ok (N : List Int) (n a : Nat) (now c : Int) (hn : n ≤ 40) (h0 : 0 ≤ c) (h1 : c ≤ now) (h2 : now ≤ 1000) : (osn N n a now c).Ok 1000 :=
  ⟨by simp only [osn]; omega, by simp only [osn]; omega, fun x hx => by
    simp only [osn] at hx ⊢
    obtain ⟨j, _, rfl⟩ := List.mem_map.1 hx
    exact ⟨h0, h1⟩, by simp [osn]; omega⟩
theorem osn_nums (N : List Int) (n a : Nat) (now c : Int) : ∀ x ∈ (osn N n a now c).l, x.1.nums.length ≤ 1000 := fun x hx => by
  simp only [osn] at hx
  obtain ⟨j, _, rfl⟩ := List.mem_map.1 hx
  simp [ofr]
theorem osn_tick (N : List Int) (n a : Nat) (now c : Int) : (osn N n a now c).tick = osn N n a (now + 1) (if now + 1 - c = 3 then now + 1 else c) := by
  have hl : (osn N n a now c).l.map (osn N n a now c).stamp = (osn N n a (now + 1) (if now + 1 - c = 3 then now + 1 else c)).l := by
    show ((List.range' a (n - a)).map fun j => (ofr N j, c)).map (osn N n a now c).stamp = (List.range' a (n - a)).map fun j => (ofr N j, if now + 1 - c = 3 then now + 1 else c)
    rw [List.map_map]
    refine List.map_congr_left fun j _ => ?_
    show (osn N n a now c).stamp (ofr N j, c) = _
    unfold Snd.stamp
    have hL : (osn N n a now c).late (ofr N j, c) = decide (now + 1 - c = 3) := rfl
    rw [hL]
    by_cases h : now + 1 - c = 3
    · rw [if_pos (decide_eq_true h), if_pos h]; rfl
    · rw [if_neg (by simp [h]), if_neg h]
  unfold Snd.tick
  rw [hl]
  rfl
theorem osn_again (N : List Int) (n a : Nat) (now c : Int) : (osn N n a now c).again = if now + 1 - c = 3 then (List.range' a (n - a)).map (ofr N) else [] := by
  unfold Snd.again
  by_cases h : now + 1 - c = 3
  · rw [if_pos h, List.filter_eq_self.2 fun x hx => ?_]
    · simp [osn, Function.comp]
    · simp only [osn] at hx
      obtain ⟨j, _, rfl⟩ := List.mem_map.1 hx
      exact decide_eq_true (show now + 1 - c = 3 from h)
  · rw [if_neg h, List.filter_eq_nil_iff.2 fun x hx => ?_]
    · rfl
    · simp only [osn] at hx
      obtain ⟨j, _, rfl⟩ := List.mem_map.1 hx
      exact fun e => h (of_decide_eq_true e)
theorem range'_filter (a m d : Nat) (h : a ≤ d) : (List.range' a m).filter (fun j : Nat => decide ((d : Int) ≤ (j : Int))) = List.range' d (a + m - d) := by
  induction m with
  | zero => simp; omega
  | succ m ih =>
    rw [List.range'_1_concat, List.filter_append, ih]
    by_cases hd : d ≤ a + m
    · have h1 : a + (m + 1) - d = (a + m - d) + 1 := by omega
      rw [h1, List.range'_1_concat]
      have : (d : Int) ≤ ((a + m : Nat) : Int) := by omega
      rw [List.filter_cons_of_pos (by simpa using this)]
      simp only [List.filter_nil]
      congr 2
      omega
    · have h1 : a + (m + 1) - d = 0 := by omega
      have h2 : a + m - d = 0 := by omega
      rw [h1, h2]
      have : ¬ (d : Int) ≤ ((a + m : Nat) : Int) := by omega
      rw [List.filter_cons_of_neg (by simpa using this)]
      simp
theorem osn_acked (N : List Int) (n a d : Nat) (now c : Int) (h : a ≤ d) (hn : a ≤ n) (hd : d ≤ n) : (osn N n a now c).acked (d : Int) = osn N n d now c := by
  unfold Snd.acked osn
  simp only [List.filter_map, Snd.mk.injEq, true_and]
  rw [show n - d = a + (n - a) - d by omega, ← range'_filter a (n - a) d h]
  rfl

/-- All are frames of the numbers. -/
def AllOf (N : List Int) (n : Nat) (l : List Fr) : Prop := ∀ f ∈ l, ∃ j, j < n ∧ f = ofr N j
/-- A receiver, while it takes frames of the numbers. -/
structure ORcv (N : List Int) (n d : Nat) (r : Rcv) : Prop where
  fr : r.fr = 2
  to : r.to = 4
  due : r.due = (d : Int)
  le : d ≤ n
  wait : AllOf N n r.wait
  len : r.wait.length ≤ 8
theorem run_of {N : List Int} {n : Nat} : ∀ (k : Nat) (d : Nat) (r : Rcv) (out : List Fr), ORcv N n d r → ∃ d' r', Rcv.run k r out = (out ++ (List.range' d (d' - d)).map (ofr N), r') ∧ ORcv N n d' r' ∧ d ≤ d' ∧ (r.wait.length < k → Rcv.find r'.wait r'.due = none)
  | 0, d, r, out, h => ⟨d, r, by simp [Rcv.run], h, Nat.le_refl _, fun h => by omega⟩
  | k + 1, d, r, out, h => by
    unfold Rcv.run
    cases hf : Rcv.find r.wait r.due with
    | none => exact ⟨d, r, by simp, h, Nat.le_refl _, fun _ => hf⟩
    | some j =>
      obtain ⟨f, hg, hs⟩ := Rcv.find_get hf
      obtain ⟨i, hi, rfl⟩ := h.wait f (List.mem_of_getElem? hg)
      have hid : i = d := by
        have h1 := h.due
        have h2 : ((i : Nat) : Int) = r.due := hs
        omega
      subst hid
      have h' : ORcv N n (i + 1) { r with due := r.due + 1, wait := r.wait.eraseIdx j } :=
        ⟨h.fr, h.to, by simp only; rw [h.due]; omega, by omega, fun g hg => h.wait g (List.mem_of_mem_eraseIdx hg), Nat.le_trans (List.length_eraseIdx_le ..) h.len⟩
      obtain ⟨d', r', e1, e2, e3, e4⟩ := run_of k (i + 1) _ (out ++ [ofr N i]) h'
      refine ⟨d', r', ?_, e2, by omega, fun hk => e4 ?_⟩
      rotate_left
      · have hj := Rcv.find_lt hf
        simp only [List.length_eraseIdx]
        rw [if_pos hj]
        omega
      simp only [hg, Option.toList]
      rw [e1, List.append_assoc]
      congr 2
      rw [show d' - i = (d' - (i + 1)) + 1 by omega, List.range'_succ]
      simp
theorem took_of {N : List Int} {n d j : Nat} {r : Rcv} (h : ORcv N n d r) (hst : Rcv.find r.wait r.due = none) (hj : j < n) : ∃ d' r', r.took (ofr N j) = ((List.range' d (d' - d)).map (ofr N), r') ∧ ORcv N n d' r' ∧ d ≤ d' ∧ (j ≤ d → j + 1 ≤ d') ∧ Rcv.find r'.wait r'.due = none := by
  unfold Rcv.took
  have hs : (ofr N j).seq = (j : Int) := rfl
  by_cases h1 : (ofr N j).seq < r.due ∨ (Rcv.find r.wait (ofr N j).seq).isSome = true
  · rw [if_pos h1]
    refine ⟨d, r, by simp, h, Nat.le_refl _, fun hd => ?_, hst⟩
    have hdu := h.due
    rcases h1 with h1 | h1
    · omega
    · rcases Nat.lt_or_ge j d with h2 | h2
      · omega
      · have : j = d := by omega
        subst this
        rw [hs, ← hdu, hst] at h1
        cases h1
  · rw [if_neg h1]
    by_cases h2 : r.due < (ofr N j).seq
    · rw [if_pos h2]
      have hdj : d < j := by have := h.due; omega
      by_cases h3 : r.wait.length < 8
      · rw [if_pos h3]
        refine ⟨d, { r with wait := r.wait ++ [ofr N j] }, by simp, ⟨h.fr, h.to, h.due, h.le, fun f hf => ?_, by simp; omega⟩, Nat.le_refl _, fun hd => by omega, ?_⟩
        rotate_left
        · show List.findIdx? _ (r.wait ++ [ofr N j]) = none
          rw [List.findIdx?_append, show List.findIdx? (fun f => decide (f.seq = r.due)) r.wait = none from hst]
          have : ¬ (ofr N j).seq = r.due := by omega
          simp [this]
        rcases List.mem_append.1 hf with hf | hf
        · exact h.wait f hf
        · exact ⟨j, hj, List.mem_singleton.1 hf⟩
      · rw [if_neg h3]
        exact ⟨d, r, by simp, h, Nat.le_refl _, fun hd => by omega, hst⟩
    · rw [if_neg h2]
      have hdj : j = d := by
        have h3 : ¬ (ofr N j).seq < r.due := fun e => h1 (.inl e)
        have := h.due
        omega
      subst hdj
      have h' : ORcv N n (j + 1) { r with due := r.due + 1 } := ⟨h.fr, h.to, by simp only; rw [h.due]; omega, by omega, h.wait, h.len⟩
      obtain ⟨d', r', e1, e2, e3, e4⟩ := run_of (r.wait.length + 1) (j + 1) _ [ofr N j] h'
      refine ⟨d', r', ?_, e2, by omega, fun _ => e3, e4 (Nat.lt_succ_self _)⟩
      rw [e1]
      rw [show d' - j = (d' - (j + 1)) + 1 by omega, List.range'_succ]
      simp

theorem took_take {N : List Int} {n d j : Nat} {r : Rcv} (h : ORcv N n d r) (hj : j < n) (hn : n ≤ 1000) (hv : ∀ k, k < n → 0 ≤ N.getD k 0 ∧ N.getD k 0 ≤ 2147483648) : r.err (ofr N j) = 0 ∧ r.take (ofr N j) = r.took (ofr N j) := by
  have hc := ofr_code N j (by omega) (hv j hj)
  have he : r.err (ofr N j) = 0 := by
    unfold Rcv.err
    rw [if_neg (fun e => e hc), if_neg]
    rintro (h1 | h1 | h1)
    · exact h1 h.fr.symm
    · exact h1 h.to.symm
    · cases h1
  exact ⟨he, by unfold Rcv.take; rw [if_pos he]⟩
theorem take_more (N : List Int) (d d' : Nat) (h : d ≤ d') (hn : d' ≤ N.length) : N.take d' = N.take d ++ (List.range' d (d' - d)).map fun j => N.getD j 0 := by
  obtain ⟨k, rfl⟩ : ∃ k, d' = d + k := ⟨d' - d, by omega⟩
  rw [Nat.add_sub_cancel_left]
  induction k with
  | zero => simp
  | succ k ih =>
    rw [List.range'_1_concat, List.map_append, ← List.append_assoc, ← ih (by omega) (by omega), ← Nat.add_assoc, List.take_succ_eq_append_getElem (by omega)]
    simp [show d + k < N.length by omega]
end Go.Proofs.YtbpdeoccjhplnaaDoor
