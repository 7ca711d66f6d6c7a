/- Texts of one proof, put together: WI. -/
import Derived.Test.YtkabgmohgjljkaaGreatDoorZRD18

/- sameState. -/
namespace Go.Proofs.YtkabgmohgjljkaaGreatDoor
set_option linter.unusedSimpArgs false
set_option linter.unusedVariables false
open Go Go.RowKit

set_option maxRecDepth 100000 in
set_option maxHeartbeats 6400000 in
theorem samestate_any (s : Rn) (w : World) (n0 m0 sb : Nat) (vv tv pv vv2 tv2 pv2 : Value) (hR : RnRows w n0 vv tv pv s) (hF : RfAt w m0 sb vv2 tv2 pv2 s) (hlv : s.vars.length ≤ 1000) (hlt : s.things.length ≤ 100000) (hpn : s.places.length ≤ 100000) (hpl : ∀ i, s.pl.getD i 0 ≤ 9223372036854775807) :
    Calls Tryz.prog 14 #[.agg #[vv, tv, pv], .pointer (some ⟨sb, 0, none⟩)] w fun e w' => e = .returned (.bool true) ∧ Ext w w' := by
  have hlen : s.pl.length = s.places.length := by simp [Rn.pl]
  obtain ⟨va, vc, rfl⟩ := row_form hR.vars
  obtain ⟨ta, tc, rfl⟩ := row_form hR.things
  obtain ⟨pa, pc, rfl⟩ := row_form hR.places
  obtain ⟨va2, vc2, rfl⟩ := row_form hF.vars
  obtain ⟨ta2, tc2, rfl⟩ := row_form hF.things
  obtain ⟨pa2, pc2, rfl⟩ := row_form hF.places
  obtain ⟨W, hW⟩ : ∃ W, W = w.alloc (.cells #[.slice va s.vars.length vc, .slice ta s.things.length tc, .slice pa s.places.length pc] 33) := ⟨_, rfl⟩
  have HX : Hid (Ext w W) := hid (by rw [hW]; exact (Ext.refl _).alloc _)
  have HB : Hid (Blk W w.heap.size #[.slice va s.vars.length vc, .slice ta s.things.length tc, .slice pa s.places.length pc] 33) := hid (by rw [hW]; exact Blk.new _ _ _)
  have HWe := hid hW
  have i1 : Ints w pa s.places.length s.pl := by
    have h : w.ownsRow n0 3 1 (.slice pa s.places.length pc) s.pl.length (icells s.pl) := by rw [hlen]; exact hR.places
    have := IRow.ints (cap := pc) (n := s.places.length) (a := pa) h hpl
    rw [hlen] at this
    exact this
  have i2 : Ints w pa2 s.places.length s.pl := by
    have h : w.ownsRow m0 3 1 (.slice pa2 s.places.length pc2) s.pl.length (icells s.pl) := by rw [hlen]; exact hF.places
    have := IRow.ints (cap := pc2) (n := s.places.length) (a := pa2) h hpl
    rw [hlen] at this
    exact this
  have HS := fun w1 (x : Ext w w1) => hid (sameints_any pa pa2 s.places.length s.places.length pc pc2 s.pl s.pl w1 (i1.ext x) (i2.ext x) (by omega) (by omega))
  rw [decide_eq_true (rfl : s.pl = s.pl)] at HS
  have HR := hid hR
  have HF := hid hF
  have d0 := HB.out.kc (X := fun _ => False) (fun e => e) 0 rfl
  have d1 := HB.out.kc (X := fun _ => False) (fun e => e) 1 rfl
  have d2 := HB.out.kc (X := fun _ => False) (fun e => e) 2 rfl
  have f0 := (hF.blk.ext HX.out).kc (X := fun _ => False) (fun e => e) 0 rfl
  have f1 := (hF.blk.ext HX.out).kc (X := fun _ => False) (fun e => e) 1 rfl
  have f2 := (hF.blk.ext HX.out).kc (X := fun _ => False) (fun e => e) 2 rfl
  simp only [List.getElem_toArray, List.getElem_cons_zero, List.getElem_cons_succ] at d0 d1 d2 f0 f1 f2
  clear hW hR hF i1 i2 hpl hlen
  go_enter Tryz.func14, Tryz.ntmps14
  go_wp2
  rw [← HWe.out]
  refine wp_flowT (fun _ => False) (by kernel_rfl) (by kernel_rfl) ?_
  repeat (apply FlowT.d; (intro w1 hk; unfold does; go_simp; (try go_ints); (first | exact DetR.mk | (simp only [↓IntWalk.iteOmega, Oper.doesUpon_value]; exact DetR.mk) | (simp only [↓IntWalk.iteOmega]; go_simp; (try go_ints); exact DetR.mk))); simp only [Act.put, List.setIfInBounds_toArray, List.set_cons_zero, List.set_cons_succ])
  apply FlowT.d
  · intro w1 hk
    unfold does
    go_simp
    exact CallR.det ((HS w1 (HX.out.trans hk.ext)).out)
  simp only [Act.put, List.setIfInBounds_toArray, List.set_cons_zero, List.set_cons_succ]
  repeat (apply FlowT.d; (intro w1 hk; unfold does; go_simp; (try go_ints); (first | exact DetR.mk | (simp only [↓IntWalk.iteOmega, Oper.doesUpon_value]; exact DetR.mk) | (simp only [↓IntWalk.iteOmega]; go_simp; (try go_ints); exact DetR.mk))); simp only [Act.put, List.setIfInBounds_toArray, List.set_cons_zero, List.set_cons_succ])
  refine FlowT.fin fun w3 hx3 hk3 => ?_
  have H3 := hid hk3.ext
  clear hx3 hk3 d0 d1 d2 f0 f1 f2 HS
  go_wp2
  go_loopw [5] (fun t wr => ∃ i : Nat, t = .int .i64 (i : Int) ∧ i ≤ s.vars.length ∧ Ext w wr ∧ Ext W wr) (fun t _ => s.vars.length - (intOf t).toNat)
  case atStart => exact ⟨0, rfl, Nat.zero_le _, HX.out.trans H3.out, H3.out⟩
  case round =>
    obtain ⟨i, rfl, hi, hx, hx0⟩ := hrel
    have Hx := hid hx
    have Hx0 := hid hx0
    clear hx hx0
    by_cases hlt : i < s.vars.length
    · obtain ⟨g, cp, e1⟩ := own_some HR.out.vars (by omega)
      obtain ⟨g2, cp2, e2⟩ := own_some HF.out.vars (by omega)
      simp only [Value.slice.injEq, true_and] at e1 e2
      obtain ⟨rfl, rfl⟩ := e1
      obtain ⟨rfl, rfl⟩ := e2
      have hu := at_some hlt
      obtain ⟨r0, r1⟩ := own_v (own_ext HR.out.vars Hx.out) hu
      obtain ⟨y0, y1⟩ := own_v (own_ext HF.out.vars Hx.out) hu
      have d0 := (HB.out.ext Hx0.out).kc (X := fun _ => False) (fun e => e) 0 rfl
      have f0 := (HF.out.blk.ext Hx.out).kc (X := fun _ => False) (fun e => e) 0 rfl
      simp only [List.getElem_toArray, List.getElem_cons_zero, List.getElem_cons_succ] at d0 f0
      generalize (s.vars.getD i .none).kind = uk at *
      generalize (s.vars.getD i .none).num = un at *
      have u0 : ∀ w1, Keep (fun _ => False) wr w1 → w1.cell? ⟨g, i * 2, none⟩ = some (.string uk) := fun w1 k => k.ext.cellx r0
      have u1 : ∀ w1, Keep (fun _ => False) wr w1 → w1.cell? ⟨g, i * 2 + 1, none⟩ = some (.int .i64 (un : Int)) := fun w1 k => k.ext.cellx r1
      have v0 : ∀ w1, Keep (fun _ => False) wr w1 → w1.cell? ⟨g2, i * 2, none⟩ = some (.string uk) := fun w1 k => k.ext.cellx y0
      have v1 : ∀ w1, Keep (fun _ => False) wr w1 → w1.cell? ⟨g2, i * 2 + 1, none⟩ = some (.int .i64 (un : Int)) := fun w1 k => k.ext.cellx y1
      have q0 := (HB.out.ext Hx0.out).av 0 rfl
      simp only [List.getElem_toArray, List.getElem_cons_zero, List.getElem_cons_succ] at q0
      clear hu r0 r1 y0 y1
      go_wp2
      clear q0
      refine wp_flowT (fun _ => False) (by kernel_rfl) (by kernel_rfl) ?_
      repeat (apply FlowT.d; (intro w1 hk; unfold does; go_simp; (try go_ints); (first | exact DetR.mk | (simp only [↓IntWalk.iteOmega, Oper.doesUpon_value]; exact DetR.mk) | (simp only [↓IntWalk.iteOmega]; go_simp; (try go_ints); exact DetR.mk))); simp only [Act.put, List.setIfInBounds_toArray, List.set_cons_zero, List.set_cons_succ])
      refine FlowT.fin fun w2 hx2 hk2 => ?_
      have HX2 := hid (Hx.out.trans hk2.ext)
      have HX3 := hid (Hx0.out.trans hk2.ext)
      clear hx2 hk2 d0 f0 u0 u1 v0 v1
      go_wp2
      go_roundw
      case rel => exact ⟨i + 1, by go_num, by omega, HX2.out, HX3.out⟩
      case measure => simp [intOf]; omega
    · obtain rfl : i = s.vars.length := by omega
      have q0 := (HB.out.ext Hx0.out).av 0 rfl
      simp only [List.getElem_toArray, List.getElem_cons_zero, List.getElem_cons_succ] at q0
      go_wp2
      clear q0
      skip
      have Hy := hid Hx.out
      have Hy0 := hid Hx0.out
      clear Hx Hx0
      go_loopw [6] (fun t wr => ∃ i : Nat, t = .int .i64 (i : Int) ∧ i ≤ s.things.length ∧ Ext w wr ∧ Ext W wr) (fun t _ => s.things.length - (intOf t).toNat)
      case atStart => exact ⟨0, rfl, Nat.zero_le _, Hy.out, Hy0.out⟩
      case round =>
        obtain ⟨i, rfl, hi, hx, hx0⟩ := hrel
        have Hx := hid hx
        have Hx0 := hid hx0
        clear hx hx0
        by_cases hlt : i < s.things.length
        · obtain ⟨g, cp, e1⟩ := own_some HR.out.things (by omega)
          obtain ⟨g2, cp2, e2⟩ := own_some HF.out.things (by omega)
          simp only [Value.slice.injEq, true_and] at e1 e2
          obtain ⟨rfl, rfl⟩ := e1
          obtain ⟨rfl, rfl⟩ := e2
          have hu := at_some hlt
          obtain ⟨r0, r1⟩ := own_v (own_ext HR.out.things Hx.out) hu
          obtain ⟨y0, y1⟩ := own_v (own_ext HF.out.things Hx.out) hu
          have d0 := (HB.out.ext Hx0.out).kc (X := fun _ => False) (fun e => e) 1 rfl
          have f0 := (HF.out.blk.ext Hx.out).kc (X := fun _ => False) (fun e => e) 1 rfl
          simp only [List.getElem_toArray, List.getElem_cons_zero, List.getElem_cons_succ] at d0 f0
          generalize (s.things.getD i .none).kind = uk at *
          generalize (s.things.getD i .none).num = un at *
          have u0 : ∀ w1, Keep (fun _ => False) wr w1 → w1.cell? ⟨g, i * 2, none⟩ = some (.string uk) := fun w1 k => k.ext.cellx r0
          have u1 : ∀ w1, Keep (fun _ => False) wr w1 → w1.cell? ⟨g, i * 2 + 1, none⟩ = some (.int .i64 (un : Int)) := fun w1 k => k.ext.cellx r1
          have v0 : ∀ w1, Keep (fun _ => False) wr w1 → w1.cell? ⟨g2, i * 2, none⟩ = some (.string uk) := fun w1 k => k.ext.cellx y0
          have v1 : ∀ w1, Keep (fun _ => False) wr w1 → w1.cell? ⟨g2, i * 2 + 1, none⟩ = some (.int .i64 (un : Int)) := fun w1 k => k.ext.cellx y1
          have q0 := (HB.out.ext Hx0.out).av 1 rfl
          simp only [List.getElem_toArray, List.getElem_cons_zero, List.getElem_cons_succ] at q0
          clear hu r0 r1 y0 y1
          go_wp2
          clear q0
          refine wp_flowT (fun _ => False) (by kernel_rfl) (by kernel_rfl) ?_
          repeat (apply FlowT.d; (intro w1 hk; unfold does; go_simp; (try go_ints); (first | exact DetR.mk | (simp only [↓IntWalk.iteOmega, Oper.doesUpon_value]; exact DetR.mk) | (simp only [↓IntWalk.iteOmega]; go_simp; (try go_ints); exact DetR.mk))); simp only [Act.put, List.setIfInBounds_toArray, List.set_cons_zero, List.set_cons_succ])
          refine FlowT.fin fun w2 hx2 hk2 => ?_
          have HX2 := hid (Hx.out.trans hk2.ext)
          have HX3 := hid (Hx0.out.trans hk2.ext)
          clear hx2 hk2 d0 f0 u0 u1 v0 v1
          go_wp2
          go_roundw
          case rel => exact ⟨i + 1, by go_num, by omega, HX2.out, HX3.out⟩
          case measure => simp [intOf]; omega
        · obtain rfl : i = s.things.length := by omega
          have q0 := (HB.out.ext Hx0.out).av 1 rfl
          simp only [List.getElem_toArray, List.getElem_cons_zero, List.getElem_cons_succ] at q0
          go_wp2
          clear q0
          go_ret
          exact ⟨rfl, Hx.out⟩
end Go.Proofs.YtkabgmohgjljkaaGreatDoor
