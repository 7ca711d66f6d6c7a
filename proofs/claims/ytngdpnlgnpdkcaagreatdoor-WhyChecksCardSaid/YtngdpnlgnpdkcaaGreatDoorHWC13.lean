/- Texts of one proof, put together: ZZWs. -/
import Derived.Test.YtngdpnlgnpdkcaaGreatDoorHWC12
import Derived.Test.YtngdpnlgnpdkcaaGreatDoorHWC01
set_option linter.unusedSimpArgs false
set_option linter.unusedVariables false
namespace Go.Proofs.YtngdpnlgnpdkcaaGreatDoor
open Go Go.RowKit
set_option maxRecDepth 100000 in
set_option maxHeartbeats 12800000 in
theorem rproof_any (a1 a2 a3 : Option Addr) (c1 c2 c3 : Nat) (P : PP) (vl : Value) (L : List ST) (w : World) (n0 : Nat) (h : ProgR w n0 (.slice a1 P.vars.length c1) (.slice a2 P.funs.length c2) (.slice a3 P.stmts.length c3) P) (hw : P.Well) (n1 : Nat) (hr : StepsR w n1 vl L) (hll : L.length ≤ 1000000) :
  Calls Tryz.prog 17 #[pval a1 a2 a3 c1 c2 c3 P, vl] w fun e w' => ∃ (c : Nat) (p : Int), e = .returned (.agg #[.int .i64 (c : Int), .int .i64 p]) ∧ ProofIs P L c p ∧ Ext w w' := by
 obtain ⟨al, cl, rfl⟩ := hr.form2
 have hsl : P.stmts.length ≤ 1000 := by have := hw.few; omega
 obtain ⟨W1, hW1⟩ : ∃ W1, W1 = w.alloc (.cells #[.slice a1 P.vars.length c1, .slice a2 P.funs.length c2, .slice a3 P.stmts.length c3] 26) := ⟨_, rfl⟩
 obtain ⟨W, hW⟩ : ∃ W, W = W1.alloc (.cells #[.int .i64 0, .int .i64 0] 36) := ⟨_, rfl⟩
 have x1 : Ext w W1 := by rw [hW1]; exact (Ext.refl _).alloc _
 have x2 : Ext W1 W := by rw [hW]; exact (Ext.refl _).alloc _
 have s1 : W1.heap.size = w.heap.size + 1 := by rw [hW1, heap_size_alloc]
 have HX := hid (x1.trans x2)
 have HBx : Hid (Blk W w.heap.size #[.slice a1 P.vars.length c1, .slice a2 P.funs.length c2, .slice a3 P.stmts.length c3] 26) := hid ((show Blk W1 w.heap.size _ 26 by rw [hW1]; exact Blk.new _ _ _).ext x2)
 have HBz : Hid (Blk W (w.heap.size + 1) #[.int .i64 0, .int .i64 0] 36) := hid (by rw [← s1, hW]; exact Blk.new _ _ _)
 have HWe : Hid (W = (w.alloc (.cells #[.slice a1 P.vars.length c1, .slice a2 P.funs.length c2, .slice a3 P.stmts.length c3] 26)).alloc (.cells #[.int .i64 0, .int .i64 0] 36)) := hid (by rw [hW, hW1])
 have HP := hid h
 have Hw := hid hw
 have Hr := hid hr
 clear h hw hr hW hW1 x1 x2 s1
 unfold pval
 go_enter Tryz.func17, Tryz.ntmps17
 by_cases hbig : 2000 < L.length
 ·have HFb := hid (rbare_any 8 W)
  have HPI : Hid (ProofIs P L 8 (-1)) := hid (.inl ⟨hbig, rfl, rfl⟩)
  go_wp2_with fail
  rw [← HWe.out]
  refine HFb.out.mono ?_
  intro e w5 hx5
  obtain ⟨rfl, hx5⟩ := hx5
  have Hx5 := hid hx5
  clear HFb hx5
  have hz := HBz.out.ext Hx5.out
  have y0 := (two (v0 := .int .i64 8) (v1 := .int .i64 (-1)) hz).av 0 rfl
  have y1 := (two (v0 := .int .i64 8) (v1 := .int .i64 (-1)) hz).av 1 rfl
  have z0 := hz.av 0 rfl
  have z1 := hz.av 1 rfl
  have g0 := hz.free 0
  have g1 := hz.free 1
  have hxe := Keep.new (HX.out.trans Hx5.out) (two_keep _ (w.heap.size + 1) (.int .i64 8) (.int .i64 (-1))) fun b e => by omega
  simp only [qA0, qA1, qA2] at z0 z1 y0 y1
  skip
  have Hxe := hid hxe
  clear hz hxe
  go_wp2
  refine bodyPost_ret (v := .agg #[.int .i64 8, .int .i64 (-1)]) ?_ rfl ?_
  ·simp [results, Tryz.results17, go_sem, y0, y1]
  exact ⟨_, _, rfl, HPI.out, Hxe.out⟩
 have hll2 : L.length ≤ 2000 := by omega
 go_wp2
 rw [← HWe.out]
 go_loopw [5] (fun t5 wr => ∃ j : Nat, t5 = .int .i64 (j : Int) ∧ j ≤ L.length ∧ StepsOk P L j ∧ Ext W wr) (fun t5 _ => L.length - (intOf t5).toNat)
 case atStart => exact ⟨0, rfl, Nat.zero_le _, fun j t h => absurd h (Nat.not_lt_zero _), Ext.refl _⟩
 case round =>
  obtain ⟨j, rfl, hj, hok, hxr⟩ := hrel
  have Hxr := hid hxr
  have Hok := hid hok
  clear hok
  by_cases hlt : j < L.length
  ·obtain ⟨s, hs⟩ : ∃ s, L[j]? = some s := ⟨_, List.getElem?_eq_getElem hlt⟩
   have hrow := Hr.out.ext (HX.out.trans hxr)
   obtain ⟨y8, cp8, hge⟩ := hrow.some (by omega)
   simp only [Value.slice.injEq] at hge
   obtain ⟨rfl, -, rfl⟩ := hge
   obtain ⟨q0, q1, q2, q3, q4⟩ := hrow.at5 hs
   obtain ⟨sn, so, ss, sf, sv⟩ := s
   have Hs := hid hs
   obtain ⟨wA, hwA⟩ : ∃ wA, wA = wr.alloc (.cells #[.int .i64 sn, .int .i64 so, .int .i64 ss, .int .i64 sf, .int .i64 sv] 48) := ⟨_, rfl⟩
   have hxA : Ext wr wA := by rw [hwA]; exact (Ext.refl _).alloc _
   have HxA := hid hxA
   have HwA := hid hwA
   have p0 := ((HBx.out.ext hxr).ext hxA).av 0 rfl
   have p1 := ((HBx.out.ext hxr).ext hxA).av 1 rfl
   have p2 := ((HBx.out.ext hxr).ext hxA).av 2 rfl
   simp only [qA0, qA1, qA2] at p0 p1 p2 q0 q1 q2 q3 q4
   rw [hwA] at p0 p1 p2
   cases hb : boundV P ⟨sn, so, ss, sf, sv⟩ j with
   | false =>
    have HE0 : Hid (stepE P L j ⟨sn, so, ss, sf, sv⟩ = 2) := hid (by unfold stepE; rw [hb]; rfl)
    have hnb : ¬ ((0 ≤ ss ∧ ss < P.stmts.length) ∧ (-1 ≤ sf ∧ sf < j) ∧ (-1 ≤ sv ∧ sv < j)) := fun hh => by
     rw [boundV_iff.2 hh] at hb; cases hb
    clear hxr hrow hs hxA hwA hb
    by_cases z1 : ss < 0
    ·clear hnb
     have HPI : Hid (ProofIs P L 2 (j : Int)) := hid (.inr (.inr ⟨hll2, j, _, Hs.out, Hok.out, by rw [HE0.out]; decide, HE0.out.symm, rfl⟩))
     have hz := HBz.out.ext (Hxr.out.trans HxA.out)
     have y0 := (two (v0 := .int .i64 2) (v1 := .int .i64 (j : Int)) hz).av 0 rfl
     have y1 := (two (v0 := .int .i64 2) (v1 := .int .i64 (j : Int)) hz).av 1 rfl
     have z0 := hz.av 0 rfl
     have z1 := hz.av 1 rfl
     have g0 := hz.free 0
     have g1 := hz.free 1
     have hxe := Keep.new (HX.out.trans (Hxr.out.trans HxA.out)) (two_keep _ (w.heap.size + 1) (.int .i64 2) (.int .i64 (j : Int))) fun b e => by omega
     simp only [qA0, qA1, qA2] at z0 z1 y0 y1
     rw [HwA.out] at z0 z1 y0 y1 g0 g1 hxe
     have Hxe := hid hxe
     clear hz hxe
     go_wp2
     refine bodyPost_ret (v := .agg #[.int .i64 2, .int .i64 (j : Int)]) ?_ rfl ?_
     ·simp [results, Tryz.results17, go_sem, y0, y1]
     exact ⟨_, _, rfl, HPI.out, Hxe.out⟩
    by_cases z2 : (P.stmts.length : Int) ≤ ss
    ·clear hnb
     have HPI : Hid (ProofIs P L 2 (j : Int)) := hid (.inr (.inr ⟨hll2, j, _, Hs.out, Hok.out, by rw [HE0.out]; decide, HE0.out.symm, rfl⟩))
     have hz := HBz.out.ext (Hxr.out.trans HxA.out)
     have y0 := (two (v0 := .int .i64 2) (v1 := .int .i64 (j : Int)) hz).av 0 rfl
     have y1 := (two (v0 := .int .i64 2) (v1 := .int .i64 (j : Int)) hz).av 1 rfl
     have z0 := hz.av 0 rfl
     have z1 := hz.av 1 rfl
     have g0 := hz.free 0
     have g1 := hz.free 1
     have hxe := Keep.new (HX.out.trans (Hxr.out.trans HxA.out)) (two_keep _ (w.heap.size + 1) (.int .i64 2) (.int .i64 (j : Int))) fun b e => by omega
     simp only [qA0, qA1, qA2] at z0 z1 y0 y1
     rw [HwA.out] at z0 z1 y0 y1 g0 g1 hxe
     have Hxe := hid hxe
     clear hz hxe
     go_wp2
     refine bodyPost_ret (v := .agg #[.int .i64 2, .int .i64 (j : Int)]) ?_ rfl ?_
     ·simp [results, Tryz.results17, go_sem, y0, y1]
     exact ⟨_, _, rfl, HPI.out, Hxe.out⟩
    by_cases z3 : sf < -1
    ·clear hnb
     have HPI : Hid (ProofIs P L 2 (j : Int)) := hid (.inr (.inr ⟨hll2, j, _, Hs.out, Hok.out, by rw [HE0.out]; decide, HE0.out.symm, rfl⟩))
     have hz := HBz.out.ext (Hxr.out.trans HxA.out)
     have y0 := (two (v0 := .int .i64 2) (v1 := .int .i64 (j : Int)) hz).av 0 rfl
     have y1 := (two (v0 := .int .i64 2) (v1 := .int .i64 (j : Int)) hz).av 1 rfl
     have z0 := hz.av 0 rfl
     have z1 := hz.av 1 rfl
     have g0 := hz.free 0
     have g1 := hz.free 1
     have hxe := Keep.new (HX.out.trans (Hxr.out.trans HxA.out)) (two_keep _ (w.heap.size + 1) (.int .i64 2) (.int .i64 (j : Int))) fun b e => by omega
     simp only [qA0, qA1, qA2] at z0 z1 y0 y1
     rw [HwA.out] at z0 z1 y0 y1 g0 g1 hxe
     have Hxe := hid hxe
     clear hz hxe
     go_wp2
     refine bodyPost_ret (v := .agg #[.int .i64 2, .int .i64 (j : Int)]) ?_ rfl ?_
     ·simp [results, Tryz.results17, go_sem, y0, y1]
     exact ⟨_, _, rfl, HPI.out, Hxe.out⟩
    by_cases z4 : (j : Int) ≤ sf
    ·clear hnb
     have HPI : Hid (ProofIs P L 2 (j : Int)) := hid (.inr (.inr ⟨hll2, j, _, Hs.out, Hok.out, by rw [HE0.out]; decide, HE0.out.symm, rfl⟩))
     have hz := HBz.out.ext (Hxr.out.trans HxA.out)
     have y0 := (two (v0 := .int .i64 2) (v1 := .int .i64 (j : Int)) hz).av 0 rfl
     have y1 := (two (v0 := .int .i64 2) (v1 := .int .i64 (j : Int)) hz).av 1 rfl
     have z0 := hz.av 0 rfl
     have z1 := hz.av 1 rfl
     have g0 := hz.free 0
     have g1 := hz.free 1
     have hxe := Keep.new (HX.out.trans (Hxr.out.trans HxA.out)) (two_keep _ (w.heap.size + 1) (.int .i64 2) (.int .i64 (j : Int))) fun b e => by omega
     simp only [qA0, qA1, qA2] at z0 z1 y0 y1
     rw [HwA.out] at z0 z1 y0 y1 g0 g1 hxe
     have Hxe := hid hxe
     clear hz hxe
     go_wp2
     refine bodyPost_ret (v := .agg #[.int .i64 2, .int .i64 (j : Int)]) ?_ rfl ?_
     ·simp [results, Tryz.results17, go_sem, y0, y1]
     exact ⟨_, _, rfl, HPI.out, Hxe.out⟩
    by_cases z5 : sv < -1
    ·clear hnb
     have HPI : Hid (ProofIs P L 2 (j : Int)) := hid (.inr (.inr ⟨hll2, j, _, Hs.out, Hok.out, by rw [HE0.out]; decide, HE0.out.symm, rfl⟩))
     have hz := HBz.out.ext (Hxr.out.trans HxA.out)
     have y0 := (two (v0 := .int .i64 2) (v1 := .int .i64 (j : Int)) hz).av 0 rfl
     have y1 := (two (v0 := .int .i64 2) (v1 := .int .i64 (j : Int)) hz).av 1 rfl
     have z0 := hz.av 0 rfl
     have z1 := hz.av 1 rfl
     have g0 := hz.free 0
     have g1 := hz.free 1
     have hxe := Keep.new (HX.out.trans (Hxr.out.trans HxA.out)) (two_keep _ (w.heap.size + 1) (.int .i64 2) (.int .i64 (j : Int))) fun b e => by omega
     simp only [qA0, qA1, qA2] at z0 z1 y0 y1
     rw [HwA.out] at z0 z1 y0 y1 g0 g1 hxe
     have Hxe := hid hxe
     clear hz hxe
     go_wp2
     refine bodyPost_ret (v := .agg #[.int .i64 2, .int .i64 (j : Int)]) ?_ rfl ?_
     ·simp [results, Tryz.results17, go_sem, y0, y1]
     exact ⟨_, _, rfl, HPI.out, Hxe.out⟩
    have z6 : (j : Int) ≤ sv := by omega
    clear hnb
    have HPI : Hid (ProofIs P L 2 (j : Int)) := hid (.inr (.inr ⟨hll2, j, _, Hs.out, Hok.out, by rw [HE0.out]; decide, HE0.out.symm, rfl⟩))
    have hz := HBz.out.ext (Hxr.out.trans HxA.out)
    have y0 := (two (v0 := .int .i64 2) (v1 := .int .i64 (j : Int)) hz).av 0 rfl
    have y1 := (two (v0 := .int .i64 2) (v1 := .int .i64 (j : Int)) hz).av 1 rfl
    have z0 := hz.av 0 rfl
    have z1 := hz.av 1 rfl
    have g0 := hz.free 0
    have g1 := hz.free 1
    have hxe := Keep.new (HX.out.trans (Hxr.out.trans HxA.out)) (two_keep _ (w.heap.size + 1) (.int .i64 2) (.int .i64 (j : Int))) fun b e => by omega
    simp only [qA0, qA1, qA2] at z0 z1 y0 y1
    rw [HwA.out] at z0 z1 y0 y1 g0 g1 hxe
    have Hxe := hid hxe
    clear hz hxe
    go_wp2
    refine bodyPost_ret (v := .agg #[.int .i64 2, .int .i64 (j : Int)]) ?_ rfl ?_
    ·simp [results, Tryz.results17, go_sem, y0, y1]
    exact ⟨_, _, rfl, HPI.out, Hxe.out⟩
   | true =>
    obtain ⟨⟨hb1, hb2⟩, hb3, hb4⟩ := boundV_iff.1 hb
    simp only at hb1 hb2 hb3 hb4
    obtain ⟨k, rfl⟩ := Int.eq_ofNat_of_zero_le hb1
    have hkl : k < P.stmts.length := by omega
    have HEf := hid (fun hsh => rfollows_any a1 a2 a3 c1 c2 c3 P (.slice (some y8) L.length cl) L j ⟨sn, so, (k : Int), sf, sv⟩ k wA n0 (HP.out.ext ((HX.out.trans hxr).trans hxA)) Hw.out n1 (hrow.ext hxA) hll2 hs rfl hkl hb3 hb4 hsh)
    have HE0f : Hid (shapeV (P.ruleV k (P.stAt k)) ⟨sn, so, (k : Int), sf, sv⟩ = true → stepE P L j ⟨sn, so, (k : Int), sf, sv⟩ = bif !folB P (P.ruleV k (P.stAt k)) ⟨sn, so, (k : Int), sf, sv⟩ (L.getD sf.toNat st0) (L.getD sv.toNat st0) then 6 else 0) := hid fun hsh => by
     unfold stepE
     rw [hb]
     simp only [Int.toNat_natCast]
     rw [hsh]; rfl
    have HE0g : Hid (shapeV (P.ruleV k (P.stAt k)) ⟨sn, so, (k : Int), sf, sv⟩ = false → stepE P L j ⟨sn, so, (k : Int), sf, sv⟩ = 3) := hid fun hsh => by
     unfold stepE
     rw [hb]
     simp only [Int.toNat_natCast]
     rw [hsh]; rfl
    obtain ⟨yf, y, av, cv, hyf, hyk, k0, k1, k2, k3, _⟩ := (HP.out.ext ((HX.out.trans hxr).trans hxA)).stmts.at hkl
    have hyx : P.stAt k = y := Option.some.inj ((stAt_some hkl).symm.trans hyk)
    have hkc := kind_cases (Hw.out.2 k (P.stAt k) hkl (stAt_some hkl))
    have hnk := needs_kind Hw.out hkl
    unfold PS.isK at hnk hkc
    rw [← hyx] at k0
    subst hyf
    obtain ⟨kd, hkd0⟩ : ∃ kd, kd = (P.stAt k).kind := ⟨_, rfl⟩
    rw [← hkd0] at hnk hkc k0
    have HSh : Hid (shapeV (P.ruleV k (P.stAt k)) ⟨sn, so, (k : Int), sf, sv⟩ = (((!((kd.toList == kAddr) || (kd.toList == kNew) || (kd.toList == kFun))) == decide (0 ≤ sf)) && (((kd.toList == kLoad) || (kd.toList == kStore) || (kd.toList == kCall)) == decide (0 ≤ sv)))) := hid (by unfold shapeV; rw [hnk])
    rw [hwA] at k0
    have z1 : ¬ ((k : Int) < 0) := by omega
    have z2 : ¬ ((P.stmts.length : Int) ≤ (k : Int)) := by omega
    have z3 : ¬ (sf < -1) := by omega
    have z4 : ¬ ((j : Int) ≤ sf) := by omega
    have z5 : ¬ (sv < -1) := by omega
    have z6 : ¬ ((j : Int) ≤ sv) := by omega
    have z7 : ¬ (P.stmts.length ≤ k) := by omega
    clear hxr hrow hs hwA hxA k1 k2 k3 hyx hyk hkd0 hnk hb
    rcases hkc with hc | hc | hc | hc | hc | hc | hc
    ·have hkd : kd.toList = kAddr := eq_of_beq hc
     have t1 : (kd.toList == [97, 100, 100, 114]) = true := by rw [hkd]; decide
     have t2 : (kd.toList == [110, 101, 119]) = false := by rw [hkd]; decide
     have t3 : (kd.toList == [102, 117, 110]) = false := by rw [hkd]; decide
     have t4 : (kd.toList == [108, 111, 97, 100]) = false := by rw [hkd]; decide
     have t5 : (kd.toList == [115, 116, 111, 114, 101]) = false := by rw [hkd]; decide
     have t6 : (kd.toList == [99, 97, 108, 108]) = false := by rw [hkd]; decide
     have hsE : shapeV (P.ruleV k (P.stAt k)) ⟨sn, so, (k : Int), sf, sv⟩ = (((!true) == decide (0 ≤ sf)) && (false == decide (0 ≤ sv))) := by rw [HSh.out, hkd]; rfl
     clear hkd hc
     cases hsv : shapeV (P.ruleV k (P.stAt k)) ⟨sn, so, (k : Int), sf, sv⟩ with
     | true =>
      have u1 : decide (0 ≤ sf) = false := by cases hd : decide (0 ≤ sf) <;> rw [hd, hsv] at hsE <;> first | rfl | exact absurd hsE (by simp)
      have u2 : decide (0 ≤ sv) = false := by cases hd : decide (0 ≤ sv) <;> rw [hd, u1, hsv] at hsE <;> first | rfl | exact absurd hsE (by simp)
      have HE := hid (HEf.out hsv)
      have HE0 := hid (HE0f.out hsv)
      unfold pval at HE
      clear hsE hsv
      obtain ⟨bf, hbf⟩ : ∃ bf, bf = folB P (P.ruleV k (P.stAt k)) ⟨sn, so, (k : Int), sf, sv⟩ (L.getD sf.toNat st0) (L.getD sv.toNat st0) := ⟨_, rfl⟩
      simp only at HE HE0
      rw [← hbf] at HE HE0
      clear hbf
      go_wp2_with fail
      rw [← HwA.out]
      refine HE.out.mono ?_
      intro e w5 hx5
      obtain ⟨rfl, hx5⟩ := hx5
      have Hx5 := hid (Hxr.out.trans (HxA.out.trans hx5))
      clear HE hx5 q0 q1 q2 q3 q4 p0 p1 p2 k0
      cases bf with
      | true =>
       have Hok1 := hid (Hok.out.succ Hs.out HE0.out)
       go_wp2
       go_roundw
       case rel => exact ⟨j + 1, by go_num, by omega, Hok1.out, Hx5.out⟩
       case measure => simp [intOf]; omega
      | false =>
       have HPI : Hid (ProofIs P L 6 (j : Int)) := hid (.inr (.inr ⟨hll2, j, _, Hs.out, Hok.out, by rw [HE0.out]; decide, HE0.out.symm, rfl⟩))
       have hz := HBz.out.ext Hx5.out
       have y0 := (two (v0 := .int .i64 6) (v1 := .int .i64 (j : Int)) hz).av 0 rfl
       have y1 := (two (v0 := .int .i64 6) (v1 := .int .i64 (j : Int)) hz).av 1 rfl
       have z0 := hz.av 0 rfl
       have z1 := hz.av 1 rfl
       have g0 := hz.free 0
       have g1 := hz.free 1
       have hxe := Keep.new (HX.out.trans Hx5.out) (two_keep _ (w.heap.size + 1) (.int .i64 6) (.int .i64 (j : Int))) fun b e => by omega
       simp only [qA0, qA1, qA2] at z0 z1 y0 y1
       skip
       have Hxe := hid hxe
       clear hz hxe
       go_wp2
       refine bodyPost_ret (v := .agg #[.int .i64 6, .int .i64 (j : Int)]) ?_ rfl ?_
       ·simp [results, Tryz.results17, go_sem, y0, y1]
       exact ⟨_, _, rfl, HPI.out, Hxe.out⟩
     | false =>
      have HE0 := hid (HE0g.out hsv)
      have HPI : Hid (ProofIs P L 3 (j : Int)) := hid (.inr (.inr ⟨hll2, j, _, Hs.out, Hok.out, by rw [HE0.out]; decide, HE0.out.symm, rfl⟩))
      cases u1 : decide (0 ≤ sf) <;> cases u2 : decide (0 ≤ sv) <;> rw [hsv, u1, u2] at hsE <;>
      first
      | exact absurd hsE (by decide)
      |(clear hsE hsv
        have hz := HBz.out.ext (Hxr.out.trans HxA.out)
        have y0 := (two (v0 := .int .i64 3) (v1 := .int .i64 (j : Int)) hz).av 0 rfl
        have y1 := (two (v0 := .int .i64 3) (v1 := .int .i64 (j : Int)) hz).av 1 rfl
        have z0 := hz.av 0 rfl
        have z1 := hz.av 1 rfl
        have g0 := hz.free 0
        have g1 := hz.free 1
        have hxe := Keep.new (HX.out.trans (Hxr.out.trans HxA.out)) (two_keep _ (w.heap.size + 1) (.int .i64 3) (.int .i64 (j : Int))) fun b e => by omega
        simp only [qA0, qA1, qA2] at z0 z1 y0 y1
        rw [HwA.out] at z0 z1 y0 y1 g0 g1 hxe
        have Hxe := hid hxe
        clear hz hxe
        go_wp2
        refine bodyPost_ret (v := .agg #[.int .i64 3, .int .i64 (j : Int)]) ?_ rfl ?_
        ·simp [results, Tryz.results17, go_sem, y0, y1]
        exact ⟨_, _, rfl, HPI.out, Hxe.out⟩
       )
    ·have hkd : kd.toList = kCopy := eq_of_beq hc
     have t1 : (kd.toList == [97, 100, 100, 114]) = false := by rw [hkd]; decide
     have t2 : (kd.toList == [110, 101, 119]) = false := by rw [hkd]; decide
     have t3 : (kd.toList == [102, 117, 110]) = false := by rw [hkd]; decide
     have t4 : (kd.toList == [108, 111, 97, 100]) = false := by rw [hkd]; decide
     have t5 : (kd.toList == [115, 116, 111, 114, 101]) = false := by rw [hkd]; decide
     have t6 : (kd.toList == [99, 97, 108, 108]) = false := by rw [hkd]; decide
     have hsE : shapeV (P.ruleV k (P.stAt k)) ⟨sn, so, (k : Int), sf, sv⟩ = (((!false) == decide (0 ≤ sf)) && (false == decide (0 ≤ sv))) := by rw [HSh.out, hkd]; rfl
     clear hkd hc
     cases hsv : shapeV (P.ruleV k (P.stAt k)) ⟨sn, so, (k : Int), sf, sv⟩ with
     | true =>
      have u1 : decide (0 ≤ sf) = true := by cases hd : decide (0 ≤ sf) <;> rw [hd, hsv] at hsE <;> first | rfl | exact absurd hsE (by simp)
      have u2 : decide (0 ≤ sv) = false := by cases hd : decide (0 ≤ sv) <;> rw [hd, u1, hsv] at hsE <;> first | rfl | exact absurd hsE (by simp)
      have HE := hid (HEf.out hsv)
      have HE0 := hid (HE0f.out hsv)
      unfold pval at HE
      clear hsE hsv
      obtain ⟨bf, hbf⟩ : ∃ bf, bf = folB P (P.ruleV k (P.stAt k)) ⟨sn, so, (k : Int), sf, sv⟩ (L.getD sf.toNat st0) (L.getD sv.toNat st0) := ⟨_, rfl⟩
      simp only at HE HE0
      rw [← hbf] at HE HE0
      clear hbf
      go_wp2_with fail
      rw [← HwA.out]
      refine HE.out.mono ?_
      intro e w5 hx5
      obtain ⟨rfl, hx5⟩ := hx5
      have Hx5 := hid (Hxr.out.trans (HxA.out.trans hx5))
      clear HE hx5 q0 q1 q2 q3 q4 p0 p1 p2 k0
      cases bf with
      | true =>
       have Hok1 := hid (Hok.out.succ Hs.out HE0.out)
       go_wp2
       go_roundw
       case rel => exact ⟨j + 1, by go_num, by omega, Hok1.out, Hx5.out⟩
       case measure => simp [intOf]; omega
      | false =>
       have HPI : Hid (ProofIs P L 6 (j : Int)) := hid (.inr (.inr ⟨hll2, j, _, Hs.out, Hok.out, by rw [HE0.out]; decide, HE0.out.symm, rfl⟩))
       have hz := HBz.out.ext Hx5.out
       have y0 := (two (v0 := .int .i64 6) (v1 := .int .i64 (j : Int)) hz).av 0 rfl
       have y1 := (two (v0 := .int .i64 6) (v1 := .int .i64 (j : Int)) hz).av 1 rfl
       have z0 := hz.av 0 rfl
       have z1 := hz.av 1 rfl
       have g0 := hz.free 0
       have g1 := hz.free 1
       have hxe := Keep.new (HX.out.trans Hx5.out) (two_keep _ (w.heap.size + 1) (.int .i64 6) (.int .i64 (j : Int))) fun b e => by omega
       simp only [qA0, qA1, qA2] at z0 z1 y0 y1
       skip
       have Hxe := hid hxe
       clear hz hxe
       go_wp2
       refine bodyPost_ret (v := .agg #[.int .i64 6, .int .i64 (j : Int)]) ?_ rfl ?_
       ·simp [results, Tryz.results17, go_sem, y0, y1]
       exact ⟨_, _, rfl, HPI.out, Hxe.out⟩
     | false =>
      have HE0 := hid (HE0g.out hsv)
      have HPI : Hid (ProofIs P L 3 (j : Int)) := hid (.inr (.inr ⟨hll2, j, _, Hs.out, Hok.out, by rw [HE0.out]; decide, HE0.out.symm, rfl⟩))
      cases u1 : decide (0 ≤ sf) <;> cases u2 : decide (0 ≤ sv) <;> rw [hsv, u1, u2] at hsE <;>
      first
      | exact absurd hsE (by decide)
      |(clear hsE hsv
        have hz := HBz.out.ext (Hxr.out.trans HxA.out)
        have y0 := (two (v0 := .int .i64 3) (v1 := .int .i64 (j : Int)) hz).av 0 rfl
        have y1 := (two (v0 := .int .i64 3) (v1 := .int .i64 (j : Int)) hz).av 1 rfl
        have z0 := hz.av 0 rfl
        have z1 := hz.av 1 rfl
        have g0 := hz.free 0
        have g1 := hz.free 1
        have hxe := Keep.new (HX.out.trans (Hxr.out.trans HxA.out)) (two_keep _ (w.heap.size + 1) (.int .i64 3) (.int .i64 (j : Int))) fun b e => by omega
        simp only [qA0, qA1, qA2] at z0 z1 y0 y1
        rw [HwA.out] at z0 z1 y0 y1 g0 g1 hxe
        have Hxe := hid hxe
        clear hz hxe
        go_wp2
        refine bodyPost_ret (v := .agg #[.int .i64 3, .int .i64 (j : Int)]) ?_ rfl ?_
        ·simp [results, Tryz.results17, go_sem, y0, y1]
        exact ⟨_, _, rfl, HPI.out, Hxe.out⟩
       )
    ·have hkd : kd.toList = kLoad := eq_of_beq hc
     have t1 : (kd.toList == [97, 100, 100, 114]) = false := by rw [hkd]; decide
     have t2 : (kd.toList == [110, 101, 119]) = false := by rw [hkd]; decide
     have t3 : (kd.toList == [102, 117, 110]) = false := by rw [hkd]; decide
     have t4 : (kd.toList == [108, 111, 97, 100]) = true := by rw [hkd]; decide
     have t5 : (kd.toList == [115, 116, 111, 114, 101]) = false := by rw [hkd]; decide
     have t6 : (kd.toList == [99, 97, 108, 108]) = false := by rw [hkd]; decide
     have hsE : shapeV (P.ruleV k (P.stAt k)) ⟨sn, so, (k : Int), sf, sv⟩ = (((!false) == decide (0 ≤ sf)) && (true == decide (0 ≤ sv))) := by rw [HSh.out, hkd]; rfl
     clear hkd hc
     cases hsv : shapeV (P.ruleV k (P.stAt k)) ⟨sn, so, (k : Int), sf, sv⟩ with
     | true =>
      have u1 : decide (0 ≤ sf) = true := by cases hd : decide (0 ≤ sf) <;> rw [hd, hsv] at hsE <;> first | rfl | exact absurd hsE (by simp)
      have u2 : decide (0 ≤ sv) = true := by cases hd : decide (0 ≤ sv) <;> rw [hd, u1, hsv] at hsE <;> first | rfl | exact absurd hsE (by simp)
      have HE := hid (HEf.out hsv)
      have HE0 := hid (HE0f.out hsv)
      unfold pval at HE
      clear hsE hsv
      obtain ⟨bf, hbf⟩ : ∃ bf, bf = folB P (P.ruleV k (P.stAt k)) ⟨sn, so, (k : Int), sf, sv⟩ (L.getD sf.toNat st0) (L.getD sv.toNat st0) := ⟨_, rfl⟩
      simp only at HE HE0
      rw [← hbf] at HE HE0
      clear hbf
      go_wp2_with fail
      rw [← HwA.out]
      refine HE.out.mono ?_
      intro e w5 hx5
      obtain ⟨rfl, hx5⟩ := hx5
      have Hx5 := hid (Hxr.out.trans (HxA.out.trans hx5))
      clear HE hx5 q0 q1 q2 q3 q4 p0 p1 p2 k0
      cases bf with
      | true =>
       have Hok1 := hid (Hok.out.succ Hs.out HE0.out)
       go_wp2
       go_roundw
       case rel => exact ⟨j + 1, by go_num, by omega, Hok1.out, Hx5.out⟩
       case measure => simp [intOf]; omega
      | false =>
       have HPI : Hid (ProofIs P L 6 (j : Int)) := hid (.inr (.inr ⟨hll2, j, _, Hs.out, Hok.out, by rw [HE0.out]; decide, HE0.out.symm, rfl⟩))
       have hz := HBz.out.ext Hx5.out
       have y0 := (two (v0 := .int .i64 6) (v1 := .int .i64 (j : Int)) hz).av 0 rfl
       have y1 := (two (v0 := .int .i64 6) (v1 := .int .i64 (j : Int)) hz).av 1 rfl
       have z0 := hz.av 0 rfl
       have z1 := hz.av 1 rfl
       have g0 := hz.free 0
       have g1 := hz.free 1
       have hxe := Keep.new (HX.out.trans Hx5.out) (two_keep _ (w.heap.size + 1) (.int .i64 6) (.int .i64 (j : Int))) fun b e => by omega
       simp only [qA0, qA1, qA2] at z0 z1 y0 y1
       skip
       have Hxe := hid hxe
       clear hz hxe
       go_wp2
       refine bodyPost_ret (v := .agg #[.int .i64 6, .int .i64 (j : Int)]) ?_ rfl ?_
       ·simp [results, Tryz.results17, go_sem, y0, y1]
       exact ⟨_, _, rfl, HPI.out, Hxe.out⟩
     | false =>
      have HE0 := hid (HE0g.out hsv)
      have HPI : Hid (ProofIs P L 3 (j : Int)) := hid (.inr (.inr ⟨hll2, j, _, Hs.out, Hok.out, by rw [HE0.out]; decide, HE0.out.symm, rfl⟩))
      cases u1 : decide (0 ≤ sf) <;> cases u2 : decide (0 ≤ sv) <;> rw [hsv, u1, u2] at hsE <;>
      first
      | exact absurd hsE (by decide)
      |(clear hsE hsv
        have hz := HBz.out.ext (Hxr.out.trans HxA.out)
        have y0 := (two (v0 := .int .i64 3) (v1 := .int .i64 (j : Int)) hz).av 0 rfl
        have y1 := (two (v0 := .int .i64 3) (v1 := .int .i64 (j : Int)) hz).av 1 rfl
        have z0 := hz.av 0 rfl
        have z1 := hz.av 1 rfl
        have g0 := hz.free 0
        have g1 := hz.free 1
        have hxe := Keep.new (HX.out.trans (Hxr.out.trans HxA.out)) (two_keep _ (w.heap.size + 1) (.int .i64 3) (.int .i64 (j : Int))) fun b e => by omega
        simp only [qA0, qA1, qA2] at z0 z1 y0 y1
        rw [HwA.out] at z0 z1 y0 y1 g0 g1 hxe
        have Hxe := hid hxe
        clear hz hxe
        go_wp2
        refine bodyPost_ret (v := .agg #[.int .i64 3, .int .i64 (j : Int)]) ?_ rfl ?_
        ·simp [results, Tryz.results17, go_sem, y0, y1]
        exact ⟨_, _, rfl, HPI.out, Hxe.out⟩
       )
    ·have hkd : kd.toList = kStore := eq_of_beq hc
     have t1 : (kd.toList == [97, 100, 100, 114]) = false := by rw [hkd]; decide
     have t2 : (kd.toList == [110, 101, 119]) = false := by rw [hkd]; decide
     have t3 : (kd.toList == [102, 117, 110]) = false := by rw [hkd]; decide
     have t4 : (kd.toList == [108, 111, 97, 100]) = false := by rw [hkd]; decide
     have t5 : (kd.toList == [115, 116, 111, 114, 101]) = true := by rw [hkd]; decide
     have t6 : (kd.toList == [99, 97, 108, 108]) = false := by rw [hkd]; decide
     have hsE : shapeV (P.ruleV k (P.stAt k)) ⟨sn, so, (k : Int), sf, sv⟩ = (((!false) == decide (0 ≤ sf)) && (true == decide (0 ≤ sv))) := by rw [HSh.out, hkd]; rfl
     clear hkd hc
     cases hsv : shapeV (P.ruleV k (P.stAt k)) ⟨sn, so, (k : Int), sf, sv⟩ with
     | true =>
      have u1 : decide (0 ≤ sf) = true := by cases hd : decide (0 ≤ sf) <;> rw [hd, hsv] at hsE <;> first | rfl | exact absurd hsE (by simp)
      have u2 : decide (0 ≤ sv) = true := by cases hd : decide (0 ≤ sv) <;> rw [hd, u1, hsv] at hsE <;> first | rfl | exact absurd hsE (by simp)
      have HE := hid (HEf.out hsv)
      have HE0 := hid (HE0f.out hsv)
      unfold pval at HE
      clear hsE hsv
      obtain ⟨bf, hbf⟩ : ∃ bf, bf = folB P (P.ruleV k (P.stAt k)) ⟨sn, so, (k : Int), sf, sv⟩ (L.getD sf.toNat st0) (L.getD sv.toNat st0) := ⟨_, rfl⟩
      simp only at HE HE0
      rw [← hbf] at HE HE0
      clear hbf
      go_wp2_with fail
      rw [← HwA.out]
      refine HE.out.mono ?_
      intro e w5 hx5
      obtain ⟨rfl, hx5⟩ := hx5
      have Hx5 := hid (Hxr.out.trans (HxA.out.trans hx5))
      clear HE hx5 q0 q1 q2 q3 q4 p0 p1 p2 k0
      cases bf with
      | true =>
       have Hok1 := hid (Hok.out.succ Hs.out HE0.out)
       go_wp2
       go_roundw
       case rel => exact ⟨j + 1, by go_num, by omega, Hok1.out, Hx5.out⟩
       case measure => simp [intOf]; omega
      | false =>
       have HPI : Hid (ProofIs P L 6 (j : Int)) := hid (.inr (.inr ⟨hll2, j, _, Hs.out, Hok.out, by rw [HE0.out]; decide, HE0.out.symm, rfl⟩))
       have hz := HBz.out.ext Hx5.out
       have y0 := (two (v0 := .int .i64 6) (v1 := .int .i64 (j : Int)) hz).av 0 rfl
       have y1 := (two (v0 := .int .i64 6) (v1 := .int .i64 (j : Int)) hz).av 1 rfl
       have z0 := hz.av 0 rfl
       have z1 := hz.av 1 rfl
       have g0 := hz.free 0
       have g1 := hz.free 1
       have hxe := Keep.new (HX.out.trans Hx5.out) (two_keep _ (w.heap.size + 1) (.int .i64 6) (.int .i64 (j : Int))) fun b e => by omega
       simp only [qA0, qA1, qA2] at z0 z1 y0 y1
       skip
       have Hxe := hid hxe
       clear hz hxe
       go_wp2
       refine bodyPost_ret (v := .agg #[.int .i64 6, .int .i64 (j : Int)]) ?_ rfl ?_
       ·simp [results, Tryz.results17, go_sem, y0, y1]
       exact ⟨_, _, rfl, HPI.out, Hxe.out⟩
     | false =>
      have HE0 := hid (HE0g.out hsv)
      have HPI : Hid (ProofIs P L 3 (j : Int)) := hid (.inr (.inr ⟨hll2, j, _, Hs.out, Hok.out, by rw [HE0.out]; decide, HE0.out.symm, rfl⟩))
      cases u1 : decide (0 ≤ sf) <;> cases u2 : decide (0 ≤ sv) <;> rw [hsv, u1, u2] at hsE <;>
      first
      | exact absurd hsE (by decide)
      |(clear hsE hsv
        have hz := HBz.out.ext (Hxr.out.trans HxA.out)
        have y0 := (two (v0 := .int .i64 3) (v1 := .int .i64 (j : Int)) hz).av 0 rfl
        have y1 := (two (v0 := .int .i64 3) (v1 := .int .i64 (j : Int)) hz).av 1 rfl
        have z0 := hz.av 0 rfl
        have z1 := hz.av 1 rfl
        have g0 := hz.free 0
        have g1 := hz.free 1
        have hxe := Keep.new (HX.out.trans (Hxr.out.trans HxA.out)) (two_keep _ (w.heap.size + 1) (.int .i64 3) (.int .i64 (j : Int))) fun b e => by omega
        simp only [qA0, qA1, qA2] at z0 z1 y0 y1
        rw [HwA.out] at z0 z1 y0 y1 g0 g1 hxe
        have Hxe := hid hxe
        clear hz hxe
        go_wp2
        refine bodyPost_ret (v := .agg #[.int .i64 3, .int .i64 (j : Int)]) ?_ rfl ?_
        ·simp [results, Tryz.results17, go_sem, y0, y1]
        exact ⟨_, _, rfl, HPI.out, Hxe.out⟩
       )
    ·have hkd : kd.toList = kNew := eq_of_beq hc
     have t1 : (kd.toList == [97, 100, 100, 114]) = false := by rw [hkd]; decide
     have t2 : (kd.toList == [110, 101, 119]) = true := by rw [hkd]; decide
     have t3 : (kd.toList == [102, 117, 110]) = false := by rw [hkd]; decide
     have t4 : (kd.toList == [108, 111, 97, 100]) = false := by rw [hkd]; decide
     have t5 : (kd.toList == [115, 116, 111, 114, 101]) = false := by rw [hkd]; decide
     have t6 : (kd.toList == [99, 97, 108, 108]) = false := by rw [hkd]; decide
     have hsE : shapeV (P.ruleV k (P.stAt k)) ⟨sn, so, (k : Int), sf, sv⟩ = (((!true) == decide (0 ≤ sf)) && (false == decide (0 ≤ sv))) := by rw [HSh.out, hkd]; rfl
     clear hkd hc
     cases hsv : shapeV (P.ruleV k (P.stAt k)) ⟨sn, so, (k : Int), sf, sv⟩ with
     | true =>
      have u1 : decide (0 ≤ sf) = false := by cases hd : decide (0 ≤ sf) <;> rw [hd, hsv] at hsE <;> first | rfl | exact absurd hsE (by simp)
      have u2 : decide (0 ≤ sv) = false := by cases hd : decide (0 ≤ sv) <;> rw [hd, u1, hsv] at hsE <;> first | rfl | exact absurd hsE (by simp)
      have HE := hid (HEf.out hsv)
      have HE0 := hid (HE0f.out hsv)
      unfold pval at HE
      clear hsE hsv
      obtain ⟨bf, hbf⟩ : ∃ bf, bf = folB P (P.ruleV k (P.stAt k)) ⟨sn, so, (k : Int), sf, sv⟩ (L.getD sf.toNat st0) (L.getD sv.toNat st0) := ⟨_, rfl⟩
      simp only at HE HE0
      rw [← hbf] at HE HE0
      clear hbf
      go_wp2_with fail
      rw [← HwA.out]
      refine HE.out.mono ?_
      intro e w5 hx5
      obtain ⟨rfl, hx5⟩ := hx5
      have Hx5 := hid (Hxr.out.trans (HxA.out.trans hx5))
      clear HE hx5 q0 q1 q2 q3 q4 p0 p1 p2 k0
      cases bf with
      | true =>
       have Hok1 := hid (Hok.out.succ Hs.out HE0.out)
       go_wp2
       go_roundw
       case rel => exact ⟨j + 1, by go_num, by omega, Hok1.out, Hx5.out⟩
       case measure => simp [intOf]; omega
      | false =>
       have HPI : Hid (ProofIs P L 6 (j : Int)) := hid (.inr (.inr ⟨hll2, j, _, Hs.out, Hok.out, by rw [HE0.out]; decide, HE0.out.symm, rfl⟩))
       have hz := HBz.out.ext Hx5.out
       have y0 := (two (v0 := .int .i64 6) (v1 := .int .i64 (j : Int)) hz).av 0 rfl
       have y1 := (two (v0 := .int .i64 6) (v1 := .int .i64 (j : Int)) hz).av 1 rfl
       have z0 := hz.av 0 rfl
       have z1 := hz.av 1 rfl
       have g0 := hz.free 0
       have g1 := hz.free 1
       have hxe := Keep.new (HX.out.trans Hx5.out) (two_keep _ (w.heap.size + 1) (.int .i64 6) (.int .i64 (j : Int))) fun b e => by omega
       simp only [qA0, qA1, qA2] at z0 z1 y0 y1
       skip
       have Hxe := hid hxe
       clear hz hxe
       go_wp2
       refine bodyPost_ret (v := .agg #[.int .i64 6, .int .i64 (j : Int)]) ?_ rfl ?_
       ·simp [results, Tryz.results17, go_sem, y0, y1]
       exact ⟨_, _, rfl, HPI.out, Hxe.out⟩
     | false =>
      have HE0 := hid (HE0g.out hsv)
      have HPI : Hid (ProofIs P L 3 (j : Int)) := hid (.inr (.inr ⟨hll2, j, _, Hs.out, Hok.out, by rw [HE0.out]; decide, HE0.out.symm, rfl⟩))
      cases u1 : decide (0 ≤ sf) <;> cases u2 : decide (0 ≤ sv) <;> rw [hsv, u1, u2] at hsE <;>
      first
      | exact absurd hsE (by decide)
      |(clear hsE hsv
        have hz := HBz.out.ext (Hxr.out.trans HxA.out)
        have y0 := (two (v0 := .int .i64 3) (v1 := .int .i64 (j : Int)) hz).av 0 rfl
        have y1 := (two (v0 := .int .i64 3) (v1 := .int .i64 (j : Int)) hz).av 1 rfl
        have z0 := hz.av 0 rfl
        have z1 := hz.av 1 rfl
        have g0 := hz.free 0
        have g1 := hz.free 1
        have hxe := Keep.new (HX.out.trans (Hxr.out.trans HxA.out)) (two_keep _ (w.heap.size + 1) (.int .i64 3) (.int .i64 (j : Int))) fun b e => by omega
        simp only [qA0, qA1, qA2] at z0 z1 y0 y1
        rw [HwA.out] at z0 z1 y0 y1 g0 g1 hxe
        have Hxe := hid hxe
        clear hz hxe
        go_wp2
        refine bodyPost_ret (v := .agg #[.int .i64 3, .int .i64 (j : Int)]) ?_ rfl ?_
        ·simp [results, Tryz.results17, go_sem, y0, y1]
        exact ⟨_, _, rfl, HPI.out, Hxe.out⟩
       )
    ·have hkd : kd.toList = kFun := eq_of_beq hc
     have t1 : (kd.toList == [97, 100, 100, 114]) = false := by rw [hkd]; decide
     have t2 : (kd.toList == [110, 101, 119]) = false := by rw [hkd]; decide
     have t3 : (kd.toList == [102, 117, 110]) = true := by rw [hkd]; decide
     have t4 : (kd.toList == [108, 111, 97, 100]) = false := by rw [hkd]; decide
     have t5 : (kd.toList == [115, 116, 111, 114, 101]) = false := by rw [hkd]; decide
     have t6 : (kd.toList == [99, 97, 108, 108]) = false := by rw [hkd]; decide
     have hsE : shapeV (P.ruleV k (P.stAt k)) ⟨sn, so, (k : Int), sf, sv⟩ = (((!true) == decide (0 ≤ sf)) && (false == decide (0 ≤ sv))) := by rw [HSh.out, hkd]; rfl
     clear hkd hc
     cases hsv : shapeV (P.ruleV k (P.stAt k)) ⟨sn, so, (k : Int), sf, sv⟩ with
     | true =>
      have u1 : decide (0 ≤ sf) = false := by cases hd : decide (0 ≤ sf) <;> rw [hd, hsv] at hsE <;> first | rfl | exact absurd hsE (by simp)
      have u2 : decide (0 ≤ sv) = false := by cases hd : decide (0 ≤ sv) <;> rw [hd, u1, hsv] at hsE <;> first | rfl | exact absurd hsE (by simp)
      have HE := hid (HEf.out hsv)
      have HE0 := hid (HE0f.out hsv)
      unfold pval at HE
      clear hsE hsv
      obtain ⟨bf, hbf⟩ : ∃ bf, bf = folB P (P.ruleV k (P.stAt k)) ⟨sn, so, (k : Int), sf, sv⟩ (L.getD sf.toNat st0) (L.getD sv.toNat st0) := ⟨_, rfl⟩
      simp only at HE HE0
      rw [← hbf] at HE HE0
      clear hbf
      go_wp2_with fail
      rw [← HwA.out]
      refine HE.out.mono ?_
      intro e w5 hx5
      obtain ⟨rfl, hx5⟩ := hx5
      have Hx5 := hid (Hxr.out.trans (HxA.out.trans hx5))
      clear HE hx5 q0 q1 q2 q3 q4 p0 p1 p2 k0
      cases bf with
      | true =>
       have Hok1 := hid (Hok.out.succ Hs.out HE0.out)
       go_wp2
       go_roundw
       case rel => exact ⟨j + 1, by go_num, by omega, Hok1.out, Hx5.out⟩
       case measure => simp [intOf]; omega
      | false =>
       have HPI : Hid (ProofIs P L 6 (j : Int)) := hid (.inr (.inr ⟨hll2, j, _, Hs.out, Hok.out, by rw [HE0.out]; decide, HE0.out.symm, rfl⟩))
       have hz := HBz.out.ext Hx5.out
       have y0 := (two (v0 := .int .i64 6) (v1 := .int .i64 (j : Int)) hz).av 0 rfl
       have y1 := (two (v0 := .int .i64 6) (v1 := .int .i64 (j : Int)) hz).av 1 rfl
       have z0 := hz.av 0 rfl
       have z1 := hz.av 1 rfl
       have g0 := hz.free 0
       have g1 := hz.free 1
       have hxe := Keep.new (HX.out.trans Hx5.out) (two_keep _ (w.heap.size + 1) (.int .i64 6) (.int .i64 (j : Int))) fun b e => by omega
       simp only [qA0, qA1, qA2] at z0 z1 y0 y1
       skip
       have Hxe := hid hxe
       clear hz hxe
       go_wp2
       refine bodyPost_ret (v := .agg #[.int .i64 6, .int .i64 (j : Int)]) ?_ rfl ?_
       ·simp [results, Tryz.results17, go_sem, y0, y1]
       exact ⟨_, _, rfl, HPI.out, Hxe.out⟩
     | false =>
      have HE0 := hid (HE0g.out hsv)
      have HPI : Hid (ProofIs P L 3 (j : Int)) := hid (.inr (.inr ⟨hll2, j, _, Hs.out, Hok.out, by rw [HE0.out]; decide, HE0.out.symm, rfl⟩))
      cases u1 : decide (0 ≤ sf) <;> cases u2 : decide (0 ≤ sv) <;> rw [hsv, u1, u2] at hsE <;>
      first
      | exact absurd hsE (by decide)
      |(clear hsE hsv
        have hz := HBz.out.ext (Hxr.out.trans HxA.out)
        have y0 := (two (v0 := .int .i64 3) (v1 := .int .i64 (j : Int)) hz).av 0 rfl
        have y1 := (two (v0 := .int .i64 3) (v1 := .int .i64 (j : Int)) hz).av 1 rfl
        have z0 := hz.av 0 rfl
        have z1 := hz.av 1 rfl
        have g0 := hz.free 0
        have g1 := hz.free 1
        have hxe := Keep.new (HX.out.trans (Hxr.out.trans HxA.out)) (two_keep _ (w.heap.size + 1) (.int .i64 3) (.int .i64 (j : Int))) fun b e => by omega
        simp only [qA0, qA1, qA2] at z0 z1 y0 y1
        rw [HwA.out] at z0 z1 y0 y1 g0 g1 hxe
        have Hxe := hid hxe
        clear hz hxe
        go_wp2
        refine bodyPost_ret (v := .agg #[.int .i64 3, .int .i64 (j : Int)]) ?_ rfl ?_
        ·simp [results, Tryz.results17, go_sem, y0, y1]
        exact ⟨_, _, rfl, HPI.out, Hxe.out⟩
       )
    ·have hkd : kd.toList = kCall := eq_of_beq hc
     have t1 : (kd.toList == [97, 100, 100, 114]) = false := by rw [hkd]; decide
     have t2 : (kd.toList == [110, 101, 119]) = false := by rw [hkd]; decide
     have t3 : (kd.toList == [102, 117, 110]) = false := by rw [hkd]; decide
     have t4 : (kd.toList == [108, 111, 97, 100]) = false := by rw [hkd]; decide
     have t5 : (kd.toList == [115, 116, 111, 114, 101]) = false := by rw [hkd]; decide
     have t6 : (kd.toList == [99, 97, 108, 108]) = true := by rw [hkd]; decide
     have hsE : shapeV (P.ruleV k (P.stAt k)) ⟨sn, so, (k : Int), sf, sv⟩ = (((!false) == decide (0 ≤ sf)) && (true == decide (0 ≤ sv))) := by rw [HSh.out, hkd]; rfl
     clear hkd hc
     cases hsv : shapeV (P.ruleV k (P.stAt k)) ⟨sn, so, (k : Int), sf, sv⟩ with
     | true =>
      have u1 : decide (0 ≤ sf) = true := by cases hd : decide (0 ≤ sf) <;> rw [hd, hsv] at hsE <;> first | rfl | exact absurd hsE (by simp)
      have u2 : decide (0 ≤ sv) = true := by cases hd : decide (0 ≤ sv) <;> rw [hd, u1, hsv] at hsE <;> first | rfl | exact absurd hsE (by simp)
      have HE := hid (HEf.out hsv)
      have HE0 := hid (HE0f.out hsv)
      unfold pval at HE
      clear hsE hsv
      obtain ⟨bf, hbf⟩ : ∃ bf, bf = folB P (P.ruleV k (P.stAt k)) ⟨sn, so, (k : Int), sf, sv⟩ (L.getD sf.toNat st0) (L.getD sv.toNat st0) := ⟨_, rfl⟩
      simp only at HE HE0
      rw [← hbf] at HE HE0
      clear hbf
      go_wp2_with fail
      rw [← HwA.out]
      refine HE.out.mono ?_
      intro e w5 hx5
      obtain ⟨rfl, hx5⟩ := hx5
      have Hx5 := hid (Hxr.out.trans (HxA.out.trans hx5))
      clear HE hx5 q0 q1 q2 q3 q4 p0 p1 p2 k0
      cases bf with
      | true =>
       have Hok1 := hid (Hok.out.succ Hs.out HE0.out)
       go_wp2
       go_roundw
       case rel => exact ⟨j + 1, by go_num, by omega, Hok1.out, Hx5.out⟩
       case measure => simp [intOf]; omega
      | false =>
       have HPI : Hid (ProofIs P L 6 (j : Int)) := hid (.inr (.inr ⟨hll2, j, _, Hs.out, Hok.out, by rw [HE0.out]; decide, HE0.out.symm, rfl⟩))
       have hz := HBz.out.ext Hx5.out
       have y0 := (two (v0 := .int .i64 6) (v1 := .int .i64 (j : Int)) hz).av 0 rfl
       have y1 := (two (v0 := .int .i64 6) (v1 := .int .i64 (j : Int)) hz).av 1 rfl
       have z0 := hz.av 0 rfl
       have z1 := hz.av 1 rfl
       have g0 := hz.free 0
       have g1 := hz.free 1
       have hxe := Keep.new (HX.out.trans Hx5.out) (two_keep _ (w.heap.size + 1) (.int .i64 6) (.int .i64 (j : Int))) fun b e => by omega
       simp only [qA0, qA1, qA2] at z0 z1 y0 y1
       skip
       have Hxe := hid hxe
       clear hz hxe
       go_wp2
       refine bodyPost_ret (v := .agg #[.int .i64 6, .int .i64 (j : Int)]) ?_ rfl ?_
       ·simp [results, Tryz.results17, go_sem, y0, y1]
       exact ⟨_, _, rfl, HPI.out, Hxe.out⟩
     | false =>
      have HE0 := hid (HE0g.out hsv)
      have HPI : Hid (ProofIs P L 3 (j : Int)) := hid (.inr (.inr ⟨hll2, j, _, Hs.out, Hok.out, by rw [HE0.out]; decide, HE0.out.symm, rfl⟩))
      cases u1 : decide (0 ≤ sf) <;> cases u2 : decide (0 ≤ sv) <;> rw [hsv, u1, u2] at hsE <;>
      first
      | exact absurd hsE (by decide)
      |(clear hsE hsv
        have hz := HBz.out.ext (Hxr.out.trans HxA.out)
        have y0 := (two (v0 := .int .i64 3) (v1 := .int .i64 (j : Int)) hz).av 0 rfl
        have y1 := (two (v0 := .int .i64 3) (v1 := .int .i64 (j : Int)) hz).av 1 rfl
        have z0 := hz.av 0 rfl
        have z1 := hz.av 1 rfl
        have g0 := hz.free 0
        have g1 := hz.free 1
        have hxe := Keep.new (HX.out.trans (Hxr.out.trans HxA.out)) (two_keep _ (w.heap.size + 1) (.int .i64 3) (.int .i64 (j : Int))) fun b e => by omega
        simp only [qA0, qA1, qA2] at z0 z1 y0 y1
        rw [HwA.out] at z0 z1 y0 y1 g0 g1 hxe
        have Hxe := hid hxe
        clear hz hxe
        go_wp2
        refine bodyPost_ret (v := .agg #[.int .i64 3, .int .i64 (j : Int)]) ?_ rfl ?_
        ·simp [results, Tryz.results17, go_sem, y0, y1]
        exact ⟨_, _, rfl, HPI.out, Hxe.out⟩
       )
  ·obtain rfl : j = L.length := by omega
   have HFi := hid (rfine_any wr)
   have HPI : Hid (ProofIs P L 0 (-1)) := hid (.inr (.inl ⟨hll2, Hok.out, rfl, rfl⟩))
   clear hxr
   go_wp2_with fail
   refine HFi.out.mono ?_
   intro e w5 hx5
   obtain ⟨rfl, hx5⟩ := hx5
   have Hx5 := hid (Hxr.out.trans hx5)
   clear HFi hx5
   have hz := HBz.out.ext Hx5.out
   have y0 := (two (v0 := .int .i64 0) (v1 := .int .i64 (-1)) hz).av 0 rfl
   have y1 := (two (v0 := .int .i64 0) (v1 := .int .i64 (-1)) hz).av 1 rfl
   have z0 := hz.av 0 rfl
   have z1 := hz.av 1 rfl
   have g0 := hz.free 0
   have g1 := hz.free 1
   have hxe := Keep.new (HX.out.trans Hx5.out) (two_keep _ (w.heap.size + 1) (.int .i64 0) (.int .i64 (-1))) fun b e => by omega
   simp only [qA0, qA1, qA2] at z0 z1 y0 y1
   skip
   have Hxe := hid hxe
   clear hz hxe
   go_wp2
   refine bodyPost_ret (v := .agg #[.int .i64 0, .int .i64 (-1)]) ?_ rfl ?_
   ·simp [results, Tryz.results17, go_sem, y0, y1]
   exact ⟨_, _, rfl, HPI.out, Hxe.out⟩
end Go.Proofs.YtngdpnlgnpdkcaaGreatDoor
