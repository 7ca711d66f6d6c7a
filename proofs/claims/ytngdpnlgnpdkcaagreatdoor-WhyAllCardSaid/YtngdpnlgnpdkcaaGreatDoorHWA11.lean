/- WhyAll: whatever the program and the number, the law returns true, and its arguments read as they did: as the given card of that statement says it, with no further condition. -/
import Derived.Test.YtngdpnlgnpdkcaaGreatDoorHWA02
import Derived.Test.YtngdpnlgnpdkcaaGreatDoorHWA03
import Derived.Test.YtngdpnlgnpdkcaaGreatDoorHWA04
import Derived.Test.YtngdpnlgnpdkcaaGreatDoorHWA05
import Derived.Test.YtngdpnlgnpdkcaaGreatDoorHWA07
import Derived.Test.YtngdpnlgnpdkcaaGreatDoorHWA09
import Derived.Test.YtngdpnlgnpdkcaaGreatDoorHWA10
import Derived.LaidHandle
import Derived.Test.YtngdpnlgnpdkcaaGreatDoorCards
import Derived.Test.YtngdpnlgnpdkcaaGreatDoorTie
import Derived.ProofKit
import Derived.LaidMore
import Derived.OpenShut
import Derived.Below
import Derived.Stop.Joined
import Derived.SevenTiedAt
import Derived.Lib.SmallJoins
import Derived.Lay
import Derived.MakeChecks
import Derived.Lib.LaidIn

/- FixClosed: the law walked. -/
namespace Go.Proofs.YtngdpnlgnpdkcaaGreatDoor
set_option linter.unusedSimpArgs false
set_option linter.unusedVariables false
open Go Go.RowKit

end Go.Proofs.YtngdpnlgnpdkcaaGreatDoor



/- SolveFix: the law walked. -/
namespace Go.Proofs.YtngdpnlgnpdkcaaGreatDoor
set_option linter.unusedSimpArgs false
set_option linter.unusedVariables false
open Go Go.RowKit

/-- How many objects the first nodes have. -/
def sumUp (S : List (List Int)) (k : Nat) : Nat := ((List.range k).map fun n : Nat => (S.getD n []).length).sum
end Go.Proofs.YtngdpnlgnpdkcaaGreatDoor



/- WhyFinds: the law walked. -/
namespace Go.Proofs.YtngdpnlgnpdkcaaGreatDoor
set_option linter.unusedSimpArgs false
set_option linter.unusedVariables false
open Go Go.RowKit

end Go.Proofs.YtngdpnlgnpdkcaaGreatDoor



/- WhyFinds: the law walked, where what is asked is so. -/
namespace Go.Proofs.YtngdpnlgnpdkcaaGreatDoor
set_option linter.unusedSimpArgs false
set_option linter.unusedVariables false
open Go Go.RowKit

end Go.Proofs.YtngdpnlgnpdkcaaGreatDoor



/- WhyAll: the law walked. -/
namespace Go.Proofs.YtngdpnlgnpdkcaaGreatDoor
set_option linter.unusedSimpArgs false
set_option linter.unusedVariables false
open Go Go.RowKit

theorem sethas_ext (v : Value) (l : List Int) (s : Int) (w : World) (n0 : Nat) (h : IntsR w n0 v l) : Calls Tryz.prog 25 #[v, .int .i64 s] w fun e w' => e = .returned (.bool (decide (s ∈ l))) ∧ Ext w w' :=
  (sethas_any v l s w n0 h).mono fun e w' ⟨h1, h2⟩ => ⟨h1, by rw [h2]; exact Ext.refl _⟩
set_option maxRecDepth 100000 in
set_option maxHeartbeats 6400000 in
theorem whyalllaw_no (a1 a2 a3 : Option Addr) (c1 c2 c3 : Nat) (P : PP) (node : Int) (w : World) (ad : Nat → Addr) (hE : ErrsP w ad) (hA : AllErrs w ad) (hS : ErrS w ad) (hP : ProgR w w.heap.size (.slice a1 P.vars.length c1) (.slice a2 P.funs.length c2) (.slice a3 P.stmts.length c3) P) (hw : ¬ P.Well) :
    Calls Tryz.prog 5 #[pval a1 a2 a3 c1 c2 c3 P, .int .i64 node] w fun e w' => e = .returned (.bool true) ∧ Ext w w' := by
  have Hw := hid hw
  clear hw
  have HE := hid hE
  have HS := hid hS
  have HAA := hid hA
  have HP := hid hP
  obtain ⟨W1, hW1⟩ : ∃ W1, W1 = w.alloc (.cells (pcells a1 a2 a3 c1 c2 c3 P) 26) := ⟨_, rfl⟩
  have HX1 : Hid (Ext w W1) := hid (by rw [hW1]; exact (Ext.refl _).alloc _)
  have HB1 : Hid (Blk W1 w.heap.size (pcells a1 a2 a3 c1 c2 c3 P) 26) := hid (by rw [hW1]; exact Blk.new _ _ _)
  have HR := hid (because_any W1 ad (hE.ext HX1.out) (hA.ext HX1.out))
  have HW1 : Hid (W1 = w.alloc (.cells #[.slice a1 P.vars.length c1, .slice a2 P.funs.length c2, .slice a3 P.stmts.length c3] 26)) := hid (by rw [hW1]; rfl)
  unfold pval
  clear hE hS hA hP hW1
  go_enter Tryz.func5, Tryz.ntmps5
  go_wp2_with fail
  rw [← HW1.out]
  refine HR.out.mono ?_
  intro e w1 hx
  obtain ⟨rfl, hx1⟩ := hx
  have HL := hid (large_q a1 a2 a3 c1 c2 c3 14 (by omega) P w1 w.heap.size (HP.out.ext (HX1.out.trans hx1)))
  rw [show ((14 : Nat) : Int) = (14 : Int) from rfl] at HL
  unfold pval at HL
  have HX1' := hid (HX1.out.trans hx1)
  have HBp1 := hid (HB1.out.ext hx1)
  have p0 := HBp1.out.av 0 rfl
  have p1 := HBp1.out.av 1 rfl
  have p2 := HBp1.out.av 2 rfl
  simp only [pcells, List.getElem_toArray, List.getElem_cons_zero, List.getElem_cons_succ] at p0 p1 p2
  clear HR hx1
  go_wp2_with fail
  refine HL.out.mono ?_
  intro e w2 hx
  obtain ⟨r, rfl, hr, hsm, hx2⟩ := hx
  have HX2 := hid (HX1'.out.trans hx2)
  have HBp := hid (HBp1.out.ext hx2)
  clear HL hx2 p0 p1 p2
  rcases (by omega : r = 1 ∨ r = 0) with rfl | rfl
  · clear hsm hr
    go_wp2
    go_ret
    exact ⟨rfl, HX2.out⟩
  have HSm := hid (hsm rfl).1
  have HQl := hid (hsm rfl).2.1
  have HVl := hid (hsm rfl).2.2
  clear hsm hr
  have hz1 : ∀ s ∈ P.vars, s.size ≤ 1000000 := fun s hs => by have := HSm.out.vs s hs; omega
  have hz2 : ∀ s ∈ P.names, s.size ≤ 1000000 := fun s hs => by
    obtain ⟨f, hf, rfl⟩ := List.mem_map.1 hs
    have := (HSm.out.fs f hf).1
    omega
  have Hz1 := hid hz1
  have Hz2 := hid hz2
  have HPS := hid (show PS0 w2 w2.heap.size ad a1 a2 a3 c1 c2 c3 P from ⟨HE.out.ext HX2.out, (HP.out.ext HX2.out).lift HX2.out.size, Hz1.out, Hz2.out⟩)
  clear hz1 hz2
  have HQ := hid (ownprogram_any a1 a2 a3 c1 c2 c3 P w2 HPS.out.prog HSm.out)
  have p0 := HBp.out.av 0 rfl
  have p1 := HBp.out.av 1 rfl
  have p2 := HBp.out.av 2 rfl
  simp only [pcells, List.getElem_toArray, List.getElem_cons_zero, List.getElem_cons_succ] at p0 p1 p2
  unfold pval at HQ
  go_wp2_with fail
  refine HQ.out.mono ?_
  intro e w3 hx
  obtain ⟨hx3, b1, b2, b3, d1, d2, d3, rfl, hq⟩ := hx
  have HX3 := hid (HX2.out.trans hx3)
  have Hx3 := hid hx3
  have HPQ := hid (show PS0 w3 w3.heap.size ad b1 b2 b3 d1 d2 d3 P from ⟨HE.out.ext HX3.out, hq, Hz1.out, Hz2.out⟩)
  have HS3 := hid (HS.out.ext HX3.out)
  clear HQ hx3 hq p0 p1 p2
  obtain ⟨W9, hW9⟩ : ∃ W9, W9 = w3.alloc (.cells (pcells b1 b2 b3 d1 d2 d3 P) 26) := ⟨_, rfl⟩
  have hx9 : Ext w3 W9 := by rw [hW9]; exact (Ext.refl _).alloc _
  have HX9 : Hid (Ext w W9) := hid (HX3.out.trans hx9)
  have Hx29 : Hid (Ext w2 W9) := hid (Hx3.out.trans hx9)
  have HB9 : Hid (Blk W9 w3.heap.size (pcells b1 b2 b3 d1 d2 d3 P) 26) := hid (by rw [hW9]; exact Blk.new _ _ _)
  have HW9 : Hid (W9 = w3.alloc (.cells #[.slice b1 P.vars.length d1, .slice b2 P.funs.length d2, .slice b3 P.stmts.length d3] 26)) := hid (by rw [hW9]; rfl)
  have HQ9 := hid (HPQ.out.on (Nat.le_refl _) hx9)
  have HS9 := hid (HS3.out.ext hx9)
  have HA9 := hid (HAA.out.ext HX9.out)
  clear hW9 hx9
  have HL := hid (fixleast_no b1 b2 b3 d1 d2 d3 P W9 W9.heap.size ad HQ9.out Hw.out)
  have g0 := (HB9.out.ext (Ext.refl _)).av 0 rfl
  have g1 := (HB9.out.ext (Ext.refl _)).av 1 rfl
  have g2 := (HB9.out.ext (Ext.refl _)).av 2 rfl
  simp only [pcells, List.getElem_toArray, List.getElem_cons_zero, List.getElem_cons_succ] at g0 g1 g2
  rw [HW9.out] at g0 g1 g2
  unfold pval at HL
  go_wp2_with fail
  rw [← HW9.out]
  refine HL.out.mono ?_
  intro e w4 hx
  obtain ⟨t, x, rfl, _, hx4⟩ := hx
  have HX4 := hid (HX9.out.trans hx4)
  clear HL hx4 g0 g1 g2
  go_wp2
  go_ret
  exact ⟨rfl, HX4.out⟩
set_option maxRecDepth 100000 in
set_option maxHeartbeats 12800000 in
theorem whyalllaw_yes (a1 a2 a3 : Option Addr) (c1 c2 c3 : Nat) (P : PP) (node : Int) (w : World) (ad : Nat → Addr) (hE : ErrsP w ad) (hA : AllErrs w ad) (hS : ErrS w ad) (hP : ProgR w w.heap.size (.slice a1 P.vars.length c1) (.slice a2 P.funs.length c2) (.slice a3 P.stmts.length c3) P) (hw : P.Well) (hnw : (Lit.int .i64 node).wf = true) :
    Calls Tryz.prog 5 #[pval a1 a2 a3 c1 c2 c3 P, .int .i64 node] w fun e w' => e = .returned (.bool true) ∧ Ext w w' := by
  have Hw := hid hw
  clear hw
  have HE := hid hE
  have HS := hid hS
  have HAA := hid hA
  have HP := hid hP
  obtain ⟨W1, hW1⟩ : ∃ W1, W1 = w.alloc (.cells (pcells a1 a2 a3 c1 c2 c3 P) 26) := ⟨_, rfl⟩
  have HX1 : Hid (Ext w W1) := hid (by rw [hW1]; exact (Ext.refl _).alloc _)
  have HB1 : Hid (Blk W1 w.heap.size (pcells a1 a2 a3 c1 c2 c3 P) 26) := hid (by rw [hW1]; exact Blk.new _ _ _)
  have HR := hid (because_any W1 ad (hE.ext HX1.out) (hA.ext HX1.out))
  have HW1 : Hid (W1 = w.alloc (.cells #[.slice a1 P.vars.length c1, .slice a2 P.funs.length c2, .slice a3 P.stmts.length c3] 26)) := hid (by rw [hW1]; rfl)
  unfold pval
  clear hE hS hA hP hW1
  go_enter Tryz.func5, Tryz.ntmps5
  go_wp2_with fail
  rw [← HW1.out]
  refine HR.out.mono ?_
  intro e w1 hx
  obtain ⟨rfl, hx1⟩ := hx
  have HL := hid (large_q a1 a2 a3 c1 c2 c3 14 (by omega) P w1 w.heap.size (HP.out.ext (HX1.out.trans hx1)))
  rw [show ((14 : Nat) : Int) = (14 : Int) from rfl] at HL
  unfold pval at HL
  have HX1' := hid (HX1.out.trans hx1)
  have HBp1 := hid (HB1.out.ext hx1)
  have p0 := HBp1.out.av 0 rfl
  have p1 := HBp1.out.av 1 rfl
  have p2 := HBp1.out.av 2 rfl
  simp only [pcells, List.getElem_toArray, List.getElem_cons_zero, List.getElem_cons_succ] at p0 p1 p2
  clear HR hx1
  go_wp2_with fail
  refine HL.out.mono ?_
  intro e w2 hx
  obtain ⟨r, rfl, hr, hsm, hx2⟩ := hx
  have HX2 := hid (HX1'.out.trans hx2)
  have HBp := hid (HBp1.out.ext hx2)
  clear HL hx2 p0 p1 p2
  rcases (by omega : r = 1 ∨ r = 0) with rfl | rfl
  · clear hsm hr
    go_wp2
    go_ret
    exact ⟨rfl, HX2.out⟩
  have HSm := hid (hsm rfl).1
  have HQl := hid (hsm rfl).2.1
  have HVl := hid (hsm rfl).2.2
  clear hsm hr
  have hz1 : ∀ s ∈ P.vars, s.size ≤ 1000000 := fun s hs => by have := HSm.out.vs s hs; omega
  have hz2 : ∀ s ∈ P.names, s.size ≤ 1000000 := fun s hs => by
    obtain ⟨f, hf, rfl⟩ := List.mem_map.1 hs
    have := (HSm.out.fs f hf).1
    omega
  have Hz1 := hid hz1
  have Hz2 := hid hz2
  have HPS := hid (show PS0 w2 w2.heap.size ad a1 a2 a3 c1 c2 c3 P from ⟨HE.out.ext HX2.out, (HP.out.ext HX2.out).lift HX2.out.size, Hz1.out, Hz2.out⟩)
  clear hz1 hz2
  have HQ := hid (ownprogram_any a1 a2 a3 c1 c2 c3 P w2 HPS.out.prog HSm.out)
  have p0 := HBp.out.av 0 rfl
  have p1 := HBp.out.av 1 rfl
  have p2 := HBp.out.av 2 rfl
  simp only [pcells, List.getElem_toArray, List.getElem_cons_zero, List.getElem_cons_succ] at p0 p1 p2
  unfold pval at HQ
  go_wp2_with fail
  refine HQ.out.mono ?_
  intro e w3 hx
  obtain ⟨hx3, b1, b2, b3, d1, d2, d3, rfl, hq⟩ := hx
  have HX3 := hid (HX2.out.trans hx3)
  have Hx3 := hid hx3
  have HPQ := hid (show PS0 w3 w3.heap.size ad b1 b2 b3 d1 d2 d3 P from ⟨HE.out.ext HX3.out, hq, Hz1.out, Hz2.out⟩)
  have HS3 := hid (HS.out.ext HX3.out)
  clear HQ hx3 hq p0 p1 p2
  obtain ⟨W9, hW9⟩ : ∃ W9, W9 = w3.alloc (.cells (pcells b1 b2 b3 d1 d2 d3 P) 26) := ⟨_, rfl⟩
  have hx9 : Ext w3 W9 := by rw [hW9]; exact (Ext.refl _).alloc _
  have HX9 : Hid (Ext w W9) := hid (HX3.out.trans hx9)
  have Hx29 : Hid (Ext w2 W9) := hid (Hx3.out.trans hx9)
  have HB9 : Hid (Blk W9 w3.heap.size (pcells b1 b2 b3 d1 d2 d3 P) 26) := hid (by rw [hW9]; exact Blk.new _ _ _)
  have HW9 : Hid (W9 = w3.alloc (.cells #[.slice b1 P.vars.length d1, .slice b2 P.funs.length d2, .slice b3 P.stmts.length d3] 26)) := hid (by rw [hW9]; rfl)
  have HQ9 := hid (HPQ.out.on (Nat.le_refl _) hx9)
  have HS9 := hid (HS3.out.ext hx9)
  have HA9 := hid (HAA.out.ext HX9.out)
  clear hW9 hx9
  obtain ⟨n, S, hL⟩ := least_exists Hw.out
  have HLe := hid hL
  have HG := hid (hL.good Hw.out)
  have HCl := hid (hL.closed Hw.out)
  have HSl := hid HG.out.2.1
  have hn12 := hL.few Hw.out
  have hS126 : S.length ≤ 126 := by
    have h1 := Hw.out.few
    have h2 := nodesV_le P Hw.out
    have := HSl.out
    omega
  clear hL
  have HL := hid (fixleast_ok b1 b2 b3 d1 d2 d3 P W9 ad (HQ9.out.pw Hw.out) HS9.out n S HLe.out)
  rw [← HSl.out] at HL
  have g0 := (HB9.out.ext (Ext.refl _)).av 0 rfl
  have g1 := (HB9.out.ext (Ext.refl _)).av 1 rfl
  have g2 := (HB9.out.ext (Ext.refl _)).av 2 rfl
  simp only [pcells, List.getElem_toArray, List.getElem_cons_zero, List.getElem_cons_succ] at g0 g1 g2
  rw [HW9.out] at g0 g1 g2
  unfold pval at HL
  go_wp2_with fail
  rw [← HW9.out]
  refine HL.out.mono ?_
  intro e w5 hx
  obtain ⟨ah, ch, rfl, hs5, hx5⟩ := hx
  have Hs5 := hid hs5
  have Hx5 := hid hx5
  have HX5 := hid (HX9.out.trans hx5)
  have hhl := hs5.len
  clear HL hs5 hx5 g0 g1 g2
  by_cases hn0 : node < 0
  · go_wp2
    go_ret
    exact ⟨rfl, HX5.out⟩
  by_cases hn1 : (S.length : Int) ≤ node
  · go_wp2
    go_ret
    exact ⟨rfl, HX5.out⟩
  obtain ⟨N, rfl⟩ := Int.eq_ofNat_of_zero_le (show 0 ≤ node by omega)
  have hN : N < S.length := by omega
  have HM := hid (progobjects_any b1 b2 b3 d1 d2 d3 P w5 w5.heap.size ad ((HQ9.out.on (Nat.le_refl _) Hx5.out).pw Hw.out))
  obtain ⟨M, hM⟩ : ∃ M, M = P.objectsV := ⟨_, rfl⟩
  have hM126 : M ≤ 126 := by rw [hM]; exact Hw.out.nodes.2
  rw [← hM] at HM
  have HMe := hid hM
  unfold pval at HM
  have g0 := (HB9.out.ext Hx5.out).av 0 rfl
  have g1 := (HB9.out.ext Hx5.out).av 1 rfl
  have g2 := (HB9.out.ext Hx5.out).av 2 rfl
  simp only [pcells, List.getElem_toArray, List.getElem_cons_zero, List.getElem_cons_succ] at g0 g1 g2
  clear hM hn0 hn1
  go_wp2_with fail
  refine HM.out.mono ?_
  intro e w6 hx
  obtain ⟨rfl, hx6⟩ := hx
  have Hx56 := hid hx6
  have Hx6 := hid (Hx5.out.trans hx6)
  clear HM hx6 g0 g1 g2
  go_wp2
  go_loopw [11] (fun t11 wr => ∃ o : Nat, t11 = .int .i64 (o : Int) ∧ o ≤ M ∧ Ext w6 wr) (fun t11 _ => M - (intOf t11).toNat)
  case atStart => exact ⟨0, rfl, Nat.zero_le _, Ext.refl _⟩
  case round =>
    obtain ⟨o, rfl, ho, hx⟩ := hrel
    have Hx := hid hx
    clear hx
    by_cases hlt : o < M
    · obtain ⟨y, l, bl, cl, hy, hl, hc, hI⟩ := (Hs5.out.ext (Hx56.out.trans Hx.out)).at hN
      subst hy
      have hll := hI.len
      have hgl : S.getD N [] = l := by rw [List.getD_eq_getElem?_getD, hl]; rfl
      have hFi := whyfind_any b1 b2 b3 d1 d2 d3 P S (N : Int) (o : Int) wr ad ((HQ9.out.on (Nat.le_refl _) (Hx6.out.trans Hx.out)).pw Hw.out) ((HA9.out.ext (Hx6.out.trans Hx.out)).at6) HG.out HCl.out hnw (wf_small (by omega))
      have HFi := hid hFi
      unfold pval at HFi
      have Hc := hid hc
      have HI := hid hI
      have Hgl := hid hgl
      have g0 := (HB9.out.ext (Hx6.out.trans Hx.out)).av 0 rfl
      have g1 := (HB9.out.ext (Hx6.out.trans Hx.out)).av 1 rfl
      have g2 := (HB9.out.ext (Hx6.out.trans Hx.out)).av 2 rfl
      simp only [pcells, List.getElem_toArray, List.getElem_cons_zero, List.getElem_cons_succ] at g0 g1 g2
      clear hFi hl hc hI hgl
      obtain ⟨wO, hwO⟩ : ∃ x, x = wr := ⟨_, rfl⟩
      subst hwO
      go_wp2_with fail
      refine HFi.out.mono ?_
      intro e w7 hx
      obtain ⟨hf, hx7⟩ := hx
      have Hx7 := hid (Hx.out.trans hx7)
      have Hy7 := hid hx7
      have HH := fun w1 (z : Ext w7 w1) => hid (sethas_ext (.slice bl l.length cl) l (o : Int) w1 w5.heap.size (HI.out.old ((Hy7.out.trans z).old _)))
      have j0 : ∀ w1, Keep (fun _ => False) w7 w1 → w1.cell? (y.add N) = some (.slice bl l.length cl) := fun w1 k => (Hy7.out.trans k.ext).cellx Hc.out
      clear HFi g0 g1 g2
      by_cases hin : (o : Int) ∈ l
      · have hl20 : P.vars.length ≤ 15 ∧ P.stmts.length ≤ 20 := by
          have h1 := HVl.out
          have h2 := HQl.out
          have h3 := Hw.out.few
          omega
        obtain ⟨L, Lm, sl, v, hLm, hsf, hok, rfl, hrow⟩ := hf.yes HLe.out Hw.out ⟨⟨by omega, by rw [← HSl.out]; omega⟩, by rw [Int.toNat_natCast, Hgl.out]; exact hin⟩
        have hl2 : L.length ≤ 2000 := hok.few3 HG.out hl20.1 hl20.2
        have hlp : 0 < L.length := by rw [hLm, List.length_append]; simp
        have Hst := hid (hok.steps Hw.out)
        have Hok := hid hok
        obtain ⟨g8, c8, rfl⟩ := own_some hrow hlp
        have Hrow := hid hrow
        have hd : decide ((o : Int) ∈ l) = true := decide_eq_true hin
        have hl0 : ((L.length : Int) == 0) = false := beq_eq_false_iff_ne.2 (by omega)
        rw [hd] at HH
        clear hf hx7 hok hrow hLm hsf hin hd hl20
        go_wp2
        refine wp_flowT (fun _ => False) (by kernel_rfl) (by kernel_rfl) ?_
        repeat (apply FlowT.d; (intro w1 hk; unfold does; go_simp; (try go_ints); (first | exact DetR.mk | (simp only [↓IntWalk.iteOmega, Oper.doesUpon_value]; exact DetR.mk) | (simp only [↓IntWalk.iteOmega]; go_simp; (try go_ints); exact DetR.mk))); simp only [Act.put, List.setIfInBounds_toArray, List.set_cons_zero, List.set_cons_succ])
        apply FlowT.d
        · intro w1 hk
          unfold does
          go_simp
          exact CallR.det ((HH w1 hk.ext).out)
        simp only [Act.put, List.setIfInBounds_toArray, List.set_cons_zero, List.set_cons_succ]
        repeat (apply FlowT.d; (intro w1 hk; unfold does; go_simp; (try go_ints); (first | exact DetR.mk | (simp only [↓IntWalk.iteOmega, Oper.doesUpon_value]; exact DetR.mk) | (simp only [↓IntWalk.iteOmega]; go_simp; (try go_ints); exact DetR.mk))); simp only [Act.put, List.setIfInBounds_toArray, List.set_cons_zero, List.set_cons_succ])
        refine FlowT.fin fun wA hxA hkA => ?_
        have HxA := hid (Hx7.out.trans hxA)
        have HyA := hid hxA
        have HCk := hid (whycheck_any b1 b2 b3 d1 d2 d3 P S (.slice (some ⟨g8, 0, none⟩) L.length c8) L wA wA.heap.size ad ((HQ9.out.on (Nat.le_refl _) (Hx6.out.trans HxA.out)).pw Hw.out) (HA9.out.ext (Hx6.out.trans HxA.out)) HG.out HCl.out (StepsR.own (own_ext Hrow.out hxA) (Nat.le_refl _)) (by omega) (Nat.le_refl _))
        unfold pval at HCk
        have g0 := (HB9.out.ext (Hx6.out.trans HxA.out)).av 0 rfl
        have g1 := (HB9.out.ext (Hx6.out.trans HxA.out)).av 1 rfl
        have g2 := (HB9.out.ext (Hx6.out.trans HxA.out)).av 2 rfl
        simp only [pcells, List.getElem_toArray, List.getElem_cons_zero, List.getElem_cons_succ] at g0 g1 g2
        clear hxA hkA HH j0
        go_wp2_with fail
        refine HCk.out.mono ?_
        intro e wB hx
        obtain ⟨v, rfl, hpe, hxB⟩ := hx
        obtain rfl := hpe.ok hl2 Hst.out
        have HxB := hid (HxA.out.trans hxB)
        have HyB := hid (HyA.out.trans hxB)
        clear HCk hpe hxB g0 g1 g2
        go_wp2
        clear hl0
        go_loopw [14] (fun t14 wr => ∃ j : Nat, t14 = .int .i64 (j : Int) ∧ j ≤ L.length ∧ Ext wB wr) (fun t14 _ => L.length - (intOf t14).toNat)
        case atStart => exact ⟨0, rfl, Nat.zero_le _, Ext.refl _⟩
        case round =>
          obtain ⟨j, rfl, hj, hx⟩ := hrel
          have Hxj := hid hx
          clear hx
          by_cases hjl : j < L.length
          · obtain ⟨s, hs⟩ : ∃ s, L[j]? = some s := ⟨_, List.getElem?_eq_getElem hjl⟩
            obtain ⟨q0, q1, q2, q3, q4⟩ := own_st (own_ext Hrow.out (HyB.out.trans Hxj.out)) hs
            have hsn := Hok.out.snd s (List.mem_of_getElem? hs)
            obtain ⟨sn, so, ss, sf, sv⟩ := s
            simp only at hsn q0 q1 q2 q3 q4
            obtain ⟨K, rfl⟩ := Int.eq_ofNat_of_zero_le hsn.1.1
            have hK : K < S.length := by have := hsn.1.2; have := HSl.out; omega
            obtain ⟨y2, l2, bl2, cl2, hy2, hl2', hc2, hI2⟩ := (Hs5.out.ext (Hx56.out.trans (HxB.out.trans Hxj.out))).at hK
            obtain rfl := Option.some.inj hy2
            have hd : decide (so ∈ l2) = true := decide_eq_true (by
              have := hsn.2
              rw [Int.toNat_natCast, List.getD_eq_getElem?_getD, hl2'] at this
              exact this)
            have HHj := fun w1 (z : Ext wr w1) => hid (sethas_ext (.slice bl2 l2.length cl2) l2 so w1 w5.heap.size (hI2.old (z.old _)))
            rw [hd] at HHj
            have k0 : ∀ w1, Keep (fun _ => False) wr w1 → w1.cell? (y.add K) = some (.slice bl2 l2.length cl2) := fun w1 k => k.ext.cellx hc2
            have k1 : ∀ w1, Keep (fun _ => False) wr w1 → w1.cell? ⟨g8, j * 5, none⟩ = some (.int .i64 (K : Int)) := fun w1 k => k.ext.cellx q0
            have k2 : ∀ w1, Keep (fun _ => False) wr w1 → w1.cell? ⟨g8, j * 5 + 1, none⟩ = some (.int .i64 so) := fun w1 k => k.ext.cellx q1
            clear hs q0 q1 q2 q3 q4 hsn hl2' hc2 hI2 hd
            go_wp2
            refine wp_flowT (fun _ => False) (by kernel_rfl) (by kernel_rfl) ?_
            repeat (apply FlowT.d; (intro w1 hk; unfold does; go_simp; (try go_ints); (first | exact DetR.mk | (simp only [↓IntWalk.iteOmega, Oper.doesUpon_value]; exact DetR.mk) | (simp only [↓IntWalk.iteOmega]; go_simp; (try go_ints); exact DetR.mk))); simp only [Act.put, List.setIfInBounds_toArray, List.set_cons_zero, List.set_cons_succ])
            apply FlowT.d
            · intro w1 hk
              unfold does
              go_simp
              exact CallR.det ((HHj w1 hk.ext).out)
            simp only [Act.put, List.setIfInBounds_toArray, List.set_cons_zero, List.set_cons_succ]
            repeat (apply FlowT.d; (intro w1 hk; unfold does; go_simp; (try go_ints); (first | exact DetR.mk | (simp only [↓IntWalk.iteOmega, Oper.doesUpon_value]; exact DetR.mk) | (simp only [↓IntWalk.iteOmega]; go_simp; (try go_ints); exact DetR.mk))); simp only [Act.put, List.setIfInBounds_toArray, List.set_cons_zero, List.set_cons_succ])
            refine FlowT.fin fun wz hxz hkz => ?_
            have Hxz := hid (Hxj.out.trans hxz)
            clear hxz hkz k0 k1 k2 HHj
            go_wp2
            go_roundw
            case rel => exact ⟨j + 1, by go_num, by omega, Hxz.out⟩
            case measure => simp [intOf]; omega
          · obtain rfl : j = L.length := by omega
            go_wp2
            go_roundw
            case rel => exact ⟨o + 1, by go_num, by omega, HxB.out.trans Hxj.out⟩
            case measure => simp [intOf]; omega
      · obtain rfl := hf.no (fun h => hin (by have := h.2; rw [Int.toNat_natCast, Hgl.out] at this; exact this))
        have hd : decide ((o : Int) ∈ l) = false := decide_eq_false hin
        rw [hd] at HH
        clear hf hx7 hin hd
        go_wp2
        refine wp_flowT (fun _ => False) (by kernel_rfl) (by kernel_rfl) ?_
        repeat (apply FlowT.d; (intro w1 hk; unfold does; go_simp; (try go_ints); (first | exact DetR.mk | (simp only [↓IntWalk.iteOmega, Oper.doesUpon_value]; exact DetR.mk) | (simp only [↓IntWalk.iteOmega]; go_simp; (try go_ints); exact DetR.mk))); simp only [Act.put, List.setIfInBounds_toArray, List.set_cons_zero, List.set_cons_succ])
        apply FlowT.d
        · intro w1 hk
          unfold does
          go_simp
          exact CallR.det ((HH w1 hk.ext).out)
        simp only [Act.put, List.setIfInBounds_toArray, List.set_cons_zero, List.set_cons_succ]
        repeat (apply FlowT.d; (intro w1 hk; unfold does; go_simp; (try go_ints); (first | exact DetR.mk | (simp only [↓IntWalk.iteOmega, Oper.doesUpon_value]; exact DetR.mk) | (simp only [↓IntWalk.iteOmega]; go_simp; (try go_ints); exact DetR.mk))); simp only [Act.put, List.setIfInBounds_toArray, List.set_cons_zero, List.set_cons_succ])
        refine FlowT.fin fun wA hxA hkA => ?_
        have HxA := hid (Hx7.out.trans hxA)
        clear hxA hkA HH j0
        go_wp2
        go_roundw
        case rel => exact ⟨o + 1, by go_num, by omega, HxA.out⟩
        case measure => simp [intOf]; omega
    · obtain rfl : o = M := by omega
      have HXz := hid (HX9.out.trans (Hx6.out.trans Hx.out))
      go_wp2
      go_ret
      exact ⟨rfl, HXz.out⟩
theorem whyalllaw_any (a1 a2 a3 : Option Addr) (c1 c2 c3 : Nat) (P : PP) (node : Int) (w : World) (ad : Nat → Addr) (hE : ErrsP w ad) (hA : AllErrs w ad) (hS : ErrS w ad) (hP : ProgR w w.heap.size (.slice a1 P.vars.length c1) (.slice a2 P.funs.length c2) (.slice a3 P.stmts.length c3) P) (hnw : (Lit.int .i64 node).wf = true) :
    Calls Tryz.prog 5 #[pval a1 a2 a3 c1 c2 c3 P, .int .i64 node] w fun e w' => e = .returned (.bool true) ∧ Ext w w' := by
  by_cases hw : P.Well
  · exact whyalllaw_yes a1 a2 a3 c1 c2 c3 P node w ad hE hA hS hP hw hnw
  · exact whyalllaw_no a1 a2 a3 c1 c2 c3 P node w ad hE hA hS hP hw
end Go.Proofs.YtngdpnlgnpdkcaaGreatDoor



/- All errors, and the type of errors, as a row of this seat lists them. -/
namespace Go.Proofs.YtngdpnlgnpdkcaaGreatDoor
set_option linter.unusedSimpArgs false
set_option linter.unusedVariables false
open Go Go.RowKit

def handD : DataW Unit := .iface "internal/reflectlite.rtype" (.agg [.ptr (.lit (.string [101, 114, 114, 111, 114]))])
theorem handName : handD.handleName? = some [101, 114, 114, 111, 114] := by
  unfold handD DataW.handleName?
  simp
def allCodes : List Nat := [1, 2, 3, 4, 5, 6, 7, 8, 9, 10, 11]
def fullL : List (String × DataW Unit) := ("errors.errorType", handD) :: sentL allCodes
theorem typesSize : Tryz.prog.types.size = 306 := by kernel_rfl
theorem oneErrRow : ((List.range 306).filter fun t => Tryz.prog.rowNamed t [101, 114, 114, 111, 114]) = [31] := by kernel_rfl
theorem rtypeCut : (Tryz.prog.cutTypes.find? (·.1 == "internal/reflectlite.rtype")).map (·.2) = some 214 := by kernel_rfl
theorem errTypeVar : Tryz.prog.globalNamed "errors.errorType" = some 11 := by kernel_rfl
theorem errHandle : typeHandle Tryz.prog 31 = .pointer (some ⟨15, 31, none⟩) := by kernel_rfl

theorem all_of {W : World} (h : laidMetH Tryz.prog fullL W) : ∃ ad : Nat → Addr, AllErrs W ad := by
  obtain ⟨h1, h2⟩ := laidMetH_iff.1 h
  have e1 : (fullL.filter fun x => x.2.handleName?.isNone) = sentL allCodes := by
    unfold fullL
    rw [List.filter_cons_of_neg (by simp [handName]), List.filter_eq_self.2 fun x hx => by
      obtain ⟨c, _, rfl⟩ := List.mem_map.1 hx
      simp [sent_noHandle]]
  rw [e1] at h1
  obtain ⟨ad, s1, s2⟩ := sents_ad allCodes (by decide) h1
  have hin : ∀ c, 1 ≤ c ∧ c ≤ 11 → c ∈ allCodes := fun c hc => by
    rcases (by omega : c = 1 ∨ c = 2 ∨ c = 3 ∨ c = 4 ∨ c = 5 ∨ c = 6 ∨ c = 7 ∨ c = 8 ∨ c = 9 ∨ c = 10 ∨ c = 11) with rfl | rfl | rfl | rfl | rfl | rfl | rfl | rfl | rfl | rfl | rfl <;> decide
  refine ⟨ad, fun c hc => (s1 c (hin c hc)).var, fun c hc => (s1 c (hin c hc)).row, fun c d hc hd e => s2 c (hin c hc) d (hin d hd) e, ?_⟩
  have hm : ("errors.errorType", handD) ∈ fullL.filter fun x => x.2.handleName?.isSome := List.mem_filter.2 ⟨by simp [fullL], by simp [handName]⟩
  have h3 := h2 _ hm
  have hf : handD.funcsIn? = none := by
    unfold handD DataW.funcsIn?
    simp
  simp only [hf] at h3
  obtain ⟨name, u, ty, g1, g2, g3, g4, g5⟩ := h3
  obtain rfl := Option.some.inj (handName.symm.trans g1)
  obtain rfl := Option.some.inj (rtypeCut.symm.trans g2)
  have hm2 : ty ∈ (List.range 306).filter fun t => Tryz.prog.rowNamed t [101, 114, 114, 111, 114] := List.mem_filter.2 ⟨List.mem_range.2 (by rw [← typesSize]; exact g3), g4⟩
  rw [oneErrRow, List.mem_singleton] at hm2
  subst hm2
  rw [errHandle] at g5
  simpa using World.var?_cell errTypeVar g5 0
end Go.Proofs.YtngdpnlgnpdkcaaGreatDoor


/- WhyAll: whatever the program and the number, the law returns true, and its arguments read as they did: as the given card of that statement says it, with no further condition. -/
namespace Go.Proofs.YtngdpnlgnpdkcaaGreatDoor.whyAll
set_option linter.unusedSimpArgs false
set_option linter.unusedVariables false
open Go Go.ChangeShapes Go.WideShapes Go.ChangeAt Go.WideMaps Go.WideElems Go.RowKit Go.Joins Go.Deep

theorem errs_of {W : World} {ad : Nat → Addr} (h : AllErrs W ad) : ErrsP W ad :=
  ⟨h.var 2 (by decide), h.var 3 (by decide), h.var 4 (by decide), h.var 5 (by decide), h.var 7 (by decide), h.var 8 (by decide), h.var 9 (by decide),
    fun e => by have := h.inj 5 7 (by decide) (by decide) e; omega, h.row 5 (by decide), h.row 7 (by decide)⟩
theorem sets_of {W : World} {ad : Nat → Addr} (h : AllErrs W ad) : ErrS W ad := ⟨h.var 2 (by decide), h.var 10 (by decide)⟩
theorem laid_eq : (Rows.whyAllRow.laid.filter fun x => !(x.1 == "unicode/utf8.acceptRanges") && !(x.1 == "unicode/utf8.first")) = fullL := by kernel_rfl
noncomputable def wit (os : Os) : World := (World.doorLaid Tryz.prog 235 os).layVars Tryz.prog [("unicode/utf8.first", Rows.laid_unicode_utf8_first)]
def rest : List (String × DataW Unit) := (Rows.whyAllRow.laid.filter fun x => x.2.handleName?.isNone).filter fun x => !["unicode/utf8.first"].contains x.1
noncomputable def others (os : Os) : List Nat := (List.range (World.doorLaid Tryz.prog 235 os).heap.size).filter fun b => b != 12
theorem first_eq : ((Rows.whyAllRow.laid.filter fun x => x.2.handleName?.isNone).filter fun x => ["unicode/utf8.first"].contains x.1) = [("unicode/utf8.first", Rows.laid_unicode_utf8_first)] := by kernel_rfl
theorem door_met (os : Os) (args : Array Value) : laidMetH Tryz.prog Rows.whyAllRow.laid ((wit os).forCall (fun _ _ => 0) ⟨#[], args, []⟩).memory := by
  refine laidMetH_of_parts3 (fuel := 8) ?_ (by kernel_rfl) (by kernel_rfl)
  have h : laidMet Tryz.prog (Rows.whyAllRow.laid.filter fun x => x.2.handleName?.isNone) (wit os) :=
    laidMet_layVars (w0 := World.doorLaid Tryz.prog 235 os) ["unicode/utf8.first"] (others os) (by rw [first_eq]; rfl) (by rw [first_eq]; kernel_rfl) (by rw [first_eq]; kernel_rfl) (LaidIn.of_run (others os) 8 (by kernel_rfl) (by kernel_rfl) (by kernel_rfl) (by kernel_rfl))
  exact h.of_heap (by simp [World.memory, World.forCall, Input.heap])
theorem own : ownKnob Tryz.prog.godebug = none := by kernel_rfl
theorem laidOut : laidOutB Tryz.prog = true := by kernel_rfl
set_option maxRecDepth 100000 in
theorem lifted (os : Os) (started : os.Started) (H : Type) (enc : TypeId × Value → H) :
    ReturnsInHanded {} Tryz.checked os 5 .any (fun w args => (Rows.whyAllSpec.pre enc Tryz.prog Tryz.f5 [] false w args ∧ laidMetH Tryz.prog Rows.whyAllRow.laid w) ∧ sizedMet enc Tryz.prog Tryz.f5 (OpenSpec.ofChange Rows.whyAllSpec) false w args)
      (Rows.whyAllSpec.post enc Tryz.prog Tryz.f5 false true false false) := by
  refine returnsInHanded_of_change_and (C := Tryz.checked) (X := fun w _ => laidMetH Tryz.prog Rows.whyAllRow.laid w) (fun _ _ _ hh h => h.of_heap hh) own started (by kernel_rfl) Tryz.func5
    (ChangeSpec.witness_shaped (enc := enc) (C := Tryz.checked) (os := os) (X := fun w _ => laidMetH Tryz.prog Rows.whyAllRow.laid w) false (wit os) #[.agg #[.slice none 0 0, .slice none 0 0, .slice none 0 0], .int .i64 0] 8 (World.layVars_os _ _ _) (World.shaped_of_ZipB (by kernel_rfl) (by kernel_rfl)) (by kernel_rfl) (by kernel_rfl) (by kernel_rfl) (door_met os _)) ?_
  intro W base args ds gs before hval0 hW _ _ hL _
  have hval : ∀ (j : Nat) t v, Tryz.f5.params[j]? = some t → args[j]? = some v → Value.okWide Tryz.prog W .any base t v := hval0
  have hW' := hW
  obtain ⟨p, q, hA0, hV, rfl, hfz, hnd⟩ := hW
  have hA : DataW.TrodAll enc Tryz.prog W 0 (fun _ => true) true Tryz.f5.params.toList args.toList ds p := hA0
  rw [Tryz.params5] at hA hval
  obtain ⟨v0, vs0, d0, ds0, p0, q0, hargs, rfl, rfl, h0, r0⟩ := trodAll_cons hA
  obtain ⟨v1, vs1, d1, ds1, p1, q1, rfl, rfl, rfl, h1, r1⟩ := trodAll_cons r0
  obtain ⟨rfl, rfl, rfl⟩ := trodAll_nil r1
  obtain rfl : args = #[v0, v1] := by cases args; simp_all
  obtain ⟨rfl, rfl⟩ := trodVars_none hV
  have k0 := h0
  have lt0 : ∀ x ∈ p0, x.block < W.heap.size := by obtain ⟨m, hm⟩ := k0; exact DataW.trod_lt m _ _ _ hm
  obtain ⟨a1, rfl, rfl, rfl, w1⟩ := open_int Tryz.underlying3 (hval 1 3 v1 rfl rfl) h1
  obtain ⟨b1, b2, b3, c1, c2, c3, P, rfl, hP⟩ := prog_of (hval 0 26 v0 rfl rfl) h0
  obtain ⟨ad, hE⟩ := all_of (by have := laidMetH.filter (fun x => !(x.1 == "unicode/utf8.acceptRanges") && !(x.1 == "unicode/utf8.first")) hL; rw [laid_eq] at this; exact this)
  clear hA0 hval0
  refine (whyalllaw_any b1 b2 b3 c1 c2 c3 P a1 W ad (errs_of hE) hE (sets_of hE) hP w1).mono fun e W' ⟨he, bel⟩ => ?_
  subst he
  exact ⟨_, rfl, _, _, _, [], _, [], hW', trodAll_mk1 (shut_bool Tryz.underlying4 _), (trodAll_cons_mk (Below.trod laidOut (by kernel_rfl) (of_decide_eq_true (by kernel_rfl)) k0 bel lt0) (trodAll_cons_mk (shut_int Tryz.underlying3 w1) trodAll_mk0)), rfl, bel.frame _, fun h => by cases h⟩

theorem said : Rows.WhyAllSaid :=
  OpenClaim.holds_of_wide 5 Tryz.f5 rfl rfl rfl rfl rfl rfl rfl ⟨rfl, rfl, rfl, rfl, rfl⟩ rfl rfl rfl rfl rfl (by kernel_rfl) Tryz.func5 (by kernel_rfl)
    (of_decide_eq_true (by kernel_rfl)) (by unfold Func.isWrapper; first | (rw [if_pos (by decide +kernel)]; kernel_rfl) | (rw [if_neg (by decide +kernel)]; exact ⟨rfl, rfl⟩))
    (fun os started H enc _ => lifted os started H enc)

/-- No parameter wants a stand-in. -/
theorem plain (f : FuncId) (fn : Func) (hf : Tryz.pinned.checked.prog.funcNamed Tryz.f5.name = some f) (hfn : Tryz.pinned.checked.prog.funcs[f]? = some fn) :
    true = Tryz.pinned.checked.prog.looks [] ∧ ∀ (j : Nat) t, fn.params[j]? = some t → Tryz.pinned.checked.prog.wantsStandIn t = false := by
  obtain rfl : f = 5 := Option.some.inj ((show Tryz.prog.funcNamed Tryz.f5.name = some 5 by kernel_rfl).symm.trans hf) |>.symm
  obtain rfl : fn = Tryz.f5 := (Option.some.inj (Tryz.func5.symm.trans hfn)).symm
  refine ⟨by kernel_rfl, fun j t ht => ?_⟩
  rw [Tryz.params5] at ht
  have hm : t ∈ ([26, 3] : List Nat) := by simpa using Array.mem_of_getElem? ht
  have hall : (([26, 3] : List Nat).all fun u => !Tryz.prog.wantsStandIn u) = true := by kernel_rfl
  exact (show Tryz.prog.wantsStandIn t = false by simpa using List.all_eq_true.1 hall t hm)

set_option maxRecDepth 100000 in
theorem card : Rows.WhyAllCardSaid :=
  Claim7.holds_tied_plain_at .later [] _ _ _ _ said (fun _ h => by cases h) (by kernel_rfl) (fun _ h => by cases h) whyAll_row_tie rfl ⟨rfl, rfl⟩ (by kernel_rfl) rfl plain (by kernel_rfl)
#print axioms card
end Go.Proofs.YtngdpnlgnpdkcaaGreatDoor.whyAll

