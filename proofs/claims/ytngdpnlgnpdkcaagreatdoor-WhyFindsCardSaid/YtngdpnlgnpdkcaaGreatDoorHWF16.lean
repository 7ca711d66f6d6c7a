/- Texts of one proof, put together: X1 ZZ7 ZZWza ZZWzb SA. -/
import Derived.Test.YtngdpnlgnpdkcaaGreatDoorHWF03
import Derived.Test.YtngdpnlgnpdkcaaGreatDoorHWF04
import Derived.Test.YtngdpnlgnpdkcaaGreatDoorHWF07
import Derived.Test.YtngdpnlgnpdkcaaGreatDoorHWF10
import Derived.Test.YtngdpnlgnpdkcaaGreatDoorHWF11
import Derived.Test.YtngdpnlgnpdkcaaGreatDoorHWF13
import Derived.Test.YtngdpnlgnpdkcaaGreatDoorHWF14
import Derived.Test.YtngdpnlgnpdkcaaGreatDoorHWF15
import Derived.LaidHandle
import Derived.Test.YtngdpnlgnpdkcaaGreatDoorHWF01
set_option linter.unusedSimpArgs false
set_option linter.unusedVariables false
namespace Go.Proofs.YtngdpnlgnpdkcaaGreatDoor
open Go Go.RowKit
def sumUp (S : List (List Int)) (k : Nat) : Nat := ((List.range k).map fun n : Nat => (S.getD n []).length).sum
theorem rwhy_info : (Tryz.prog.info? 48).map (fun i => (i.zero, i.size, i.bytes)) = some (some (.agg #[.int .i64 0, .int .i64 0, .int .i64 0, .int .i64 0, .int .i64 0]), 5, 40) := by kernel_rfl
set_option maxRecDepth 100000 in
set_option maxHeartbeats 12800000 in
theorem whyfindslaw_out (a1 a2 a3 : Option Addr) (c1 c2 c3 : Nat) (P : PP) (node obj : Int) (w : World) (ad : Nat → Addr) (hE : ErrsP w ad) (hA : AllErrs w ad) (hS : ErrS w ad) (hP : ProgR w w.heap.size (.slice a1 P.vars.length c1) (.slice a2 P.funs.length c2) (.slice a3 P.stmts.length c3) P) (hw : P.Well) (hnw : (Lit.int .i64 node).wf = true) (how : (Lit.int .i64 obj).wf = true)
    (hno : ∀ m S, LeastAt P m S → ¬ ((0 ≤ node ∧ node < P.nodesV) ∧ obj ∈ S.getD node.toNat [])) :
    Calls Tryz.prog 3 #[pval a1 a2 a3 c1 c2 c3 P, .int .i64 node, .int .i64 obj] w fun e w' => e = .returned (.bool true) ∧ Ext w w' := by
  have Hw := hid hw
  have Hno := hid hno
  clear hw hno
  have HE := hid hE
  have HS := hid hS
  have HAA := hid hA
  have HP := hid hP
  obtain ⟨W1, hW1⟩ : ∃ W1, W1 = w.alloc (.cells (pcells a1 a2 a3 c1 c2 c3 P) 26) := ⟨_, rfl⟩
  have HX1 : Hid (Ext w W1) := hid (by rw [hW1]; exact (Ext.refl _).alloc _)
  have HB1 : Hid (Blk W1 w.heap.size (pcells a1 a2 a3 c1 c2 c3 P) 26) := hid (by rw [hW1]; exact Blk.new _ _ _)
  have HR := hid (because_any W1 ad (hE.ext HX1.out) (hA.ext HX1.out))
  have HW1 : Hid (W1 = w.alloc (.cells #[.slice a1 P.vars.length c1, .slice a2 P.funs.length c2, .slice a3 P.stmts.length c3] 26)) := hid (by rw [hW1]; rfl)
  unfold pval
  clear hE hS hA hP hW1
  go_enter Tryz.func3, Tryz.ntmps3
  go_wp2_with fail
  rw [← HW1.out]
  refine HR.out.mono ?_
  intro e w1 hx
  obtain ⟨rfl, hx1⟩ := hx
  have HL := hid (large_q a1 a2 a3 c1 c2 c3 20 (by omega) P w1 w.heap.size (HP.out.ext (HX1.out.trans hx1)))
  rw [show ((20 : Nat) : Int) = (20 : Int) from rfl] at HL
  unfold pval at HL
  have HX1' := hid (HX1.out.trans hx1)
  have HBp1 := hid (HB1.out.ext hx1)
  have p0 := HBp1.out.av 0 rfl
  have p1 := HBp1.out.av 1 rfl
  have p2 := HBp1.out.av 2 rfl
  simp only [pcells, qA0, qA1, qA2] at p0 p1 p2
  clear HR hx1
  go_wp2_with fail
  refine HL.out.mono ?_
  intro e w2 hx
  obtain ⟨r, rfl, hr, hsm, hx2⟩ := hx
  have HX2 := hid (HX1'.out.trans hx2)
  have HBp := hid (HBp1.out.ext hx2)
  clear HL hx2 p0 p1 p2
  rcases (by omega : r = 1 ∨ r = 0) with rfl | rfl
  · clear hsm hr
    go_wp2
    go_ret
    exact ⟨rfl, HX2.out⟩
  have HSm := hid (hsm rfl).1
  have HQl := hid (hsm rfl).2.1
  have HVl := hid (hsm rfl).2.2
  clear hsm hr
  have hz1 : ∀ s ∈ P.vars, s.size ≤ 1000000 := fun s hs => by have := HSm.out.vs s hs; omega
  have hz2 : ∀ s ∈ P.names, s.size ≤ 1000000 := fun s hs => by
    obtain ⟨f, hf, rfl⟩ := List.mem_map.1 hs
    have := (HSm.out.fs f hf).1
    omega
  have Hz1 := hid hz1
  have Hz2 := hid hz2
  have HPS := hid (show PS0 w2 w2.heap.size ad a1 a2 a3 c1 c2 c3 P from ⟨HE.out.ext HX2.out, (HP.out.ext HX2.out).lift HX2.out.size, Hz1.out, Hz2.out⟩)
  clear hz1 hz2
  have HQ := hid (ownprogram_any a1 a2 a3 c1 c2 c3 P w2 HPS.out.prog HSm.out)
  have p0 := HBp.out.av 0 rfl
  have p1 := HBp.out.av 1 rfl
  have p2 := HBp.out.av 2 rfl
  simp only [pcells, qA0, qA1, qA2] at p0 p1 p2
  unfold pval at HQ
  go_wp2_with fail
  refine HQ.out.mono ?_
  intro e w3 hx
  obtain ⟨hx3, b1, b2, b3, d1, d2, d3, rfl, hq⟩ := hx
  have HX3 := hid (HX2.out.trans hx3)
  have Hx3 := hid hx3
  have HPQ := hid (show PS0 w3 w3.heap.size ad b1 b2 b3 d1 d2 d3 P from ⟨HE.out.ext HX3.out, hq, Hz1.out, Hz2.out⟩)
  have HS3 := hid (HS.out.ext HX3.out)
  clear HQ hx3 hq p0 p1 p2
  obtain ⟨n, S, hL⟩ := least_exists Hw.out
  have HLe := hid hL
  have HG := hid (hL.good Hw.out)
  have HCl := hid (hL.closed Hw.out)
  have HSl := hid HG.out.2.1
  have hn12 := hL.few Hw.out
  have hS126 : S.length ≤ 126 := by
    have h1 := Hw.out.few
    have h2 := nodesV_le P Hw.out
    have := HSl.out
    omega
  clear hL
  have HFi := hid (whyfind_any b1 b2 b3 d1 d2 d3 P S node obj w3 ad (HPQ.out.pw Hw.out) ((HAA.out.ext HX3.out).at6) HG.out HCl.out hnw how)
  unfold pval at HFi
  go_wp2_with fail
  refine HFi.out.mono ?_
  intro e w4 hx
  obtain ⟨hf, hx4⟩ := hx
  have Hx4 := hid (Hx3.out.trans hx4)
  have hout := Hno.out n S HLe.out
  obtain rfl := hf.no hout
  have Hout := hid hout
  clear HFi hf hx4 hout hnw how
  have HF := hid (rfprog_all a1 a2 a3 c1 c2 c3 P w4 (HPS.out.on (Nat.le_refl _) Hx4.out).prog Hz1.out Hz2.out)
  have p0 := (HBp.out.ext Hx4.out).av 0 rfl
  have p1 := (HBp.out.ext Hx4.out).av 1 rfl
  have p2 := (HBp.out.ext Hx4.out).av 2 rfl
  simp only [pcells, qA0, qA1, qA2] at p0 p1 p2
  unfold pval at HF
  go_wp2_with fail
  refine HF.out.mono ?_
  intro e w5 hx
  obtain ⟨hx5, c, p, rfl, hfi⟩ := hx
  have Hfi := hid hfi
  obtain ⟨W6, hW6⟩ : ∃ W6, W6 = w5.alloc (.cells #[.int .i64 (c : Int), .int .i64 p] 36) := ⟨_, rfl⟩
  have hx6 : Ext w5 W6 := by rw [hW6]; exact (Ext.refl _).alloc _
  have HW6 := hid hW6
  have Hx56 : Hid (Ext w4 W6) := hid (hx5.trans hx6)
  have HX6 : Hid (Ext w2 W6) := hid ((Hx4.out).trans (hx5.trans hx6))
  have HBf : Hid (Blk W6 w5.heap.size #[.int .i64 (c : Int), .int .i64 p] 36) := hid (by rw [hW6]; exact Blk.new _ _ _)
  clear HF hfi hx5 hx6 hW6 p0 p1 p2
  obtain ⟨rfl, rfl⟩ := Hfi.out.uniq (show FaultIs P 0 (-1) from .inr (.inl ⟨Hw.out.1, Hw.out.2, rfl, rfl⟩))
  have HW6z : Hid (W6 = w5.alloc (.cells #[.int .i64 0, .int .i64 (-1)] 36)) := hid HW6.out
  have HBfz : Hid (Blk W6 w5.heap.size #[.int .i64 0, .int .i64 (-1)] 36) := hid HBf.out
  have HC := hid (rleastof_any a1 a2 a3 c1 c2 c3 P W6 (HPS.out.on (Nat.le_refl _) HX6.out).prog Hw.out n S HLe.out)
  rw [← HSl.out] at HC
  unfold pval at HC
  have p0 := (HBp.out.ext HX6.out).av 0 rfl
  have p1 := (HBp.out.ext HX6.out).av 1 rfl
  have p2 := (HBp.out.ext HX6.out).av 2 rfl
  simp only [pcells, qA0, qA1, qA2] at p0 p1 p2
  have f0 := HBfz.out.av 0 rfl
  have f1 := HBfz.out.av 1 rfl
  simp only [qA0, qA1, qA2] at f0 f1
  rw [HW6z.out] at f0 f1 p0 p1 p2
  clear HW6 HBf Hfi
  go_wp2_with fail
  rw [← HW6z.out]
  refine HC.out.mono ?_
  intro e w9 hx
  obtain ⟨ah, ch, rfl, hs9, hx9⟩ := hx
  have Hs9 := hid hs9
  have HX9 := hid (HX6.out.trans hx9)
  have Hx49 := hid (Hx56.out.trans hx9)
  have hhl := hs9.len
  clear HC hs9 hx9 f0 f1 p0 p1 p2
  by_cases hn0 : node < 0
  · have HCo := hid (coded2_any w9 (evOf ad 6) 6 (code_of w9 ad (HAA.out.ext (HX2.out.trans HX9.out)) 6 (by decide) (by decide)))
    unfold evOf at HCo
    go_wp2_with fail
    refine HCo.out.mono ?_
    intro e u1 hx
    obtain ⟨rfl, hxu⟩ := hx
    have Hxu := hid hxu
    clear HCo hxu
    go_wp2
    go_ret
    exact ⟨rfl, HX2.out.trans (HX9.out.trans Hxu.out)⟩
  · by_cases hn1 : (S.length : Int) ≤ node
    · have HCo := hid (coded2_any w9 (evOf ad 6) 6 (code_of w9 ad (HAA.out.ext (HX2.out.trans HX9.out)) 6 (by decide) (by decide)))
      unfold evOf at HCo
      go_wp2_with fail
      refine HCo.out.mono ?_
      intro e u1 hx
      obtain ⟨rfl, hxu⟩ := hx
      have Hxu := hid hxu
      clear HCo hxu
      go_wp2
      go_ret
      exact ⟨rfl, HX2.out.trans (HX9.out.trans Hxu.out)⟩
    · obtain ⟨N, rfl⟩ := Int.eq_ofNat_of_zero_le (show 0 ≤ node by omega)
      have hN : N < S.length := by omega
      obtain ⟨y, l, bl, cl, hy, hl, hc, hI⟩ := Hs9.out.at hN
      subst hy
      have hnl : decide (obj ∈ l) = false := decide_eq_false fun h => Hout.out ⟨⟨by omega, by rw [← HSl.out]; omega⟩, by rw [Int.toNat_natCast, List.getD_eq_getElem?_getD, hl]; exact h⟩
      have HH := hid (rhas_any (.slice bl l.length cl) l obj w9 w9.heap.size hI)
      rw [hnl] at HH
      have hll := hI.len
      clear hl hI hnl
      go_wp2_with fail
      refine HH.out.mono ?_
      intro e u0 hx
      obtain ⟨rfl, rfl⟩ := hx
      clear HH hc
      have HCo := hid (coded2_any w9 (evOf ad 6) 6 (code_of w9 ad (HAA.out.ext (HX2.out.trans HX9.out)) 6 (by decide) (by decide)))
      unfold evOf at HCo
      go_wp2_with fail
      refine HCo.out.mono ?_
      intro e u1 hx
      obtain ⟨rfl, hxu⟩ := hx
      have Hxu := hid hxu
      clear HCo hxu
      go_wp2
      go_ret
      exact ⟨rfl, HX2.out.trans (HX9.out.trans Hxu.out)⟩
set_option maxRecDepth 100000 in
set_option maxHeartbeats 6400000 in
theorem whyfindslaw_no (a1 a2 a3 : Option Addr) (c1 c2 c3 : Nat) (P : PP) (node obj : Int) (w : World) (ad : Nat → Addr) (hE : ErrsP w ad) (hA : AllErrs w ad) (hS : ErrS w ad) (hP : ProgR w w.heap.size (.slice a1 P.vars.length c1) (.slice a2 P.funs.length c2) (.slice a3 P.stmts.length c3) P) (hw : ¬ P.Well) :
    Calls Tryz.prog 3 #[pval a1 a2 a3 c1 c2 c3 P, .int .i64 node, .int .i64 obj] w fun e w' => e = .returned (.bool true) ∧ Ext w w' := by
  have Hw := hid hw
  clear hw
  have HE := hid hE
  have HS := hid hS
  have HAA := hid hA
  have HP := hid hP
  obtain ⟨W1, hW1⟩ : ∃ W1, W1 = w.alloc (.cells (pcells a1 a2 a3 c1 c2 c3 P) 26) := ⟨_, rfl⟩
  have HX1 : Hid (Ext w W1) := hid (by rw [hW1]; exact (Ext.refl _).alloc _)
  have HB1 : Hid (Blk W1 w.heap.size (pcells a1 a2 a3 c1 c2 c3 P) 26) := hid (by rw [hW1]; exact Blk.new _ _ _)
  have HR := hid (because_any W1 ad (hE.ext HX1.out) (hA.ext HX1.out))
  have HW1 : Hid (W1 = w.alloc (.cells #[.slice a1 P.vars.length c1, .slice a2 P.funs.length c2, .slice a3 P.stmts.length c3] 26)) := hid (by rw [hW1]; rfl)
  unfold pval
  clear hE hS hA hP hW1
  go_enter Tryz.func3, Tryz.ntmps3
  go_wp2_with fail
  rw [← HW1.out]
  refine HR.out.mono ?_
  intro e w1 hx
  obtain ⟨rfl, hx1⟩ := hx
  have HL := hid (large_q a1 a2 a3 c1 c2 c3 20 (by omega) P w1 w.heap.size (HP.out.ext (HX1.out.trans hx1)))
  rw [show ((20 : Nat) : Int) = (20 : Int) from rfl] at HL
  unfold pval at HL
  have HX1' := hid (HX1.out.trans hx1)
  have HBp1 := hid (HB1.out.ext hx1)
  have p0 := HBp1.out.av 0 rfl
  have p1 := HBp1.out.av 1 rfl
  have p2 := HBp1.out.av 2 rfl
  simp only [pcells, qA0, qA1, qA2] at p0 p1 p2
  clear HR hx1
  go_wp2_with fail
  refine HL.out.mono ?_
  intro e w2 hx
  obtain ⟨r, rfl, hr, hsm, hx2⟩ := hx
  have HX2 := hid (HX1'.out.trans hx2)
  have HBp := hid (HBp1.out.ext hx2)
  clear HL hx2 p0 p1 p2
  rcases (by omega : r = 1 ∨ r = 0) with rfl | rfl
  · clear hsm hr
    go_wp2
    go_ret
    exact ⟨rfl, HX2.out⟩
  have HSm := hid (hsm rfl).1
  have HQl := hid (hsm rfl).2.1
  have HVl := hid (hsm rfl).2.2
  clear hsm hr
  have hz1 : ∀ s ∈ P.vars, s.size ≤ 1000000 := fun s hs => by have := HSm.out.vs s hs; omega
  have hz2 : ∀ s ∈ P.names, s.size ≤ 1000000 := fun s hs => by
    obtain ⟨f, hf, rfl⟩ := List.mem_map.1 hs
    have := (HSm.out.fs f hf).1
    omega
  have Hz1 := hid hz1
  have Hz2 := hid hz2
  have HPS := hid (show PS0 w2 w2.heap.size ad a1 a2 a3 c1 c2 c3 P from ⟨HE.out.ext HX2.out, (HP.out.ext HX2.out).lift HX2.out.size, Hz1.out, Hz2.out⟩)
  clear hz1 hz2
  have HQ := hid (ownprogram_any a1 a2 a3 c1 c2 c3 P w2 HPS.out.prog HSm.out)
  have p0 := HBp.out.av 0 rfl
  have p1 := HBp.out.av 1 rfl
  have p2 := HBp.out.av 2 rfl
  simp only [pcells, qA0, qA1, qA2] at p0 p1 p2
  unfold pval at HQ
  go_wp2_with fail
  refine HQ.out.mono ?_
  intro e w3 hx
  obtain ⟨hx3, b1, b2, b3, d1, d2, d3, rfl, hq⟩ := hx
  have HX3 := hid (HX2.out.trans hx3)
  have Hx3 := hid hx3
  have HPQ := hid (show PS0 w3 w3.heap.size ad b1 b2 b3 d1 d2 d3 P from ⟨HE.out.ext HX3.out, hq, Hz1.out, Hz2.out⟩)
  have HS3 := hid (HS.out.ext HX3.out)
  clear HQ hx3 hq p0 p1 p2
  have HFi := hid (whyfind_no b1 b2 b3 d1 d2 d3 P node obj w3 w3.heap.size ad HPQ.out.errs HPQ.out.prog Hz1.out Hz2.out Hw.out)
  unfold pval at HFi
  go_wp2_with fail
  refine HFi.out.mono ?_
  intro e w4 hx
  obtain ⟨t, x, rfl, hei, hx4⟩ := hx
  have Hx4 := hid (Hx3.out.trans hx4)
  have Hei := hid hei
  clear HFi hei hx4
  have HF := hid (rfprog_all a1 a2 a3 c1 c2 c3 P w4 (HPS.out.on (Nat.le_refl _) Hx4.out).prog Hz1.out Hz2.out)
  have p0 := (HBp.out.ext Hx4.out).av 0 rfl
  have p1 := (HBp.out.ext Hx4.out).av 1 rfl
  have p2 := (HBp.out.ext Hx4.out).av 2 rfl
  simp only [pcells, qA0, qA1, qA2] at p0 p1 p2
  unfold pval at HF
  go_wp2_with fail
  refine HF.out.mono ?_
  intro e w5 hx
  obtain ⟨hx5, c, p, rfl, hfi⟩ := hx
  have Hfi := hid hfi
  obtain ⟨W6, hW6⟩ : ∃ W6, W6 = w5.alloc (.cells #[.int .i64 (c : Int), .int .i64 p] 36) := ⟨_, rfl⟩
  have hx6 : Ext w5 W6 := by rw [hW6]; exact (Ext.refl _).alloc _
  have HW6 := hid hW6
  have Hx56 : Hid (Ext w4 W6) := hid (hx5.trans hx6)
  have HX6 : Hid (Ext w2 W6) := hid ((Hx4.out).trans (hx5.trans hx6))
  have HBf : Hid (Blk W6 w5.heap.size #[.int .i64 (c : Int), .int .i64 p] 36) := hid (by rw [hW6]; exact Blk.new _ _ _)
  clear HF hfi hx5 hx6 hW6 p0 p1 p2
  obtain ⟨c', p', hf', hc0, hcode⟩ := code_chk Hei.out Hw.out
  obtain ⟨rfl, rfl⟩ := Hfi.out.uniq hf'
  have hcp : 0 < (c : Int) := by omega
  have HFa := hid (faulted2_at (w := W6) (c := c) (p := p) (HAA.out.ext (HX2.out.trans HX6.out)) fun w1 x hA => hcode w1 (Hx56.out.trans x) hA)
  have f0 := HBf.out.av 0 rfl
  have f1 := HBf.out.av 1 rfl
  simp only [qA0, qA1, qA2] at f0 f1
  rw [HW6.out] at f0 f1
  clear hf' hc0 hcode
  go_wp2_with fail
  rw [← HW6.out]
  refine HFa.out.mono ?_
  intro e w7 hx
  obtain ⟨rfl, hx7⟩ := hx
  have Hx7 := hid hx7
  clear HFa hx7 f0 f1
  go_wp2
  go_ret
  exact ⟨rfl, HX2.out.trans (HX6.out.trans Hx7.out)⟩
theorem fact_ne {P : PP} {S : List (List Int)} {L : List ST} (h : WhyOk P S L) {k i : Nat} {z s : ST} (hz : L[k]? = some z) (hs : L[i]? = some s) (hki : k < i) (h1 : (z.node == s.node) = true) : (z.obj == s.obj) = false := by
  cases h2 : (z.obj == s.obj) with
  | false => rfl
  | true =>
    exfalso
    have e : z.fact = s.fact := by unfold ST.fact; rw [beq_int' h1, beq_int' h2]
    have f1 : (facts L)[k]? = some z.fact := by unfold facts; rw [List.getElem?_map, hz]; rfl
    have f2 : (facts L)[i]? = some z.fact := by unfold facts; rw [List.getElem?_map, hs, e]; rfl
    have := (List.getElem?_inj (List.getElem?_eq_some_iff.1 f1).1 h.nd).1 (f1.trans f2.symm)
    omega
set_option maxRecDepth 100000 in
set_option maxHeartbeats 12800000 in
theorem whyfindslaw_in (a1 a2 a3 : Option Addr) (c1 c2 c3 : Nat) (P : PP) (node obj : Int) (w : World) (ad : Nat → Addr) (hE : ErrsP w ad) (hA : AllErrs w ad) (hS : ErrS w ad) (hP : ProgR w w.heap.size (.slice a1 P.vars.length c1) (.slice a2 P.funs.length c2) (.slice a3 P.stmts.length c3) P) (hw : P.Well) (hnw : (Lit.int .i64 node).wf = true) (how : (Lit.int .i64 obj).wf = true)
    (hin : ∀ m S, LeastAt P m S → (0 ≤ node ∧ node < P.nodesV) ∧ obj ∈ S.getD node.toNat []) :
    Calls Tryz.prog 3 #[pval a1 a2 a3 c1 c2 c3 P, .int .i64 node, .int .i64 obj] w fun e w' => e = .returned (.bool true) ∧ Ext w w' := by
  have Hw := hid hw
  have Hin := hid hin
  clear hw hin
  have HE := hid hE
  have HS := hid hS
  have HAA := hid hA
  have HP := hid hP
  obtain ⟨W1, hW1⟩ : ∃ W1, W1 = w.alloc (.cells (pcells a1 a2 a3 c1 c2 c3 P) 26) := ⟨_, rfl⟩
  have HX1 : Hid (Ext w W1) := hid (by rw [hW1]; exact (Ext.refl _).alloc _)
  have HB1 : Hid (Blk W1 w.heap.size (pcells a1 a2 a3 c1 c2 c3 P) 26) := hid (by rw [hW1]; exact Blk.new _ _ _)
  have HR := hid (because_any W1 ad (hE.ext HX1.out) (hA.ext HX1.out))
  have HW1 : Hid (W1 = w.alloc (.cells #[.slice a1 P.vars.length c1, .slice a2 P.funs.length c2, .slice a3 P.stmts.length c3] 26)) := hid (by rw [hW1]; rfl)
  unfold pval
  clear hE hS hA hP hW1
  go_enter Tryz.func3, Tryz.ntmps3
  go_wp2_with fail
  rw [← HW1.out]
  refine HR.out.mono ?_
  intro e w1 hx
  obtain ⟨rfl, hx1⟩ := hx
  have HL := hid (large_q a1 a2 a3 c1 c2 c3 20 (by omega) P w1 w.heap.size (HP.out.ext (HX1.out.trans hx1)))
  rw [show ((20 : Nat) : Int) = (20 : Int) from rfl] at HL
  unfold pval at HL
  have HX1' := hid (HX1.out.trans hx1)
  have HBp1 := hid (HB1.out.ext hx1)
  have p0 := HBp1.out.av 0 rfl
  have p1 := HBp1.out.av 1 rfl
  have p2 := HBp1.out.av 2 rfl
  simp only [pcells, qA0, qA1, qA2] at p0 p1 p2
  clear HR hx1
  go_wp2_with fail
  refine HL.out.mono ?_
  intro e w2 hx
  obtain ⟨r, rfl, hr, hsm, hx2⟩ := hx
  have HX2 := hid (HX1'.out.trans hx2)
  have HBp := hid (HBp1.out.ext hx2)
  clear HL hx2 p0 p1 p2
  rcases (by omega : r = 1 ∨ r = 0) with rfl | rfl
  · clear hsm hr
    go_wp2
    go_ret
    exact ⟨rfl, HX2.out⟩
  have HSm := hid (hsm rfl).1
  have HQl := hid (hsm rfl).2.1
  have HVl := hid (hsm rfl).2.2
  clear hsm hr
  have hz1 : ∀ s ∈ P.vars, s.size ≤ 1000000 := fun s hs => by have := HSm.out.vs s hs; omega
  have hz2 : ∀ s ∈ P.names, s.size ≤ 1000000 := fun s hs => by
    obtain ⟨f, hf, rfl⟩ := List.mem_map.1 hs
    have := (HSm.out.fs f hf).1
    omega
  have Hz1 := hid hz1
  have Hz2 := hid hz2
  have HPS := hid (show PS0 w2 w2.heap.size ad a1 a2 a3 c1 c2 c3 P from ⟨HE.out.ext HX2.out, (HP.out.ext HX2.out).lift HX2.out.size, Hz1.out, Hz2.out⟩)
  clear hz1 hz2
  have HQ := hid (ownprogram_any a1 a2 a3 c1 c2 c3 P w2 HPS.out.prog HSm.out)
  have p0 := HBp.out.av 0 rfl
  have p1 := HBp.out.av 1 rfl
  have p2 := HBp.out.av 2 rfl
  simp only [pcells, qA0, qA1, qA2] at p0 p1 p2
  unfold pval at HQ
  go_wp2_with fail
  refine HQ.out.mono ?_
  intro e w3 hx
  obtain ⟨hx3, b1, b2, b3, d1, d2, d3, rfl, hq⟩ := hx
  have HX3 := hid (HX2.out.trans hx3)
  have Hx3 := hid hx3
  have HPQ := hid (show PS0 w3 w3.heap.size ad b1 b2 b3 d1 d2 d3 P from ⟨HE.out.ext HX3.out, hq, Hz1.out, Hz2.out⟩)
  have HS3 := hid (HS.out.ext HX3.out)
  clear HQ hx3 hq p0 p1 p2
  obtain ⟨n, S, hL⟩ := least_exists Hw.out
  have HLe := hid hL
  have HG := hid (hL.good Hw.out)
  have HCl := hid (hL.closed Hw.out)
  have HSl := hid HG.out.2.1
  have hn12 := hL.few Hw.out
  have hS126 : S.length ≤ 126 := by
    have h1 := Hw.out.few
    have h2 := nodesV_le P Hw.out
    have := HSl.out
    omega
  clear hL
  have HFi := hid (whyfind_any b1 b2 b3 d1 d2 d3 P S node obj w3 ad (HPQ.out.pw Hw.out) ((HAA.out.ext HX3.out).at6) HG.out HCl.out hnw how)
  unfold pval at HFi
  go_wp2_with fail
  refine HFi.out.mono ?_
  intro e w4 hx
  obtain ⟨hf, hx4⟩ := hx
  have Hx4 := hid (Hx3.out.trans hx4)
  have hin2 := Hin.out n S HLe.out
  obtain ⟨L, Lm, sl, v, hLm, hsf, hok, rfl, hrow⟩ := hf.yes HLe.out Hw.out hin2
  have hl2 : L.length ≤ 2000 := hok.few3 HG.out (by
    have := HVl.out
    have := Hw.out.few
    omega) (by
    have := HQl.out
    have := Hw.out.few
    omega)
  have Hst := hid (hok.steps Hw.out)
  have Hok := hid hok
  have hlp : 0 < L.length := by rw [hLm, List.length_append]; simp
  have hlast : L[L.length - 1]? = some sl := by
    rw [hLm, List.length_append, List.length_singleton, Nat.add_sub_cancel]
    exact List.getElem?_concat_length
  obtain ⟨g8, c8, rfl⟩ := own_some hrow hlp
  have Hlast := hid hlast
  have Hsf := hid hsf
  have Hrow := hid hrow
  have Hin2 := hid hin2
  clear HFi hf hx4 hnw how hLm hsf hok hrow hlast hin2
  have HF := hid (rfprog_all a1 a2 a3 c1 c2 c3 P w4 (HPS.out.on (Nat.le_refl _) Hx4.out).prog Hz1.out Hz2.out)
  have p0 := (HBp.out.ext Hx4.out).av 0 rfl
  have p1 := (HBp.out.ext Hx4.out).av 1 rfl
  have p2 := (HBp.out.ext Hx4.out).av 2 rfl
  simp only [pcells, qA0, qA1, qA2] at p0 p1 p2
  unfold pval at HF
  go_wp2_with fail
  refine HF.out.mono ?_
  intro e w5 hx
  obtain ⟨hx5, c, p, rfl, hfi⟩ := hx
  have Hfi := hid hfi
  obtain ⟨W6, hW6⟩ : ∃ W6, W6 = w5.alloc (.cells #[.int .i64 (c : Int), .int .i64 p] 36) := ⟨_, rfl⟩
  have hx6 : Ext w5 W6 := by rw [hW6]; exact (Ext.refl _).alloc _
  have HW6 := hid hW6
  have Hx56 : Hid (Ext w4 W6) := hid (hx5.trans hx6)
  have HX6 : Hid (Ext w2 W6) := hid ((Hx4.out).trans (hx5.trans hx6))
  have HBf : Hid (Blk W6 w5.heap.size #[.int .i64 (c : Int), .int .i64 p] 36) := hid (by rw [hW6]; exact Blk.new _ _ _)
  clear HF hfi hx5 hx6 hW6 p0 p1 p2
  obtain ⟨rfl, rfl⟩ := Hfi.out.uniq (show FaultIs P 0 (-1) from .inr (.inl ⟨Hw.out.1, Hw.out.2, rfl, rfl⟩))
  have HW6z : Hid (W6 = w5.alloc (.cells #[.int .i64 0, .int .i64 (-1)] 36)) := hid HW6.out
  have HBfz : Hid (Blk W6 w5.heap.size #[.int .i64 0, .int .i64 (-1)] 36) := hid HBf.out
  have HC := hid (rleastof_any a1 a2 a3 c1 c2 c3 P W6 (HPS.out.on (Nat.le_refl _) HX6.out).prog Hw.out n S HLe.out)
  rw [← HSl.out] at HC
  unfold pval at HC
  have p0 := (HBp.out.ext HX6.out).av 0 rfl
  have p1 := (HBp.out.ext HX6.out).av 1 rfl
  have p2 := (HBp.out.ext HX6.out).av 2 rfl
  simp only [pcells, qA0, qA1, qA2] at p0 p1 p2
  have f0 := HBfz.out.av 0 rfl
  have f1 := HBfz.out.av 1 rfl
  simp only [qA0, qA1, qA2] at f0 f1
  rw [HW6z.out] at f0 f1 p0 p1 p2
  clear HW6 HBf Hfi
  go_wp2_with fail
  rw [← HW6z.out]
  refine HC.out.mono ?_
  intro e w9 hx
  obtain ⟨ah, ch, rfl, hs9, hx9⟩ := hx
  have Hs9 := hid hs9
  have HX9 := hid (HX6.out.trans hx9)
  have Hx49 := hid (Hx56.out.trans hx9)
  have hhl := hs9.len
  clear HC hs9 hx9 f0 f1 p0 p1 p2
  obtain ⟨N, rfl⟩ := Int.eq_ofNat_of_zero_le Hin2.out.1.1
  have hN : N < S.length := by have := Hin2.out.1.2; have := HSl.out; omega
  obtain ⟨y, l, bl, cl, hy, hl, hc, hI⟩ := Hs9.out.at hN
  subst hy
  have hnl : decide (obj ∈ l) = true := decide_eq_true (by
    have := Hin2.out.2
    rw [Int.toNat_natCast, List.getD_eq_getElem?_getD, hl] at this
    exact this)
  have HH := hid (rhas_any (.slice bl l.length cl) l obj w9 w9.heap.size hI)
  rw [hnl] at HH
  have hll := hI.len
  clear hl hI hnl
  go_wp2_with fail
  refine HH.out.mono ?_
  intro e u0 hx
  obtain ⟨rfl, rfl⟩ := hx
  clear HH hc
  have hl0 : ((L.length : Int) == 0) = false := beq_eq_false_iff_ne.2 (by omega)
  go_wp2
  clear hl0
  go_loopw [14, 15] (fun t14 t15 wr => ∃ (i : Nat) (a : Option Addr) (c : Nat), t15 = .int .i64 (i : Int) ∧ t14 = .slice a i c ∧ i ≤ L.length ∧ wr.ownsRow w9.heap.size 48 5 (.slice a i c) i ((L.take i).flatMap stCells) ∧ Ext w9 wr) (fun _ t15 _ => L.length - (intOf t15).toNat)
  case atStart => exact ⟨0, none, 0, rfl, rfl, Nat.zero_le _, World.ownsRow_nil _ _ _ _, Ext.refl _⟩
  case round =>
    obtain ⟨i, a7, c7, rfl, rfl, hi, hR, hx⟩ := hrel
    have HR := hid hR
    have Hx := hid hx
    clear hR hx
    by_cases hlt : i < L.length
    · obtain ⟨s, hs⟩ : ∃ s, L[i]? = some s := ⟨_, List.getElem?_eq_getElem hlt⟩
      obtain ⟨q0, q1, q2, q3, q4⟩ := own_st (own_ext Hrow.out (Hx49.out.trans Hx.out)) hs
      obtain ⟨wA, hwA⟩ : ∃ wA, wA = wr.alloc (.cells #[.int .i64 s.node, .int .i64 s.obj, .int .i64 s.stmt, .int .i64 s.frm, .int .i64 s.via] 47) := ⟨_, rfl⟩
      have HxA : Hid (Ext wr wA) := hid (by rw [hwA]; exact (Ext.refl _).alloc _)
      have HbA : Hid (Blk wA wr.heap.size #[.int .i64 s.node, .int .i64 s.obj, .int .i64 s.stmt, .int .i64 s.frm, .int .i64 s.via] 47) := hid (by rw [hwA]; exact Blk.new _ _ _)
      have HwA := hid hwA
      have Hs := hid hs
      clear hs hwA
      go_wp2
      rw [← HwA.out]
      obtain ⟨wO, hwO⟩ : ∃ x, x = wr := ⟨_, rfl⟩
      subst hwO
      clear q0 q1 q2 q3 q4
      go_loopw [17] (fun t17 wr => ∃ k : Nat, t17 = .int .i64 (k : Int) ∧ k ≤ i ∧ Ext wA wr) (fun t17 _ => i - (intOf t17).toNat)
      case atStart => exact ⟨0, rfl, Nat.zero_le _, Ext.refl _⟩
      case round =>
        obtain ⟨k, rfl, hk, hxq⟩ := hrel
        have Hxq := hid hxq
        clear hxq
        by_cases hki : k < i
        · obtain ⟨z, hz⟩ : ∃ z, L[k]? = some z := ⟨_, List.getElem?_eq_getElem (by omega)⟩
          obtain ⟨z0, z1, z2, z3, z4⟩ := own_st (own_ext Hrow.out (Hx49.out.trans (Hx.out.trans (HxA.out.trans Hxq.out)))) hz
          have m0 := (HbA.out.ext Hxq.out).kc (X := fun _ => False) (fun e => e) 0 rfl
          have m1 := (HbA.out.ext Hxq.out).kc (X := fun _ => False) (fun e => e) 1 rfl
          simp only [qA0, qA1, qA2] at m0 m1
          have r0 : ∀ w1, Keep (fun _ => False) wr w1 → w1.cell? ⟨g8, k * 5, none⟩ = some (.int .i64 z.node) := fun w1 kk => kk.ext.cellx z0
          have r1 : ∀ w1, Keep (fun _ => False) wr w1 → w1.cell? ⟨g8, k * 5 + 1, none⟩ = some (.int .i64 z.obj) := fun w1 kk => kk.ext.cellx z1
          have hkl : k < L.length := by omega
          cases hb1 : (z.node == s.node) with
          | true =>
            have hb2 := fact_ne Hok.out hz Hs.out hki hb1
            clear hz z0 z1 z2 z3 z4
            go_wp2
            refine wp_flowT (fun _ => False) (by kernel_rfl) (by kernel_rfl) ?_
            repeat (apply FlowT.d; (intro w1 hk; unfold does; go_simp; (try go_ints); (first | exact DetR.mk | (simp only [↓IntWalk.iteOmega, Oper.doesUpon_value]; exact DetR.mk) | (simp only [↓IntWalk.iteOmega]; go_simp; (try go_ints); exact DetR.mk))); simp only [Act.put, qS0, qS1, qS2])
            refine FlowT.fin fun wz hxz hkz => ?_
            have Hxz := hid (Hxq.out.trans hxz)
            clear hxz hkz m0 m1 r0 r1
            go_wp2
            go_roundw
            case rel => exact ⟨k + 1, by go_num, by omega, Hxz.out⟩
            case measure => simp [intOf]; omega
          | false =>
            clear hz z0 z1 z2 z3 z4
            go_wp2
            refine wp_flowT (fun _ => False) (by kernel_rfl) (by kernel_rfl) ?_
            repeat (apply FlowT.d; (intro w1 hk; unfold does; go_simp; (try go_ints); (first | exact DetR.mk | (simp only [↓IntWalk.iteOmega, Oper.doesUpon_value]; exact DetR.mk) | (simp only [↓IntWalk.iteOmega]; go_simp; (try go_ints); exact DetR.mk))); simp only [Act.put, qS0, qS1, qS2])
            refine FlowT.fin fun wz hxz hkz => ?_
            have Hxz := hid (Hxq.out.trans hxz)
            clear hxz hkz m0 m1 r0 r1
            go_wp2
            go_roundw
            case rel => exact ⟨k + 1, by go_num, by omega, Hxz.out⟩
            case measure => simp [intOf]; omega
        · obtain rfl : k = i := by omega
          have m0 := (HbA.out.ext Hxq.out).av 0 rfl
          have m1 := (HbA.out.ext Hxq.out).av 1 rfl
          have m2 := (HbA.out.ext Hxq.out).av 2 rfl
          have m3 := (HbA.out.ext Hxq.out).av 3 rfl
          have m4 := (HbA.out.ext Hxq.out).av 4 rfl
          simp only [qA0, qA1, qA2] at m0 m1 m2 m3 m4
          have hxa := (Ext.refl wr).alloc (.cells #[.int .i64 s.node, .int .i64 s.obj, .int .i64 s.stmt, .int .i64 s.frm, .int .i64 s.via] 48)
          have HXa := hid (Hx.out.trans (HxA.out.trans (Hxq.out.trans hxa)))
          have HRa := hid (own_ext HR.out (HxA.out.trans (Hxq.out.trans hxa)))
          have Hown : Hid (∀ b, (Value.slice a7 k c7).ownBlock = some b → w9.heap.size ≤ b) := hid fun b hb => (World.ownsRow.lt HR.out b hb).1
          have Hbs : Hid (w9.heap.size ≤ (wr.alloc (.cells #[.int .i64 s.node, .int .i64 s.obj, .int .i64 s.stmt, .int .i64 s.frm, .int .i64 s.via] 48)).heap.size) := hid HXa.out.size
          have Htk : Hid (L.take (k + 1) = L.take k ++ [s]) := hid (by rw [List.take_add_one, Hs.out]; rfl)
          clear hxa
          go_wp2_with (at_builtin; refine wpList_append_el w9.heap.size Hbs.out 45 48 (.agg #[.int .i64 0, .int .i64 0, .int .i64 0, .int .i64 0, .int .i64 0]) 5 40 Tryz.underlying45 rwhy_info rfl (by omega) (by omega) rfl _ _ rfl (.slice a7 k c7) k ((L.take k).flatMap stCells) rfl HRa.out wr.heap.size (stCells s) rfl (by simp [stCells, Value.oneCell']) rfl (Blk.new _ _ _) (by omega) ?_; intro v' w' h1 h2 h4; obtain ⟨a', c', rfl⟩ := row_form h1; have HR12 := hid h1; have HK12 := hid h2; clear h1 h2 h4)
          go_roundw
          case rel =>
            refine ⟨k + 1, a', c', by go_num, rfl, by omega, ?_, ?_⟩
            · rw [Htk.out, List.flatMap_append]
              simpa using HR12.out
            · exact Keep.new HXa.out HK12.out fun b hb => Hown.out b hb
          case measure => simp [intOf]; omega
    · obtain rfl : i = L.length := by omega
      have hR := HR.out
      rw [List.take_length] at hR
      have hrs := StepsR.own hR (Nat.le_refl _)
      obtain ⟨q0, q1, q2, q3, q4⟩ := own_st (own_ext Hrow.out (Hx49.out.trans Hx.out)) Hlast.out
      obtain ⟨wA, hwA⟩ : ∃ wA, wA = wr.alloc (.cells #[.int .i64 sl.node, .int .i64 sl.obj, .int .i64 sl.stmt, .int .i64 sl.frm, .int .i64 sl.via] 47) := ⟨_, rfl⟩
      have hxA : Ext wr wA := by rw [hwA]; exact (Ext.refl _).alloc _
      have HbA : Hid (Blk wA wr.heap.size #[.int .i64 sl.node, .int .i64 sl.obj, .int .i64 sl.stmt, .int .i64 sl.frm, .int .i64 sl.via] 47) := hid (by rw [hwA]; exact Blk.new _ _ _)
      have HwA := hid hwA
      have HX7 := hid (HX9.out.trans (Hx.out.trans hxA))
      have HC := hid (rproof_any a1 a2 a3 c1 c2 c3 P (.slice a7 L.length c7) L wA wA.heap.size (HPS.out.on (Nat.le_refl _) HX7.out).prog Hw.out wr.heap.size (hrs.ext hxA) (by omega))
      unfold pval at HC
      have He1 : Hid (sl.node = (N : Int)) := hid (Prod.mk.inj (show (sl.node, sl.obj) = ((N : Int), obj) from Hsf.out)).1
      have He2 : Hid (sl.obj = obj) := hid (Prod.mk.inj (show (sl.node, sl.obj) = ((N : Int), obj) from Hsf.out)).2
      obtain ⟨M, hM⟩ : ∃ M, M = L.length - 1 := ⟨_, rfl⟩
      have hM2 : L.length = M + 1 := by omega
      have HM2 := hid hM2
      have p0 := (HBp.out.ext HX7.out).av 0 rfl
      have p1 := (HBp.out.ext HX7.out).av 1 rfl
      have p2 := (HBp.out.ext HX7.out).av 2 rfl
      simp only [pcells, qA0, qA1, qA2] at p0 p1 p2
      rw [← hM] at q0 q1 q2 q3 q4
      rw [hwA] at p0 p1 p2
      clear hR hrs hxA hwA
      have hl3 : M + 1 ≤ 2000 := by omega
      rw [hM2] at HC ⊢
      clear hM hM2 hlt hi hlp hl2
      go_wp2_with fail
      rw [← HwA.out]
      refine HC.out.mono ?_
      intro e w8 hx
      obtain ⟨c, p, rfl, hpi, hx8⟩ := hx
      obtain ⟨rfl, rfl⟩ := hpi.ok (by have := HM2.out; omega) Hst.out
      have HX8 := hid (HX2.out.trans (HX7.out.trans hx8))
      have m0 := (HbA.out.ext hx8).av 0 rfl
      have m1 := (HbA.out.ext hx8).av 1 rfl
      simp only [qA0, qA1, qA2] at m0 m1
      rw [He1.out] at m0
      rw [He2.out] at m1
      clear HC hpi hx8 p0 p1 p2 q0 q1 q2 q3 q4
      have hfd : ∀ (c p : Int) w1, (Instr.field 36 (.agg #[.int .i64 c, .int .i64 p]) 0).run Tryz.prog w1 = .ok (.int .i64 c) w1 := fun c p w1 => by kernel_rfl
      go_wp2
      go_ret
      exact ⟨rfl, HX8.out⟩
theorem whyfindslaw_any (a1 a2 a3 : Option Addr) (c1 c2 c3 : Nat) (P : PP) (node obj : Int) (w : World) (ad : Nat → Addr) (hE : ErrsP w ad) (hA : AllErrs w ad) (hS : ErrS w ad) (hP : ProgR w w.heap.size (.slice a1 P.vars.length c1) (.slice a2 P.funs.length c2) (.slice a3 P.stmts.length c3) P) (hnw : (Lit.int .i64 node).wf = true) (how : (Lit.int .i64 obj).wf = true) :
    Calls Tryz.prog 3 #[pval a1 a2 a3 c1 c2 c3 P, .int .i64 node, .int .i64 obj] w fun e w' => e = .returned (.bool true) ∧ Ext w w' := by
  by_cases hw : P.Well
  · obtain ⟨m, S, hL⟩ := least_exists hw
    by_cases hin : (0 ≤ node ∧ node < P.nodesV) ∧ obj ∈ S.getD node.toNat []
    · exact whyfindslaw_in a1 a2 a3 c1 c2 c3 P node obj w ad hE hA hS hP hw hnw how fun m' S' h' => by obtain ⟨_, rfl⟩ := hL.uniq h'; exact hin
    · exact whyfindslaw_out a1 a2 a3 c1 c2 c3 P node obj w ad hE hA hS hP hw hnw how fun m' S' h' => by obtain ⟨_, rfl⟩ := hL.uniq h'; exact hin
  · exact whyfindslaw_no a1 a2 a3 c1 c2 c3 P node obj w ad hE hA hS hP hw
def handD : DataW Unit := .iface "internal/reflectlite.rtype" (.agg [.ptr (.lit (.string [101, 114, 114, 111, 114]))])
theorem handName : handD.handleName? = some [101, 114, 114, 111, 114] := by
  unfold handD DataW.handleName?
  simp
def allCodes : List Nat := [1, 2, 3, 4, 5, 6, 7, 8, 9, 10, 11]
def fullL : List (String × DataW Unit) := ("errors.errorType", handD) :: sentL allCodes
theorem typesSize : Tryz.prog.types.size = 306 := by kernel_rfl
theorem oneErrRow : ((List.range 306).filter fun t => Tryz.prog.rowNamed t [101, 114, 114, 111, 114]) = [31] := by kernel_rfl
theorem rtypeCut : (Tryz.prog.cutTypes.find? (·.1 == "internal/reflectlite.rtype")).map (·.2) = some 214 := by kernel_rfl
theorem errTypeVar : Tryz.prog.globalNamed "errors.errorType" = some 11 := by kernel_rfl
theorem errHandle : typeHandle Tryz.prog 31 = .pointer (some ⟨15, 31, none⟩) := by kernel_rfl
theorem all_of {W : World} (h : laidMetH Tryz.prog fullL W) : ∃ ad : Nat → Addr, AllErrs W ad := by
  obtain ⟨h1, h2⟩ := laidMetH_iff.1 h
  have e1 : (fullL.filter fun x => x.2.handleName?.isNone) = sentL allCodes := by
    unfold fullL
    rw [List.filter_cons_of_neg (by simp [handName]), List.filter_eq_self.2 fun x hx => by
      obtain ⟨c, _, rfl⟩ := List.mem_map.1 hx
      simp [sent_noHandle]]
  rw [e1] at h1
  obtain ⟨ad, s1, s2⟩ := sents_ad allCodes (by decide) h1
  have hin : ∀ c, 1 ≤ c ∧ c ≤ 11 → c ∈ allCodes := fun c hc => by
    rcases (by omega : c = 1 ∨ c = 2 ∨ c = 3 ∨ c = 4 ∨ c = 5 ∨ c = 6 ∨ c = 7 ∨ c = 8 ∨ c = 9 ∨ c = 10 ∨ c = 11) with rfl | rfl | rfl | rfl | rfl | rfl | rfl | rfl | rfl | rfl | rfl <;> decide
  refine ⟨ad, fun c hc => (s1 c (hin c hc)).var, fun c hc => (s1 c (hin c hc)).row, fun c d hc hd e => s2 c (hin c hc) d (hin d hd) e, ?_⟩
  have hm : ("errors.errorType", handD) ∈ fullL.filter fun x => x.2.handleName?.isSome := List.mem_filter.2 ⟨by simp [fullL], by simp [handName]⟩
  have h3 := h2 _ hm
  have hf : handD.funcsIn? = none := by
    unfold handD DataW.funcsIn?
    simp
  simp only [hf] at h3
  obtain ⟨name, u, ty, g1, g2, g3, g4, g5⟩ := h3
  obtain rfl := Option.some.inj (handName.symm.trans g1)
  obtain rfl := Option.some.inj (rtypeCut.symm.trans g2)
  have hm2 : ty ∈ (List.range 306).filter fun t => Tryz.prog.rowNamed t [101, 114, 114, 111, 114] := List.mem_filter.2 ⟨List.mem_range.2 (by rw [← typesSize]; exact g3), g4⟩
  rw [oneErrRow, List.mem_singleton] at hm2
  subst hm2
  rw [errHandle] at g5
  simpa using World.var?_cell errTypeVar g5 0
end Go.Proofs.YtngdpnlgnpdkcaaGreatDoor
