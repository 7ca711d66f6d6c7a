/- Texts of one proof, put together: X1 XA XB SA. -/
import Derived.Test.YtoaoienfggjepaaGreatDoorFL06
import Derived.Test.YtoaoienfggjepaaGreatDoorFL11
import Derived.Test.YtoaoienfggjepaaGreatDoorFL14
import Derived.Test.YtoaoienfggjepaaGreatDoorFL17
import Derived.Test.YtoaoienfggjepaaGreatDoorFL19
import Derived.Test.YtoaoienfggjepaaGreatDoorFL20
import Derived.LaidHandle

/- FixClosed: the law walked. -/
namespace Go.Proofs.YtoaoienfggjepaaGreatDoor
set_option linter.unusedSimpArgs false
set_option linter.unusedVariables false
open Go Go.RowKit

end Go.Proofs.YtoaoienfggjepaaGreatDoor



/- FixLeast: the law walked, where the program is not well. -/
namespace Go.Proofs.YtoaoienfggjepaaGreatDoor
set_option linter.unusedSimpArgs false
set_option linter.unusedVariables false
open Go Go.RowKit

set_option maxRecDepth 100000 in
set_option maxHeartbeats 6400000 in
theorem fixleastlaw_no (a1 a2 a3 : Option Addr) (c1 c2 c3 : Nat) (P : PP) (hv : Value) (has : List (List Int)) (w : World) (ad : Nat → Addr) (hE : ErrsP w ad) (hA : AllErrs w ad) (hS : ErrS w ad) (hP : ProgR w w.heap.size (.slice a1 P.vars.length c1) (.slice a2 P.funs.length c2) (.slice a3 P.stmts.length c3) P) (hh : SetsR w w.heap.size hv has) (hw : ¬ P.Well) :
    Calls Tryz.prog 7 #[pval a1 a2 a3 c1 c2 c3 P, hv] w fun e w' => e = .returned (.bool true) ∧ Ext w w' := by
  have Hw := hid hw
  clear hw
  obtain ⟨ah, ch, rfl⟩ := hh.form
  have hhl := hh.len
  have HH := hid hh
  have HAA := hid hA
  clear hh hA
  have HE := hid hE
  have HS := hid hS
  have HP := hid hP
  obtain ⟨W1, hW1⟩ : ∃ W1, W1 = w.alloc (.cells (pcells a1 a2 a3 c1 c2 c3 P) 39) := ⟨_, rfl⟩
  have HX1 : Hid (Ext w W1) := hid (by rw [hW1]; exact (Ext.refl _).alloc _)
  have HB1 : Hid (Blk W1 w.heap.size (pcells a1 a2 a3 c1 c2 c3 P) 39) := hid (by rw [hW1]; exact Blk.new _ _ _)
  have HR := hid (fixed_any W1 ad (hE.ext HX1.out) (hS.ext HX1.out))
  have HW1 : Hid (W1 = w.alloc (.cells #[.slice a1 P.vars.length c1, .slice a2 P.funs.length c2, .slice a3 P.stmts.length c3] 39)) := hid (by rw [hW1]; rfl)
  unfold pval
  clear hE hS hP hW1
  go_enter Tryz.func7, Tryz.ntmps7
  go_wp2_with fail
  rw [← HW1.out]
  refine HR.out.mono ?_
  intro e w1 hx
  obtain ⟨rfl, hx1⟩ := hx
  have HL := hid (large_q a1 a2 a3 c1 c2 c3 25 (by omega) P w1 w.heap.size (HP.out.ext (HX1.out.trans hx1)))
  rw [show ((25 : Nat) : Int) = (25 : Int) from rfl] at HL
  unfold pval at HL
  have HX1' := hid (HX1.out.trans hx1)
  have HBp1 := hid (HB1.out.ext hx1)
  have p0 := HBp1.out.av 0 rfl
  have p1 := HBp1.out.av 1 rfl
  have p2 := HBp1.out.av 2 rfl
  simp only [pcells, List.getElem_toArray, List.getElem_cons_zero, List.getElem_cons_succ] at p0 p1 p2
  clear HR hx1
  go_wp2_with fail
  refine HL.out.mono ?_
  intro e w2 hx
  obtain ⟨r, rfl, hr, hsm, hx2⟩ := hx
  have HX2 := hid (HX1'.out.trans hx2)
  have HBp := hid (HBp1.out.ext hx2)
  clear HL hx2 p0 p1 p2
  rcases (by omega : r = 1 ∨ r = 0) with rfl | rfl
  · clear hsm hr
    go_wp2
    go_ret
    exact ⟨rfl, HX2.out⟩
  have HSm := hid (hsm rfl).1
  have HQl := hid (hsm rfl).2
  clear hsm hr
  have HL := hid (largesets_any (.slice ah has.length ch) has w2 w.heap.size (HH.out.ext HX2.out))
  go_wp2_with fail
  refine HL.out.mono ?_
  intro e w2' hx
  obtain ⟨r, rfl, hr, hsm, hx2⟩ := hx
  have HX2' := hid (HX2.out.trans hx2)
  have HBp' := hid (HBp.out.ext hx2)
  clear HL hx2
  rcases (by omega : r = 1 ∨ r = 0) with rfl | rfl
  · clear hsm hr
    go_wp2
    go_ret
    exact ⟨rfl, HX2'.out⟩
  have HFew := hid (hsm rfl)
  clear hsm hr
  have hz1 : ∀ s ∈ P.vars, s.size ≤ 1000000 := fun s hs => by have := HSm.out.vs s hs; omega
  have hz2 : ∀ s ∈ P.names, s.size ≤ 1000000 := fun s hs => by
    obtain ⟨f, hf, rfl⟩ := List.mem_map.1 hs
    have := (HSm.out.fs f hf).1
    omega
  have Hz1 := hid hz1
  have Hz2 := hid hz2
  have HPS := hid (show PS0 w2' w2'.heap.size ad a1 a2 a3 c1 c2 c3 P from ⟨HE.out.ext HX2'.out, (HP.out.ext HX2'.out).lift HX2'.out.size, Hz1.out, Hz2.out⟩)
  clear hz1 hz2
  have HQ := hid (ownprogram_any a1 a2 a3 c1 c2 c3 P w2' HPS.out.prog HSm.out)
  have p0 := HBp'.out.av 0 rfl
  have p1 := HBp'.out.av 1 rfl
  have p2 := HBp'.out.av 2 rfl
  simp only [pcells, List.getElem_toArray, List.getElem_cons_zero, List.getElem_cons_succ] at p0 p1 p2
  unfold pval at HQ
  go_wp2_with fail
  refine HQ.out.mono ?_
  intro e w3 hx
  obtain ⟨hx3, b1, b2, b3, d1, d2, d3, rfl, hq⟩ := hx
  have HX3 := hid (HX2'.out.trans hx3)
  have Hx3 := hid hx3
  have Hq3 := hid hq
  clear HQ hx3 hq p0 p1 p2
  obtain ⟨W9, hW9⟩ : ∃ W9, W9 = w3.alloc (.cells (pcells b1 b2 b3 d1 d2 d3 P) 39) := ⟨_, rfl⟩
  have hx9 : Ext w3 W9 := by rw [hW9]; exact (Ext.refl _).alloc _
  have HXw := hid (HX3.out.trans hx9)
  have Hw9 := hid (Hx3.out.trans hx9)
  have HB6 : Hid (Blk W9 w3.heap.size (pcells b1 b2 b3 d1 d2 d3 P) 39) := hid (by rw [hW9]; exact Blk.new _ _ _)
  have HW9 : Hid (W9 = w3.alloc (.cells #[.slice b1 P.vars.length d1, .slice b2 P.funs.length d2, .slice b3 P.stmts.length d3] 39)) := hid (by rw [hW9]; rfl)
  have HPP9 := hid (show PS0 W9 W9.heap.size ad b1 b2 b3 d1 d2 d3 P from ⟨HE.out.ext HXw.out, (Hq3.out.ext hx9).lift hx9.size, Hz1.out, Hz2.out⟩)
  have HS9 := hid (HS.out.ext HXw.out)
  clear hx9 hW9
  have HBp9 : Hid (Blk W9 w.heap.size (pcells a1 a2 a3 c1 c2 c3 P) 39) := hid (HBp'.out.ext Hw9.out)
  have HPp9 := hid (HPS.out.on (Nat.le_refl _) Hw9.out)
  have HA9 := hid (HAA.out.ext HXw.out)
  have HF := hid (rfprog_all a1 a2 a3 c1 c2 c3 P W9 HPp9.out.prog Hz1.out Hz2.out)
  have p0 := HBp9.out.av 0 rfl
  have p1 := HBp9.out.av 1 rfl
  have p2 := HBp9.out.av 2 rfl
  simp only [pcells, List.getElem_toArray, List.getElem_cons_zero, List.getElem_cons_succ] at p0 p1 p2
  rw [HW9.out] at p0 p1 p2
  unfold pval at HF
  go_wp2_with fail
  rw [← HW9.out]
  refine HF.out.mono ?_
  intro e w5 hx
  obtain ⟨hx5, c, p, rfl, hfi⟩ := hx
  have Hfi := hid hfi
  obtain ⟨W6, hW6⟩ : ∃ W6, W6 = w5.alloc (.cells #[.int .i64 (c : Int), .int .i64 p] 63) := ⟨_, rfl⟩
  have hx6 : Ext w5 W6 := by rw [hW6]; exact (Ext.refl _).alloc _
  have HW6 := hid hW6
  have HX6 := hid (hx5.trans hx6)
  have HBf : Hid (Blk W6 w5.heap.size #[.int .i64 (c : Int), .int .i64 p] 63) := hid (by rw [hW6]; exact Blk.new _ _ _)
  have Hbf : Hid (W9.heap.size ≤ w5.heap.size) := hid hx5.size
  clear HF hfi hx5 hx6 hW6 p0 p1 p2
  have HL := hid (fixleast_no b1 b2 b3 d1 d2 d3 P W6 W6.heap.size ad (HPP9.out.on (Nat.le_refl _) HX6.out) Hw.out)
  have g0 := (HB6.out.ext HX6.out).av 0 rfl
  have g1 := (HB6.out.ext HX6.out).av 1 rfl
  have g2 := (HB6.out.ext HX6.out).av 2 rfl
  simp only [pcells, List.getElem_toArray, List.getElem_cons_zero, List.getElem_cons_succ] at g0 g1 g2
  rw [HW6.out] at g0 g1 g2
  unfold pval at HL
  go_wp2_with fail
  rw [← HW6.out]
  refine HL.out.mono ?_
  intro e w7 hx
  obtain ⟨t, x, rfl, hei, hx7⟩ := hx
  obtain ⟨c', p', hf', hc0, hcode⟩ := code_chk hei Hw.out
  obtain ⟨rfl, rfl⟩ := Hfi.out.uniq hf'
  have Hcode := hid hcode
  have Hx7 := hid hx7
  have HZ := hid (HX6.out.trans hx7)
  have f0 := (HBf.out.ext Hx7.out).av 0 rfl
  have f1 := (HBf.out.ext Hx7.out).av 1 rfl
  simp only [List.getElem_toArray, List.getElem_cons_zero, List.getElem_cons_succ] at f0 f1
  have c01 : 0 < (c : Int) := by omega
  have c00 : ((c : Int) == 0) = false := beq_eq_false_iff_ne.2 (by omega)
  have HOS := fun w1 (x : Ext W9 w1) => hid (ownsets_at (HH.out.ext HXw.out) HFew.out w1 x)
  have HRo := fun w1 a k (x : Ext W9 w1) (_ : SetsR w1 w1.heap.size (.slice a has.length k) has) => hid (fixround_no b1 b2 b3 d1 d2 d3 P a has.length k w1 w1.heap.size ad (HPP9.out.on (Nat.le_refl _) x) (Nat.le_refl _) Hw.out)
  unfold pval at HRo
  clear HL hei hf' hcode hx7 hc0 g0 g1 g2
  go_wp2
  clear f0 f1
  have g0 := (HB6.out.ext HZ.out).kc (X := fun _ => False) (fun e => e) 0 rfl
  have g1 := (HB6.out.ext HZ.out).kc (X := fun _ => False) (fun e => e) 1 rfl
  have g2 := (HB6.out.ext HZ.out).kc (X := fun _ => False) (fun e => e) 2 rfl
  simp only [pcells, List.getElem_toArray, List.getElem_cons_zero, List.getElem_cons_succ] at g0 g1 g2
  refine wp_flowT (fun _ => False) (by kernel_rfl) (by kernel_rfl) ?_
  repeat (apply FlowT.d; (intro w1 hk; unfold does; go_simp; (try go_ints); (first | exact DetR.mk | (simp only [↓IntWalk.iteOmega, Oper.doesUpon_value]; exact DetR.mk) | (simp only [↓IntWalk.iteOmega]; go_simp; (try go_ints); exact DetR.mk))); simp only [Act.put, List.setIfInBounds_toArray, List.set_cons_zero, List.set_cons_succ])
  refine FlowT.s (fun v w' => (∃ a c, v = .slice a has.length c) ∧ SetsR w' w'.heap.size v has ∧ Ext w7 w') 2 rfl (by kernel_rfl) (fun _ _ _ ⟨h1, h2, h3⟩ y => ⟨h1, (h2.ext y).lift y.size, h3.trans y⟩) (fun wa hC hk2 => ?_) ?_
  · unfold does
    go_simp
    refine CallR.act ((HOS wa (HZ.out.trans hC)).out.mono ?_)
    rintro e wb ⟨a, c, rfl, hs, hx⟩
    exact ⟨_, rfl, hk2.trans (hx.keep _), ⟨a, c, rfl⟩, hs, hC.trans hx⟩
  rintro _ ⟨_, ⟨ao, co, rfl⟩, _, _⟩
  simp only [Act.put, List.setIfInBounds_toArray, List.set_cons_zero, List.set_cons_succ]
  refine FlowT.s (fun v w' => (∃ t x, v = .tuple #[.slice none 0 0, .iface t (.pointer (some x))]) ∧ (∀ t x, v = .tuple #[.slice none 0 0, .iface t (.pointer (some x))] → ErrIs ad P w' (.iface t (.pointer (some x)))) ∧ Ext w7 w') 3 rfl (by kernel_rfl) (fun _ _ _ ⟨h1, h2, h3⟩ y => ⟨h1, fun t x e => (h2 t x e).ext y, h3.trans y⟩) (fun wa hC hk2 => ?_) ?_
  · obtain ⟨_, hs, hx0⟩ := hC
    have HCa := HRo wa _ _ (HZ.out.trans hx0) hs
    unfold does
    go_simp
    refine CallR.act (HCa.out.mono ?_)
    rintro e wb ⟨t, x, rfl, hq, hx⟩
    refine ⟨_, rfl, hk2.trans (hx.keep _), ⟨t, x, rfl⟩, fun t' x' e => ?_, hx0.trans hx⟩
    obtain ⟨rfl, rfl⟩ : t = t' ∧ x = x' := by simpa using e
    exact hq
  rintro _ ⟨_, ⟨te, xe, rfl⟩, _, _⟩
  simp only [Act.put, List.setIfInBounds_toArray, List.set_cons_zero, List.set_cons_succ]
  repeat (apply FlowT.d; (intro w1 hk; unfold does; go_simp; (try go_ints); (first | exact DetR.mk | (simp only [↓IntWalk.iteOmega, Oper.doesUpon_value]; exact DetR.mk) | (simp only [↓IntWalk.iteOmega]; go_simp; (try go_ints); exact DetR.mk))); simp only [Act.put, List.setIfInBounds_toArray, List.set_cons_zero, List.set_cons_succ])
  refine FlowT.fin fun w8 hC8 hk8 => ?_
  obtain ⟨_, hei8, hx8⟩ := hC8
  have hei8 := hei8 _ _ rfl
  obtain ⟨c', p', hf', hc0, hcode⟩ := code_chk hei8 Hw.out
  obtain ⟨rfl, rfl⟩ := Hfi.out.uniq hf'
  have Hcode8 := hid hcode
  have Hx8 := hid (Hx7.out.trans hx8)
  have Hx78 := hid hx8
  have HFa := hid (faulted2_at (w := w8) (HA9.out.ext (HX6.out.trans Hx8.out)) fun w1 x hA => Hcode.out w1 (hx8.trans x) hA)
  clear HOS HRo g0 g1 g2 hei8 hf' hcode hx8 hk8 hc0
  have f0 := (HBf.out.ext Hx8.out).av 0 rfl
  have f1 := (HBf.out.ext Hx8.out).av 1 rfl
  simp only [List.getElem_toArray, List.getElem_cons_zero, List.getElem_cons_succ] at f0 f1
  go_wp2_with fail
  refine HFa.out.mono ?_
  intro e w9 hx
  obtain ⟨rfl, hx9⟩ := hx
  have Hx9 := hid (Hx8.out.trans hx9)
  have HFb := hid (faulted2_at (w := w9) (HA9.out.ext (HX6.out.trans Hx9.out)) fun w1 x hA => Hcode8.out w1 (hx9.trans x) hA)
  clear HFa hx9 f0 f1
  have f0 := (HBf.out.ext Hx9.out).av 0 rfl
  have f1 := (HBf.out.ext Hx9.out).av 1 rfl
  simp only [List.getElem_toArray, List.getElem_cons_zero, List.getElem_cons_succ] at f0 f1
  go_wp2_with fail
  refine HFb.out.mono ?_
  intro e w10 hx
  obtain ⟨rfl, hx10⟩ := hx
  have Hx10 := hid (Hx9.out.trans hx10)
  clear HFb hx10 f0 f1
  go_wp2
  go_ret
  exact ⟨rfl, HXw.out.trans (HX6.out.trans Hx10.out)⟩
end Go.Proofs.YtoaoienfggjepaaGreatDoor



/- FixLeast: the law walked, where the program is well. -/
namespace Go.Proofs.YtoaoienfggjepaaGreatDoor
set_option linter.unusedSimpArgs false
set_option linter.unusedVariables false
open Go Go.RowKit

theorem SetsIs.keep {X : Nat → Prop} {ad : Nat → Addr} {P : PP} {has : List (List Int)} {w w' : World} {v : Value} (h : SetsIs ad P has w v) (k : Keep X w w') (hX : ∀ i, X i → ∃ c, Blk w i c 63) : SetsIs ad P has w' v := by
  rcases h with h | h | ⟨h1, i, l, b, h2, h3, h4, h5, h6⟩
  · exact .inl h
  · exact .inr (.inl h)
  · exact .inr (.inr ⟨h1, i, l, b, h2, h3, h4, h5, h6.keep k fun e => by
      obtain ⟨d, hd⟩ := hX b e
      exact Blk.ty_ne h6 hd (by decide) rfl⟩)
set_option maxRecDepth 100000 in
set_option maxHeartbeats 6400000 in
theorem fixleastlaw_bad (a1 a2 a3 : Option Addr) (c1 c2 c3 : Nat) (P : PP) (hv : Value) (has : List (List Int)) (w : World) (ad : Nat → Addr) (hE : ErrsP w ad) (hA : AllErrs w ad) (hS : ErrS w ad) (hP : ProgR w w.heap.size (.slice a1 P.vars.length c1) (.slice a2 P.funs.length c2) (.slice a3 P.stmts.length c3) P) (hh : SetsR w w.heap.size hv has) (hw : P.Well) (hbad : ¬ (has.length = P.nodesV ∧ ∀ l ∈ has, P.setE l = 0)) :
    Calls Tryz.prog 7 #[pval a1 a2 a3 c1 c2 c3 P, hv] w fun e w' => e = .returned (.bool true) ∧ Ext w w' := by
  have Hbad := hid hbad
  clear hbad
  have Hw := hid hw
  clear hw
  obtain ⟨ah, ch, rfl⟩ := hh.form
  have hhl := hh.len
  have HH := hid hh
  have HAA := hid hA
  clear hh hA
  have HE := hid hE
  have HS := hid hS
  have HP := hid hP
  obtain ⟨W1, hW1⟩ : ∃ W1, W1 = w.alloc (.cells (pcells a1 a2 a3 c1 c2 c3 P) 39) := ⟨_, rfl⟩
  have HX1 : Hid (Ext w W1) := hid (by rw [hW1]; exact (Ext.refl _).alloc _)
  have HB1 : Hid (Blk W1 w.heap.size (pcells a1 a2 a3 c1 c2 c3 P) 39) := hid (by rw [hW1]; exact Blk.new _ _ _)
  have HR := hid (fixed_any W1 ad (hE.ext HX1.out) (hS.ext HX1.out))
  have HW1 : Hid (W1 = w.alloc (.cells #[.slice a1 P.vars.length c1, .slice a2 P.funs.length c2, .slice a3 P.stmts.length c3] 39)) := hid (by rw [hW1]; rfl)
  unfold pval
  clear hE hS hP hW1
  go_enter Tryz.func7, Tryz.ntmps7
  go_wp2_with fail
  rw [← HW1.out]
  refine HR.out.mono ?_
  intro e w1 hx
  obtain ⟨rfl, hx1⟩ := hx
  have HL := hid (large_q a1 a2 a3 c1 c2 c3 25 (by omega) P w1 w.heap.size (HP.out.ext (HX1.out.trans hx1)))
  rw [show ((25 : Nat) : Int) = (25 : Int) from rfl] at HL
  unfold pval at HL
  have HX1' := hid (HX1.out.trans hx1)
  have HBp1 := hid (HB1.out.ext hx1)
  have p0 := HBp1.out.av 0 rfl
  have p1 := HBp1.out.av 1 rfl
  have p2 := HBp1.out.av 2 rfl
  simp only [pcells, List.getElem_toArray, List.getElem_cons_zero, List.getElem_cons_succ] at p0 p1 p2
  clear HR hx1
  go_wp2_with fail
  refine HL.out.mono ?_
  intro e w2 hx
  obtain ⟨r, rfl, hr, hsm, hx2⟩ := hx
  have HX2 := hid (HX1'.out.trans hx2)
  have HBp := hid (HBp1.out.ext hx2)
  clear HL hx2 p0 p1 p2
  rcases (by omega : r = 1 ∨ r = 0) with rfl | rfl
  · clear hsm hr
    go_wp2
    go_ret
    exact ⟨rfl, HX2.out⟩
  have HSm := hid (hsm rfl).1
  have HQl := hid (hsm rfl).2
  clear hsm hr
  have HL := hid (largesets_any (.slice ah has.length ch) has w2 w.heap.size (HH.out.ext HX2.out))
  go_wp2_with fail
  refine HL.out.mono ?_
  intro e w2' hx
  obtain ⟨r, rfl, hr, hsm, hx2⟩ := hx
  have HX2' := hid (HX2.out.trans hx2)
  have HBp' := hid (HBp.out.ext hx2)
  clear HL hx2
  rcases (by omega : r = 1 ∨ r = 0) with rfl | rfl
  · clear hsm hr
    go_wp2
    go_ret
    exact ⟨rfl, HX2'.out⟩
  have HFew := hid (hsm rfl)
  clear hsm hr
  have hz1 : ∀ s ∈ P.vars, s.size ≤ 1000000 := fun s hs => by have := HSm.out.vs s hs; omega
  have hz2 : ∀ s ∈ P.names, s.size ≤ 1000000 := fun s hs => by
    obtain ⟨f, hf, rfl⟩ := List.mem_map.1 hs
    have := (HSm.out.fs f hf).1
    omega
  have Hz1 := hid hz1
  have Hz2 := hid hz2
  have HPS := hid (show PS0 w2' w2'.heap.size ad a1 a2 a3 c1 c2 c3 P from ⟨HE.out.ext HX2'.out, (HP.out.ext HX2'.out).lift HX2'.out.size, Hz1.out, Hz2.out⟩)
  clear hz1 hz2
  have HQ := hid (ownprogram_any a1 a2 a3 c1 c2 c3 P w2' HPS.out.prog HSm.out)
  have p0 := HBp'.out.av 0 rfl
  have p1 := HBp'.out.av 1 rfl
  have p2 := HBp'.out.av 2 rfl
  simp only [pcells, List.getElem_toArray, List.getElem_cons_zero, List.getElem_cons_succ] at p0 p1 p2
  unfold pval at HQ
  go_wp2_with fail
  refine HQ.out.mono ?_
  intro e w3 hx
  obtain ⟨hx3, b1, b2, b3, d1, d2, d3, rfl, hq⟩ := hx
  have HX3 := hid (HX2'.out.trans hx3)
  have Hx3 := hid hx3
  have Hq3 := hid hq
  clear HQ hx3 hq p0 p1 p2
  obtain ⟨W9, hW9⟩ : ∃ W9, W9 = w3.alloc (.cells (pcells b1 b2 b3 d1 d2 d3 P) 39) := ⟨_, rfl⟩
  have hx9 : Ext w3 W9 := by rw [hW9]; exact (Ext.refl _).alloc _
  have HXw := hid (HX3.out.trans hx9)
  have Hw9 := hid (Hx3.out.trans hx9)
  have HB6 : Hid (Blk W9 w3.heap.size (pcells b1 b2 b3 d1 d2 d3 P) 39) := hid (by rw [hW9]; exact Blk.new _ _ _)
  have HW9 : Hid (W9 = w3.alloc (.cells #[.slice b1 P.vars.length d1, .slice b2 P.funs.length d2, .slice b3 P.stmts.length d3] 39)) := hid (by rw [hW9]; rfl)
  have HPP9 := hid (show PS0 W9 W9.heap.size ad b1 b2 b3 d1 d2 d3 P from ⟨HE.out.ext HXw.out, (Hq3.out.ext hx9).lift hx9.size, Hz1.out, Hz2.out⟩)
  have HS9 := hid (HS.out.ext HXw.out)
  clear hx9 hW9
  have HBp9 : Hid (Blk W9 w.heap.size (pcells a1 a2 a3 c1 c2 c3 P) 39) := hid (HBp'.out.ext Hw9.out)
  have HPp9 := hid (HPS.out.on (Nat.le_refl _) Hw9.out)
  have HA9 := hid (HAA.out.ext HXw.out)
  have HF := hid (rfprog_all a1 a2 a3 c1 c2 c3 P W9 HPp9.out.prog Hz1.out Hz2.out)
  have p0 := HBp9.out.av 0 rfl
  have p1 := HBp9.out.av 1 rfl
  have p2 := HBp9.out.av 2 rfl
  simp only [pcells, List.getElem_toArray, List.getElem_cons_zero, List.getElem_cons_succ] at p0 p1 p2
  rw [HW9.out] at p0 p1 p2
  unfold pval at HF
  go_wp2_with fail
  rw [← HW9.out]
  refine HF.out.mono ?_
  intro e w5 hx
  obtain ⟨hx5, c, p, rfl, hfi⟩ := hx
  have Hfi := hid hfi
  obtain ⟨W6, hW6⟩ : ∃ W6, W6 = w5.alloc (.cells #[.int .i64 (c : Int), .int .i64 p] 63) := ⟨_, rfl⟩
  have hx6 : Ext w5 W6 := by rw [hW6]; exact (Ext.refl _).alloc _
  have HW6 := hid hW6
  have HX6 := hid (hx5.trans hx6)
  have HBf : Hid (Blk W6 w5.heap.size #[.int .i64 (c : Int), .int .i64 p] 63) := hid (by rw [hW6]; exact Blk.new _ _ _)
  have Hbf : Hid (W9.heap.size ≤ w5.heap.size) := hid hx5.size
  clear HF hfi hx5 hx6 hW6 p0 p1 p2
  obtain ⟨rfl, rfl⟩ := Hfi.out.uniq (show FaultIs P 0 (-1) from .inr (.inl ⟨Hw.out.1, Hw.out.2, rfl, rfl⟩))
  have HW6z : Hid (W6 = w5.alloc (.cells #[.int .i64 0, .int .i64 (-1)] 63)) := hid HW6.out
  have HBfz : Hid (Blk W6 w5.heap.size #[.int .i64 0, .int .i64 (-1)] 63) := hid HBf.out
  obtain ⟨n, S, hL⟩ := least_exists Hw.out
  have hgood := hL.good Hw.out
  have HSl := hid hgood.2.1
  have HSk := hid (show ∀ l ∈ S, chkE l = 0 from fun l hl => (hgood.ok.ok l hl).1)
  have HLe := hid hL
  have hn12 := hL.few Hw.out
  have hS126 : S.length ≤ 126 := by
    have h1 := Hw.out.few
    have h2 := nodesV_le P Hw.out
    have := HSl.out
    omega
  have HL := hid (fixleast_ok b1 b2 b3 d1 d2 d3 P W6 ad ((HPP9.out.on (Nat.le_refl _) HX6.out).pw Hw.out) (HS9.out.ext HX6.out) n S hL)
  rw [← HSl.out] at HL
  have g0 := (HB6.out.ext HX6.out).av 0 rfl
  have g1 := (HB6.out.ext HX6.out).av 1 rfl
  have g2 := (HB6.out.ext HX6.out).av 2 rfl
  simp only [pcells, List.getElem_toArray, List.getElem_cons_zero, List.getElem_cons_succ] at g0 g1 g2
  rw [HW6z.out] at g0 g1 g2
  unfold pval at HL
  clear hgood hL HW6 HBf Hfi
  go_wp2_with fail
  rw [← HW6z.out]
  refine HL.out.mono ?_
  intro e w7 hx
  obtain ⟨a, c', rfl, hs, hx7⟩ := hx
  have HY7 := hid hx7
  have Hs7 := hid hs
  have HZ7 := hid (HX6.out.trans hx7)
  have HR := hid (rleastof_any a1 a2 a3 c1 c2 c3 P w7 (HPp9.out.on (Nat.le_refl _) HZ7.out).prog Hw.out n S HLe.out)
  rw [← HSl.out] at HR
  have f0 := (HBfz.out.ext hx7).av 0 rfl
  have f1 := (HBfz.out.ext hx7).av 1 rfl
  simp only [List.getElem_toArray, List.getElem_cons_zero, List.getElem_cons_succ] at f0 f1
  have p0 := (HBp9.out.ext HZ7.out).av 0 rfl
  have p1 := (HBp9.out.ext HZ7.out).av 1 rfl
  have p2 := (HBp9.out.ext HZ7.out).av 2 rfl
  simp only [pcells, List.getElem_toArray, List.getElem_cons_zero, List.getElem_cons_succ] at p0 p1 p2
  unfold pval at HR
  clear HL hs hx7 g0 g1 g2
  go_wp2_with fail
  refine HR.out.mono ?_
  intro e w8 hx
  obtain ⟨a', c'', rfl, hs', hx8⟩ := hx
  have HY8 := hid (HY7.out.trans hx8)
  have HSS := hid (samesets_any (.slice a S.length c') (.slice a' S.length c'') S S w8 w8.heap.size ((Hs7.out.ext hx8).lift hx8.size) hs' HSk.out HSk.out)
  rw [decide_eq_true (rfl : S = S)] at HSS
  clear HR hs' hx8 p0 p1 p2 f0 f1
  go_wp2_with fail
  refine HSS.out.mono ?_
  intro e w9 hx
  obtain ⟨rfl, hx9⟩ := hx
  have HY := hid (HY8.out.trans hx9)
  have HZ := hid (HX6.out.trans HY.out)
  have HOS := fun w1 (x : Ext W9 w1) => hid (ownsets_at (HH.out.ext HXw.out) HFew.out w1 x)
  clear HSS hx9 Hs7
  have HRo := fun w1 a k (x : Ext W9 w1) (hs : SetsR w1 w1.heap.size (.slice a has.length k) has) => hid (fixround_bad b1 b2 b3 d1 d2 d3 P a k has w1 ad ((HPP9.out.on (Nat.le_refl _) x).pw Hw.out) (HS9.out.ext x) hs Hbad.out)
  unfold pval at HRo
  go_wp2
  have g0 := (HB6.out.ext HZ.out).kc (X := fun _ => False) (fun e => e) 0 rfl
  have g1 := (HB6.out.ext HZ.out).kc (X := fun _ => False) (fun e => e) 1 rfl
  have g2 := (HB6.out.ext HZ.out).kc (X := fun _ => False) (fun e => e) 2 rfl
  simp only [pcells, List.getElem_toArray, List.getElem_cons_zero, List.getElem_cons_succ] at g0 g1 g2
  refine wp_flowT (fun _ => False) (by kernel_rfl) (by kernel_rfl) ?_
  repeat (apply FlowT.d; (intro w1 hk; unfold does; go_simp; (try go_ints); (first | exact DetR.mk | (simp only [↓IntWalk.iteOmega, Oper.doesUpon_value]; exact DetR.mk) | (simp only [↓IntWalk.iteOmega]; go_simp; (try go_ints); exact DetR.mk))); simp only [Act.put, List.setIfInBounds_toArray, List.set_cons_zero, List.set_cons_succ])
  refine FlowT.s (fun v w' => (∃ a c, v = .slice a has.length c) ∧ SetsR w' w'.heap.size v has ∧ Ext w9 w') 2 rfl (by kernel_rfl) (fun _ _ _ ⟨h1, h2, h3⟩ y => ⟨h1, (h2.ext y).lift y.size, h3.trans y⟩) (fun wa hC hk2 => ?_) ?_
  · unfold does
    go_simp
    refine CallR.act ((HOS wa (HZ.out.trans hC)).out.mono ?_)
    rintro e wb ⟨a, c, rfl, hs, hx⟩
    exact ⟨_, rfl, hk2.trans (hx.keep _), ⟨a, c, rfl⟩, hs, hC.trans hx⟩
  rintro _ ⟨_, ⟨ao, co, rfl⟩, _, _⟩
  simp only [Act.put, List.setIfInBounds_toArray, List.set_cons_zero, List.set_cons_succ]
  refine FlowT.s (fun v w' => (∃ t x, v = .tuple #[.slice none 0 0, .iface t (.pointer (some x))]) ∧ (∀ t x, v = .tuple #[.slice none 0 0, .iface t (.pointer (some x))] → SetsIs ad P has w' (.iface t (.pointer (some x)))) ∧ Ext w9 w') 3 rfl (by kernel_rfl) (fun _ _ _ ⟨h1, h2, h3⟩ y => ⟨h1, fun t x e => (h2 t x e).ext y, h3.trans y⟩) (fun wa hC hk2 => ?_) ?_
  · obtain ⟨_, hs, hx0⟩ := hC
    have HCa := HRo wa _ _ (HZ.out.trans hx0) hs
    unfold does
    go_simp
    refine CallR.act (HCa.out.mono ?_)
    rintro e wb ⟨t, x, rfl, hq, hx⟩
    refine ⟨_, rfl, hk2.trans (hx.keep _), ⟨t, x, rfl⟩, fun t' x' e => ?_, hx0.trans hx⟩
    obtain ⟨rfl, rfl⟩ : t = t' ∧ x = x' := by simpa using e
    exact hq
  rintro _ ⟨_, ⟨te, xe, rfl⟩, _, _⟩
  simp only [Act.put, List.setIfInBounds_toArray, List.set_cons_zero, List.set_cons_succ]
  repeat (apply FlowT.d; (intro w1 hk; unfold does; go_simp; (try go_ints); (first | exact DetR.mk | (simp only [↓IntWalk.iteOmega, Oper.doesUpon_value]; exact DetR.mk) | (simp only [↓IntWalk.iteOmega]; go_simp; (try go_ints); exact DetR.mk))); simp only [Act.put, List.setIfInBounds_toArray, List.set_cons_zero, List.set_cons_succ])
  refine FlowT.fin fun w10 hC10 hk10 => ?_
  obtain ⟨_, hei, hx10⟩ := hC10
  have Hei := hid (hei _ _ rfl)
  have Hx10 := hid hx10
  clear HOS HRo g0 g1 g2 hei hx10 hk10
  have HY10 := hid (HY.out.trans Hx10.out)
  have HZ10 := hid (HX6.out.trans HY10.out)
  have HSf := hid (rsetsfault_any a1 a2 a3 c1 c2 c3 P (.slice ah has.length ch) has w10 w10.heap.size (HPp9.out.on (Nat.le_refl _) HZ10.out).prog Hw.out ((HH.out.ext (HXw.out.trans HZ10.out)).lift (HXw.out.trans HZ10.out).size))
  unfold pval at HSf
  have p0 := (HBp9.out.ext HZ10.out).av 0 rfl
  have p1 := (HBp9.out.ext HZ10.out).av 1 rfl
  have p2 := (HBp9.out.ext HZ10.out).av 2 rfl
  simp only [pcells, List.getElem_toArray, List.getElem_cons_zero, List.getElem_cons_succ] at p0 p1 p2
  go_wp2_with fail
  refine HSf.out.mono ?_
  intro e w11 hx
  obtain ⟨c, p, rfl, hfi, hx11⟩ := hx
  have Hfi2 := hid hfi
  have Hx11 := hid hx11
  have HY11 := hid (HY10.out.trans hx11)
  have z0 := (HBfz.out.ext HY11.out).av 0 rfl
  have z1 := (HBfz.out.ext HY11.out).av 1 rfl
  have y0 := (HBfz.out.ext HY11.out).free 0
  have y1 := (HBfz.out.ext HY11.out).free 1
  simp only [List.getElem_toArray, List.getElem_cons_zero, List.getElem_cons_succ] at z0 z1
  clear HSf hfi hx11 p0 p1 p2
  obtain ⟨wS, hwS⟩ : ∃ wS, wS = (w11.setCell ⟨w5.heap.size, 0, none⟩ (.int .i64 (c : Int))).setCell ⟨w5.heap.size, 1, none⟩ (.int .i64 p) := ⟨_, rfl⟩
  have HBf : Hid (Blk wS w5.heap.size #[.int .i64 (c : Int), .int .i64 p] 63) := hid (by rw [hwS]; exact two (HBfz.out.ext HY11.out))
  have HKS : Hid (Keep (fun q => q = w5.heap.size) w11 wS) := hid (by rw [hwS]; exact two_keep w11 w5.heap.size (.int .i64 (c : Int)) (.int .i64 p))
  have HxS : Hid (Ext W9 wS) := hid (Keep.new (HX6.out.trans HY11.out) HKS.out fun q e => by rw [e]; exact Hbf.out)
  have HwS := hid hwS
  have f0 := HBf.out.av 0 rfl
  have f1 := HBf.out.av 1 rfl
  simp only [List.getElem_toArray, List.getElem_cons_zero, List.getElem_cons_succ] at f0 f1
  rw [HwS.out] at f0 f1
  clear hwS
  have hei := (Hei.out.ext Hx11.out).keep HKS.out fun i e => by
    have e : i = w5.heap.size := e
    subst e
    exact ⟨_, HBfz.out.ext HY11.out⟩
  obtain ⟨q, pp, hf', hc0, hcode⟩ := code_sets hei Hbad.out
  obtain ⟨rfl, rfl⟩ := Hfi2.out.uniq hf'
  have c00 : ((c : Int) == 0) = false := beq_eq_false_iff_ne.2 (by omega)
  have c01 : 0 < (c : Int) := by omega
  have HFa := hid (faulted2_at (w := wS) (HA9.out.ext HxS.out) fun w1 x hA => hcode w1 x hA)
  clear hei hf' hcode hc0
  go_wp2_with fail
  rw [← HwS.out]
  clear z0 z1 y0 y1 f0 f1
  refine HFa.out.mono ?_
  intro e w12 hx
  obtain ⟨rfl, hx12⟩ := hx
  have Hx12 := hid hx12
  clear HFa hx12
  go_wp2
  go_ret
  exact ⟨rfl, HXw.out.trans (HxS.out.trans Hx12.out)⟩
set_option maxRecDepth 100000 in
set_option maxHeartbeats 6400000 in
theorem fixleastlaw_ok (a1 a2 a3 : Option Addr) (c1 c2 c3 : Nat) (P : PP) (hv : Value) (has : List (List Int)) (w : World) (ad : Nat → Addr) (hE : ErrsP w ad) (hA : AllErrs w ad) (hS : ErrS w ad) (hP : ProgR w w.heap.size (.slice a1 P.vars.length c1) (.slice a2 P.funs.length c2) (.slice a3 P.stmts.length c3) P) (hh : SetsR w w.heap.size hv has) (hw : P.Well) (hg : P.GoodS has) :
    Calls Tryz.prog 7 #[pval a1 a2 a3 c1 c2 c3 P, hv] w fun e w' => e = .returned (.bool true) ∧ Ext w w' := by
  have Hg := hid hg
  have HRk := hid (show ∀ l ∈ P.roundV has, chkE l = 0 from fun l hl => ((roundV_good hg).ok.ok l hl).1)
  have HRl := hid (roundV_len P has)
  clear hg
  have Hw := hid hw
  clear hw
  obtain ⟨ah, ch, rfl⟩ := hh.form
  have hhl := hh.len
  have HH := hid hh
  have HAA := hid hA
  clear hh hA
  have HE := hid hE
  have HS := hid hS
  have HP := hid hP
  obtain ⟨W1, hW1⟩ : ∃ W1, W1 = w.alloc (.cells (pcells a1 a2 a3 c1 c2 c3 P) 39) := ⟨_, rfl⟩
  have HX1 : Hid (Ext w W1) := hid (by rw [hW1]; exact (Ext.refl _).alloc _)
  have HB1 : Hid (Blk W1 w.heap.size (pcells a1 a2 a3 c1 c2 c3 P) 39) := hid (by rw [hW1]; exact Blk.new _ _ _)
  have HR := hid (fixed_any W1 ad (hE.ext HX1.out) (hS.ext HX1.out))
  have HW1 : Hid (W1 = w.alloc (.cells #[.slice a1 P.vars.length c1, .slice a2 P.funs.length c2, .slice a3 P.stmts.length c3] 39)) := hid (by rw [hW1]; rfl)
  unfold pval
  clear hE hS hP hW1
  go_enter Tryz.func7, Tryz.ntmps7
  go_wp2_with fail
  rw [← HW1.out]
  refine HR.out.mono ?_
  intro e w1 hx
  obtain ⟨rfl, hx1⟩ := hx
  have HL := hid (large_q a1 a2 a3 c1 c2 c3 25 (by omega) P w1 w.heap.size (HP.out.ext (HX1.out.trans hx1)))
  rw [show ((25 : Nat) : Int) = (25 : Int) from rfl] at HL
  unfold pval at HL
  have HX1' := hid (HX1.out.trans hx1)
  have HBp1 := hid (HB1.out.ext hx1)
  have p0 := HBp1.out.av 0 rfl
  have p1 := HBp1.out.av 1 rfl
  have p2 := HBp1.out.av 2 rfl
  simp only [pcells, List.getElem_toArray, List.getElem_cons_zero, List.getElem_cons_succ] at p0 p1 p2
  clear HR hx1
  go_wp2_with fail
  refine HL.out.mono ?_
  intro e w2 hx
  obtain ⟨r, rfl, hr, hsm, hx2⟩ := hx
  have HX2 := hid (HX1'.out.trans hx2)
  have HBp := hid (HBp1.out.ext hx2)
  clear HL hx2 p0 p1 p2
  rcases (by omega : r = 1 ∨ r = 0) with rfl | rfl
  · clear hsm hr
    go_wp2
    go_ret
    exact ⟨rfl, HX2.out⟩
  have HSm := hid (hsm rfl).1
  have HQl := hid (hsm rfl).2
  clear hsm hr
  have HL := hid (largesets_any (.slice ah has.length ch) has w2 w.heap.size (HH.out.ext HX2.out))
  go_wp2_with fail
  refine HL.out.mono ?_
  intro e w2' hx
  obtain ⟨r, rfl, hr, hsm, hx2⟩ := hx
  have HX2' := hid (HX2.out.trans hx2)
  have HBp' := hid (HBp.out.ext hx2)
  clear HL hx2
  rcases (by omega : r = 1 ∨ r = 0) with rfl | rfl
  · clear hsm hr
    go_wp2
    go_ret
    exact ⟨rfl, HX2'.out⟩
  have HFew := hid (hsm rfl)
  clear hsm hr
  have hz1 : ∀ s ∈ P.vars, s.size ≤ 1000000 := fun s hs => by have := HSm.out.vs s hs; omega
  have hz2 : ∀ s ∈ P.names, s.size ≤ 1000000 := fun s hs => by
    obtain ⟨f, hf, rfl⟩ := List.mem_map.1 hs
    have := (HSm.out.fs f hf).1
    omega
  have Hz1 := hid hz1
  have Hz2 := hid hz2
  have HPS := hid (show PS0 w2' w2'.heap.size ad a1 a2 a3 c1 c2 c3 P from ⟨HE.out.ext HX2'.out, (HP.out.ext HX2'.out).lift HX2'.out.size, Hz1.out, Hz2.out⟩)
  clear hz1 hz2
  have HQ := hid (ownprogram_any a1 a2 a3 c1 c2 c3 P w2' HPS.out.prog HSm.out)
  have p0 := HBp'.out.av 0 rfl
  have p1 := HBp'.out.av 1 rfl
  have p2 := HBp'.out.av 2 rfl
  simp only [pcells, List.getElem_toArray, List.getElem_cons_zero, List.getElem_cons_succ] at p0 p1 p2
  unfold pval at HQ
  go_wp2_with fail
  refine HQ.out.mono ?_
  intro e w3 hx
  obtain ⟨hx3, b1, b2, b3, d1, d2, d3, rfl, hq⟩ := hx
  have HX3 := hid (HX2'.out.trans hx3)
  have Hx3 := hid hx3
  have Hq3 := hid hq
  clear HQ hx3 hq p0 p1 p2
  obtain ⟨W9, hW9⟩ : ∃ W9, W9 = w3.alloc (.cells (pcells b1 b2 b3 d1 d2 d3 P) 39) := ⟨_, rfl⟩
  have hx9 : Ext w3 W9 := by rw [hW9]; exact (Ext.refl _).alloc _
  have HXw := hid (HX3.out.trans hx9)
  have Hw9 := hid (Hx3.out.trans hx9)
  have HB6 : Hid (Blk W9 w3.heap.size (pcells b1 b2 b3 d1 d2 d3 P) 39) := hid (by rw [hW9]; exact Blk.new _ _ _)
  have HW9 : Hid (W9 = w3.alloc (.cells #[.slice b1 P.vars.length d1, .slice b2 P.funs.length d2, .slice b3 P.stmts.length d3] 39)) := hid (by rw [hW9]; rfl)
  have HPP9 := hid (show PS0 W9 W9.heap.size ad b1 b2 b3 d1 d2 d3 P from ⟨HE.out.ext HXw.out, (Hq3.out.ext hx9).lift hx9.size, Hz1.out, Hz2.out⟩)
  have HS9 := hid (HS.out.ext HXw.out)
  clear hx9 hW9
  have HBp9 : Hid (Blk W9 w.heap.size (pcells a1 a2 a3 c1 c2 c3 P) 39) := hid (HBp'.out.ext Hw9.out)
  have HPp9 := hid (HPS.out.on (Nat.le_refl _) Hw9.out)
  have HA9 := hid (HAA.out.ext HXw.out)
  have HF := hid (rfprog_all a1 a2 a3 c1 c2 c3 P W9 HPp9.out.prog Hz1.out Hz2.out)
  have p0 := HBp9.out.av 0 rfl
  have p1 := HBp9.out.av 1 rfl
  have p2 := HBp9.out.av 2 rfl
  simp only [pcells, List.getElem_toArray, List.getElem_cons_zero, List.getElem_cons_succ] at p0 p1 p2
  rw [HW9.out] at p0 p1 p2
  unfold pval at HF
  go_wp2_with fail
  rw [← HW9.out]
  refine HF.out.mono ?_
  intro e w5 hx
  obtain ⟨hx5, c, p, rfl, hfi⟩ := hx
  have Hfi := hid hfi
  obtain ⟨W6, hW6⟩ : ∃ W6, W6 = w5.alloc (.cells #[.int .i64 (c : Int), .int .i64 p] 63) := ⟨_, rfl⟩
  have hx6 : Ext w5 W6 := by rw [hW6]; exact (Ext.refl _).alloc _
  have HW6 := hid hW6
  have HX6 := hid (hx5.trans hx6)
  have HBf : Hid (Blk W6 w5.heap.size #[.int .i64 (c : Int), .int .i64 p] 63) := hid (by rw [hW6]; exact Blk.new _ _ _)
  have Hbf : Hid (W9.heap.size ≤ w5.heap.size) := hid hx5.size
  clear HF hfi hx5 hx6 hW6 p0 p1 p2
  obtain ⟨rfl, rfl⟩ := Hfi.out.uniq (show FaultIs P 0 (-1) from .inr (.inl ⟨Hw.out.1, Hw.out.2, rfl, rfl⟩))
  have HW6z : Hid (W6 = w5.alloc (.cells #[.int .i64 0, .int .i64 (-1)] 63)) := hid HW6.out
  have HBfz : Hid (Blk W6 w5.heap.size #[.int .i64 0, .int .i64 (-1)] 63) := hid HBf.out
  obtain ⟨n, S, hL⟩ := least_exists Hw.out
  have hgood := hL.good Hw.out
  have HSl := hid hgood.2.1
  have HSk := hid (show ∀ l ∈ S, chkE l = 0 from fun l hl => (hgood.ok.ok l hl).1)
  have HLe := hid hL
  have hn12 := hL.few Hw.out
  have hS126 : S.length ≤ 126 := by
    have h1 := Hw.out.few
    have h2 := nodesV_le P Hw.out
    have := HSl.out
    omega
  have HL := hid (fixleast_ok b1 b2 b3 d1 d2 d3 P W6 ad ((HPP9.out.on (Nat.le_refl _) HX6.out).pw Hw.out) (HS9.out.ext HX6.out) n S hL)
  rw [← HSl.out] at HL
  have g0 := (HB6.out.ext HX6.out).av 0 rfl
  have g1 := (HB6.out.ext HX6.out).av 1 rfl
  have g2 := (HB6.out.ext HX6.out).av 2 rfl
  simp only [pcells, List.getElem_toArray, List.getElem_cons_zero, List.getElem_cons_succ] at g0 g1 g2
  rw [HW6z.out] at g0 g1 g2
  unfold pval at HL
  clear hgood hL HW6 HBf Hfi
  go_wp2_with fail
  rw [← HW6z.out]
  refine HL.out.mono ?_
  intro e w7 hx
  obtain ⟨a, c', rfl, hs, hx7⟩ := hx
  have HY7 := hid hx7
  have Hs7 := hid hs
  have HZ7 := hid (HX6.out.trans hx7)
  have HR := hid (rleastof_any a1 a2 a3 c1 c2 c3 P w7 (HPp9.out.on (Nat.le_refl _) HZ7.out).prog Hw.out n S HLe.out)
  rw [← HSl.out] at HR
  have f0 := (HBfz.out.ext hx7).av 0 rfl
  have f1 := (HBfz.out.ext hx7).av 1 rfl
  simp only [List.getElem_toArray, List.getElem_cons_zero, List.getElem_cons_succ] at f0 f1
  have p0 := (HBp9.out.ext HZ7.out).av 0 rfl
  have p1 := (HBp9.out.ext HZ7.out).av 1 rfl
  have p2 := (HBp9.out.ext HZ7.out).av 2 rfl
  simp only [pcells, List.getElem_toArray, List.getElem_cons_zero, List.getElem_cons_succ] at p0 p1 p2
  unfold pval at HR
  clear HL hs hx7 g0 g1 g2
  go_wp2_with fail
  refine HR.out.mono ?_
  intro e w8 hx
  obtain ⟨a', c'', rfl, hs', hx8⟩ := hx
  have HY8 := hid (HY7.out.trans hx8)
  have HSS := hid (samesets_any (.slice a S.length c') (.slice a' S.length c'') S S w8 w8.heap.size ((Hs7.out.ext hx8).lift hx8.size) hs' HSk.out HSk.out)
  rw [decide_eq_true (rfl : S = S)] at HSS
  clear HR hs' hx8 p0 p1 p2 f0 f1
  go_wp2_with fail
  refine HSS.out.mono ?_
  intro e w9 hx
  obtain ⟨rfl, hx9⟩ := hx
  have HY := hid (HY8.out.trans hx9)
  have HZ := hid (HX6.out.trans HY.out)
  have HOS := fun w1 (x : Ext W9 w1) => hid (ownsets_at (HH.out.ext HXw.out) HFew.out w1 x)
  clear HSS hx9 Hs7
  have HRo := fun w1 a k (x : Ext W9 w1) (hs : SetsR w1 w1.heap.size (.slice a has.length k) has) => hid (fixround_made b1 b2 b3 d1 d2 d3 P (.slice a has.length k) has w1 ad ((HPP9.out.on (Nat.le_refl _) x).pw Hw.out) (HS9.out.ext x) hs Hg.out)
  unfold pval at HRo
  go_wp2
  have g0 := (HB6.out.ext HZ.out).kc (X := fun _ => False) (fun e => e) 0 rfl
  have g1 := (HB6.out.ext HZ.out).kc (X := fun _ => False) (fun e => e) 1 rfl
  have g2 := (HB6.out.ext HZ.out).kc (X := fun _ => False) (fun e => e) 2 rfl
  simp only [pcells, List.getElem_toArray, List.getElem_cons_zero, List.getElem_cons_succ] at g0 g1 g2
  refine wp_flowT (fun _ => False) (by kernel_rfl) (by kernel_rfl) ?_
  repeat (apply FlowT.d; (intro w1 hk; unfold does; go_simp; (try go_ints); (first | exact DetR.mk | (simp only [↓IntWalk.iteOmega, Oper.doesUpon_value]; exact DetR.mk) | (simp only [↓IntWalk.iteOmega]; go_simp; (try go_ints); exact DetR.mk))); simp only [Act.put, List.setIfInBounds_toArray, List.set_cons_zero, List.set_cons_succ])
  refine FlowT.s (fun v w' => (∃ a c, v = .slice a has.length c) ∧ SetsR w' w'.heap.size v has ∧ Ext w9 w') 2 rfl (by kernel_rfl) (fun _ _ _ ⟨h1, h2, h3⟩ y => ⟨h1, (h2.ext y).lift y.size, h3.trans y⟩) (fun wa hC hk2 => ?_) ?_
  · unfold does
    go_simp
    refine CallR.act ((HOS wa (HZ.out.trans hC)).out.mono ?_)
    rintro e wb ⟨a, c, rfl, hs, hx⟩
    exact ⟨_, rfl, hk2.trans (hx.keep _), ⟨a, c, rfl⟩, hs, hC.trans hx⟩
  rintro _ ⟨_, ⟨ao, co, rfl⟩, _, _⟩
  simp only [Act.put, List.setIfInBounds_toArray, List.set_cons_zero, List.set_cons_succ]
  refine FlowT.s (fun v w' => (∃ a c, v = .tuple #[.slice a has.length c, .nilIface]) ∧ (∀ a c, v = .tuple #[.slice a has.length c, .nilIface] → ∃ vs, w'.ownsRow 0 22 1 (.slice a has.length c) has.length vs ∧ Made w' vs (P.roundV has)) ∧ Ext w9 w') 3 rfl (by kernel_rfl) (fun _ _ _ ⟨h1, h2, h3⟩ y => ⟨h1, fun a c e => by obtain ⟨vs, h4, h5⟩ := h2 a c e; exact ⟨vs, own_ext h4 y, h5.ext y⟩, h3.trans y⟩) (fun wa hC hk2 => ?_) ?_
  · obtain ⟨_, hs, hx0⟩ := hC
    have HCa := HRo wa _ _ (HZ.out.trans hx0) hs
    unfold does
    go_simp
    refine CallR.act (HCa.out.mono ?_)
    rintro e wb ⟨a, c, vs, rfl, hr, hm, _, hx⟩
    refine ⟨_, rfl, hk2.trans (hx.keep _), ⟨a, c, rfl⟩, fun a' c' e => ⟨vs, ?_, hm⟩, hx0.trans hx⟩
    obtain ⟨rfl, rfl⟩ : a = a' ∧ c = c' := by simpa using e
    exact own_low hr (Nat.zero_le _)
  rintro _ ⟨_, ⟨ar, cr, rfl⟩, _, _⟩
  simp only [Act.put, List.setIfInBounds_toArray, List.set_cons_zero, List.set_cons_succ]
  repeat (apply FlowT.d; (intro w1 hk; unfold does; go_simp; (try go_ints); (first | exact DetR.mk | (simp only [↓IntWalk.iteOmega, Oper.doesUpon_value]; exact DetR.mk) | (simp only [↓IntWalk.iteOmega]; go_simp; (try go_ints); exact DetR.mk))); simp only [Act.put, List.setIfInBounds_toArray, List.set_cons_zero, List.set_cons_succ])
  refine FlowT.fin fun w10 hC10 hk10 => ?_
  obtain ⟨_, hei, hx10⟩ := hC10
  obtain ⟨vs, hr, hm⟩ := hei _ _ rfl
  have Hr := hid hr
  have Hm := hid hm
  have Hx10 := hid hx10
  clear HOS HRo g0 g1 g2 hei hx10 hk10 hr hm
  have HY10 := hid (HY.out.trans Hx10.out)
  have HZ10 := hid (HX6.out.trans HY10.out)
  have HSf := hid (rsetsfault_any a1 a2 a3 c1 c2 c3 P (.slice ah has.length ch) has w10 w10.heap.size (HPp9.out.on (Nat.le_refl _) HZ10.out).prog Hw.out ((HH.out.ext (HXw.out.trans HZ10.out)).lift (HXw.out.trans HZ10.out).size))
  unfold pval at HSf
  have p0 := (HBp9.out.ext HZ10.out).av 0 rfl
  have p1 := (HBp9.out.ext HZ10.out).av 1 rfl
  have p2 := (HBp9.out.ext HZ10.out).av 2 rfl
  simp only [pcells, List.getElem_toArray, List.getElem_cons_zero, List.getElem_cons_succ] at p0 p1 p2
  go_wp2_with fail
  refine HSf.out.mono ?_
  intro e w11 hx
  obtain ⟨c, p, rfl, hfi, hx11⟩ := hx
  have Hfi2 := hid hfi
  have Hx11 := hid hx11
  have HY11 := hid (HY10.out.trans hx11)
  have z0 := (HBfz.out.ext HY11.out).av 0 rfl
  have z1 := (HBfz.out.ext HY11.out).av 1 rfl
  have y0 := (HBfz.out.ext HY11.out).free 0
  have y1 := (HBfz.out.ext HY11.out).free 1
  simp only [List.getElem_toArray, List.getElem_cons_zero, List.getElem_cons_succ] at z0 z1
  clear HSf hfi hx11 p0 p1 p2
  obtain ⟨rfl, rfl⟩ := Hfi2.out.uniq (show SFaultIs P has 0 (-1) from .inr (.inl ⟨Hg.out.2.1, Hg.out.2.2, rfl, rfl⟩))
  obtain ⟨wS, hwS⟩ : ∃ wS, wS = (w11.setCell ⟨w5.heap.size, 0, none⟩ (.int .i64 0)).setCell ⟨w5.heap.size, 1, none⟩ (.int .i64 (-1)) := ⟨_, rfl⟩
  have HBf : Hid (Blk wS w5.heap.size #[.int .i64 0, .int .i64 (-1)] 63) := hid (by rw [hwS]; exact two (HBfz.out.ext HY11.out))
  have HKS : Hid (Keep (fun q => q = w5.heap.size) w11 wS) := hid (by rw [hwS]; exact two_keep w11 w5.heap.size (.int .i64 0) (.int .i64 (-1)))
  have HxS : Hid (Ext W9 wS) := hid (Keep.new (HX6.out.trans HY11.out) HKS.out fun q e => by rw [e]; exact Hbf.out)
  have HwS := hid hwS
  have f0 := HBf.out.av 0 rfl
  have f1 := HBf.out.av 1 rfl
  simp only [List.getElem_toArray, List.getElem_cons_zero, List.getElem_cons_succ] at f0 f1
  rw [HwS.out] at f0 f1
  clear hwS
  have HBq : Hid (Blk w11 w5.heap.size #[.int .i64 0, .int .i64 (-1)] 63) := hid (HBfz.out.ext HY11.out)
  have HrS := hid (row_keep (own_ext Hr.out Hx11.out) HKS.out fun i hi e => by
    obtain ⟨c, hc⟩ := own_ty (own_ext Hr.out Hx11.out) hi
    exact Blk.ty_ne hc HBq.out (by decide) e)
  have HmS := hid ((Hm.out.ext Hx11.out).keep HKS.out fun b e => by rw [e]; exact notInt HBq.out (by decide))
  have HRr := hid (rroundof_any a1 a2 a3 c1 c2 c3 P (.slice ah has.length ch) has wS wS.heap.size ((HPp9.out.on (Nat.le_refl _) HxS.out).prog) Hg.out ((HH.out.ext (HXw.out.trans HxS.out)).lift (HXw.out.trans HxS.out).size) (Nat.le_refl _))
  have p0 := (HBp9.out.ext HxS.out).av 0 rfl
  have p1 := (HBp9.out.ext HxS.out).av 1 rfl
  have p2 := (HBp9.out.ext HxS.out).av 2 rfl
  simp only [pcells, List.getElem_toArray, List.getElem_cons_zero, List.getElem_cons_succ] at p0 p1 p2
  rw [HwS.out] at p0 p1 p2
  unfold pval at HRr
  clear Hfi2 Hr Hm
  go_wp2_with fail
  rw [← HwS.out]
  clear z0 z1 y0 y1 f0 f1 p0 p1 p2
  refine HRr.out.mono ?_
  intro e w12 hx
  obtain ⟨a3', c3', rfl, hs3, hx12⟩ := hx
  have Hx12 := hid hx12
  have hsr := SetsR.made (v := .slice ar has.length cr) (L := P.roundV has) (by rw [HRl.out]; exact own_ext HrS.out hx12) (HmS.out.ext hx12)
  have HSS := hid (samesets_any (.slice ar has.length cr) (.slice a3' has.length c3') (P.roundV has) (P.roundV has) w12 w12.heap.size hsr hs3 HRk.out HRk.out)
  rw [decide_eq_true (rfl : P.roundV has = P.roundV has)] at HSS
  clear HRr hs3 hx12 hsr
  go_wp2_with fail
  refine HSS.out.mono ?_
  intro e w13 hx
  obtain ⟨rfl, hx13⟩ := hx
  have Hx13 := hid hx13
  clear HSS hx13
  go_wp2
  go_ret
  exact ⟨rfl, HXw.out.trans (HxS.out.trans (Hx12.out.trans Hx13.out))⟩
theorem fixleastlaw_any (a1 a2 a3 : Option Addr) (c1 c2 c3 : Nat) (P : PP) (hv : Value) (has : List (List Int)) (w : World) (ad : Nat → Addr) (hE : ErrsP w ad) (hA : AllErrs w ad) (hS : ErrS w ad) (hP : ProgR w w.heap.size (.slice a1 P.vars.length c1) (.slice a2 P.funs.length c2) (.slice a3 P.stmts.length c3) P) (hh : SetsR w w.heap.size hv has) :
    Calls Tryz.prog 7 #[pval a1 a2 a3 c1 c2 c3 P, hv] w fun e w' => e = .returned (.bool true) ∧ Ext w w' := by
  by_cases hw : P.Well
  · by_cases hb : has.length = P.nodesV ∧ ∀ l ∈ has, P.setE l = 0
    · exact fixleastlaw_ok a1 a2 a3 c1 c2 c3 P hv has w ad hE hA hS hP hh hw ⟨hw, hb.1, hb.2⟩
    · exact fixleastlaw_bad a1 a2 a3 c1 c2 c3 P hv has w ad hE hA hS hP hh hw hb
  · exact fixleastlaw_no a1 a2 a3 c1 c2 c3 P hv has w ad hE hA hS hP hh hw
end Go.Proofs.YtoaoienfggjepaaGreatDoor



/- All errors, and the type of errors, as a row of this seat lists them. -/
namespace Go.Proofs.YtoaoienfggjepaaGreatDoor
set_option linter.unusedSimpArgs false
set_option linter.unusedVariables false
open Go Go.RowKit

def handD : DataW Unit := .iface "internal/reflectlite.rtype" (.agg [.ptr (.lit (.string [101, 114, 114, 111, 114]))])
theorem handName : handD.handleName? = some [101, 114, 114, 111, 114] := by
  unfold handD DataW.handleName?
  simp
def allCodes : List Nat := [1, 2, 3, 4, 5, 6, 7, 8, 9, 10, 11]
def fullL : List (String × DataW Unit) := ("errors.errorType", handD) :: sentL allCodes
theorem typesSize : Tryz.prog.types.size = 322 := by kernel_rfl
theorem oneErrRow : ((List.range 322).filter fun t => Tryz.prog.rowNamed t [101, 114, 114, 111, 114]) = [25] := by kernel_rfl
theorem rtypeCut : (Tryz.prog.cutTypes.find? (·.1 == "internal/reflectlite.rtype")).map (·.2) = some 248 := by kernel_rfl
theorem errTypeVar : Tryz.prog.globalNamed "errors.errorType" = some 11 := by kernel_rfl
theorem errHandle : typeHandle Tryz.prog 25 = .pointer (some ⟨20, 25, none⟩) := by kernel_rfl

theorem all_of {W : World} (h : laidMetH Tryz.prog fullL W) : ∃ ad : Nat → Addr, AllErrs W ad := by
  obtain ⟨h1, h2⟩ := laidMetH_iff.1 h
  have e1 : (fullL.filter fun x => x.2.handleName?.isNone) = sentL allCodes := by
    unfold fullL
    rw [List.filter_cons_of_neg (by simp [handName]), List.filter_eq_self.2 fun x hx => by
      obtain ⟨c, _, rfl⟩ := List.mem_map.1 hx
      simp [sent_noHandle]]
  rw [e1] at h1
  obtain ⟨ad, s1, s2⟩ := sents_ad allCodes (by decide) h1
  have hin : ∀ c, 1 ≤ c ∧ c ≤ 11 → c ∈ allCodes := fun c hc => by
    rcases (by omega : c = 1 ∨ c = 2 ∨ c = 3 ∨ c = 4 ∨ c = 5 ∨ c = 6 ∨ c = 7 ∨ c = 8 ∨ c = 9 ∨ c = 10 ∨ c = 11) with rfl | rfl | rfl | rfl | rfl | rfl | rfl | rfl | rfl | rfl | rfl <;> decide
  refine ⟨ad, fun c hc => (s1 c (hin c hc)).var, fun c hc => (s1 c (hin c hc)).row, fun c d hc hd e => s2 c (hin c hc) d (hin d hd) e, ?_⟩
  have hm : ("errors.errorType", handD) ∈ fullL.filter fun x => x.2.handleName?.isSome := List.mem_filter.2 ⟨by simp [fullL], by simp [handName]⟩
  have h3 := h2 _ hm
  have hf : handD.funcsIn? = none := by
    unfold handD DataW.funcsIn?
    simp
  simp only [hf] at h3
  obtain ⟨name, u, ty, g1, g2, g3, g4, g5⟩ := h3
  obtain rfl := Option.some.inj (handName.symm.trans g1)
  obtain rfl := Option.some.inj (rtypeCut.symm.trans g2)
  have hm2 : ty ∈ (List.range 322).filter fun t => Tryz.prog.rowNamed t [101, 114, 114, 111, 114] := List.mem_filter.2 ⟨List.mem_range.2 (by rw [← typesSize]; exact g3), g4⟩
  rw [oneErrRow, List.mem_singleton] at hm2
  subst hm2
  rw [errHandle] at g5
  simpa using World.var?_cell errTypeVar g5 0
end Go.Proofs.YtoaoienfggjepaaGreatDoor

