/- Texts of one proof, put together: WM M2 T9 X9 ZJ. -/
import Derived.Test.YtoaoienfggjepaaGreatDoorTL10
import Derived.Test.YtoaoienfggjepaaGreatDoorTL11
import Derived.Test.YtoaoienfggjepaaGreatDoorTL15
import Derived.Test.YtoaoienfggjepaaGreatDoorTL17
import Derived.Test.YtoaoienfggjepaaGreatDoorTL19
import Derived.Test.YtoaoienfggjepaaGreatDoorTL20
import Derived.Test.YtoaoienfggjepaaGreatDoorTL21

/- RunDoes: the law walked: where the script, or the kind, is long. -/
namespace Go.Proofs.YtoaoienfggjepaaGreatDoor
set_option linter.unusedSimpArgs false
set_option linter.unusedVariables false
open Go Go.RowKit

theorem rfprog_all (a1 a2 a3 : Option Addr) (c1 c2 c3 : Nat) (P : PP) (w : World) (h : ProgR w w.heap.size (.slice a1 P.vars.length c1) (.slice a2 P.funs.length c2) (.slice a3 P.stmts.length c3) P)
    (hz1 : ∀ s ∈ P.vars, s.size ≤ 1000000) (hz2 : ∀ s ∈ P.names, s.size ≤ 1000000) :
    Calls Tryz.prog 32 #[pval a1 a2 a3 c1 c2 c3 P] w fun e w' => Ext w w' ∧ ∃ (c : Nat) (p : Int), e = .returned (.agg #[.int .i64 (c : Int), .int .i64 p]) ∧ FaultIs P c p := by
  cases hb : P.big with
  | true => exact rfprog_big a1 a2 a3 c1 c2 c3 P w h hz1 hz2 hb
  | false => exact rfprog_no a1 a2 a3 c1 c2 c3 P w h hz1 hz2 hb
end Go.Proofs.YtoaoienfggjepaaGreatDoor



/- ConsMore: the law walked. -/
namespace Go.Proofs.YtoaoienfggjepaaGreatDoor
set_option linter.unusedSimpArgs false
set_option linter.unusedVariables false
open Go Go.RowKit

end Go.Proofs.YtoaoienfggjepaaGreatDoor



/- ConsTells: what is told, in numbers; the law where the program is not well. -/
namespace Go.Proofs.YtoaoienfggjepaaGreatDoor
set_option linter.unusedSimpArgs false
set_option linter.unusedVariables false
open Go Go.RowKit

/-- What a check that fails tells, in numbers. -/
theorem code_chk {ad : Nat → Addr} {P : PP} {w : World} {v : Value} (h : ErrIs ad P w v) (hw : ¬ P.Well) :
    ∃ c p, FaultIs P c p ∧ c ≠ 0 ∧ ∀ w1, Ext w w1 → AllErrs w1 ad → Calls Tryz.prog 85 #[v] w1 fun e w' => e = .returned (.tuple #[.int .i64 (c : Int), .int .i64 p]) ∧ Ext w1 w' := by
  rcases h with ⟨h3, rfl⟩ | ⟨h3, h4, rfl⟩ | ⟨h3, i, s, b, h4, rfl, hb⟩
  · have := P.err1_le
    exact ⟨P.err1, -1, .inl ⟨h3, rfl, rfl⟩, h3, fun w1 x hA => code_of w1 ad hA _ h3 (by omega)⟩
  · exact absurd ⟨h3, h4⟩ hw
  · have := P.stmtErr_le s
    exact ⟨P.stmtErr s, i, .inr (.inr ⟨h3, i, s, h4, rfl, rfl⟩), h4.2.1, fun w1 x hA => code_at w1 ad hA _ h4.2.1 (by omega) b _ (hb.ext x)⟩
theorem SFaultIs.uniq {P : PP} {has : List (List Int)} {c d : Nat} {p q : Int} (h : SFaultIs P has c p) (g : SFaultIs P has d q) : c = d ∧ p = q := by
  rcases h with ⟨h1, h2, h3⟩ | ⟨h1, h2, h3, h4⟩ | ⟨h1, i, l, h2, h3, h4, h5, h6⟩ <;> rcases g with ⟨g1, g2, g3⟩ | ⟨g1, g2, g3, g4⟩ | ⟨g1, j, m, g2, g3, g4, g5, g6⟩
  · exact ⟨h2.trans g2.symm, h3.trans g3.symm⟩
  · exact absurd g1 h1
  · exact absurd g1 h1
  · exact absurd h1 g1
  · exact ⟨h3.trans g3.symm, h4.trans g4.symm⟩
  · exact absurd (h2 m (List.mem_of_getElem? g2)) g3
  · exact absurd h1 g1
  · exact absurd (g2 l (List.mem_of_getElem? h2)) h3
  · have hij : i = j := by
      rcases Nat.lt_trichotomy i j with k | k | k
      · exact absurd (g4 i l k h2) h3
      · exact k
      · exact absurd (h4 j m k g2) g3
    subst hij
    obtain rfl := Option.some.inj (h2.symm.trans g2)
    exact ⟨h5.trans g5.symm, h6.trans g6.symm⟩
end Go.Proofs.YtoaoienfggjepaaGreatDoor



/- FixLeast: the error and the fault; a round of rules where the program is not well, or the sets are at fault. -/
namespace Go.Proofs.YtoaoienfggjepaaGreatDoor
set_option linter.unusedSimpArgs false
set_option linter.unusedVariables false
open Go Go.RowKit

set_option maxRecDepth 100000 in
set_option maxHeartbeats 800000 in
theorem faulted2_any (w : World) (v : Value) (c p : Int) (h : ∀ w1, Ext w w1 → Calls Tryz.prog 85 #[v] w1 fun e w' => e = .returned (.tuple #[.int .i64 c, .int .i64 p]) ∧ Ext w1 w') :
    Calls Tryz.prog 35 #[v, .agg #[.int .i64 c, .int .i64 p]] w fun e w' => e = .returned (.bool true) ∧ Ext w w' := by
  obtain ⟨W, hW⟩ : ∃ W, W = w.alloc (.cells #[.int .i64 c, .int .i64 p] 63) := ⟨_, rfl⟩
  have HX : Hid (Ext w W) := hid (by rw [hW]; exact (Ext.refl _).alloc _)
  have HB : Hid (Blk W w.heap.size #[.int .i64 c, .int .i64 p] 63) := hid (by rw [hW]; exact Blk.new _ _ _)
  have HWe := hid hW
  have HC := hid (h W HX.out)
  clear hW h
  go_enter Tryz.func35, Tryz.ntmps35
  go_wp2_with fail
  rw [← HWe.out]
  refine HC.out.mono ?_
  intro e w1 hx
  obtain ⟨rfl, hx1⟩ := hx
  have d0 := (HB.out.ext hx1).av 0 rfl
  have d1 := (HB.out.ext hx1).av 1 rfl
  simp only [List.getElem_toArray, List.getElem_cons_zero, List.getElem_cons_succ] at d0 d1
  have HX1 := hid (HX.out.trans hx1)
  clear HC HB HWe HX hx1
  by_cases h0 : c = 0
  · subst h0
    go_wp2
    go_ret
    exact ⟨rfl, HX1.out⟩
  · go_wp2
    go_ret
    exact ⟨rfl, HX1.out⟩
theorem faulted2_at {w : World} {v : Value} {c : Nat} {p : Int} {ad : Nat → Addr} (hA : AllErrs w ad) (h : ∀ w1, Ext w w1 → AllErrs w1 ad → Calls Tryz.prog 85 #[v] w1 fun e w' => e = .returned (.tuple #[.int .i64 (c : Int), .int .i64 p]) ∧ Ext w1 w') :
    Calls Tryz.prog 35 #[v, .agg #[.int .i64 (c : Int), .int .i64 p]] w fun e w' => e = .returned (.bool true) ∧ Ext w w' :=
  faulted2_any w v c p fun w1 x => h w1 x (hA.ext x)

theorem SetsIs.ext {ad : Nat → Addr} {P : PP} {has : List (List Int)} {w w' : World} {v : Value} (h : SetsIs ad P has w v) (x : Ext w w') : SetsIs ad P has w' v := by
  rcases h with h | h | ⟨h1, i, l, b, h2, h3, h4, h5, h6⟩
  · exact .inl h
  · exact .inr (.inl h)
  · exact .inr (.inr ⟨h1, i, l, b, h2, h3, h4, h5, h6.ext x⟩)
end Go.Proofs.YtoaoienfggjepaaGreatDoor



/- CallsTell: the law walked, where the program is not well. -/
namespace Go.Proofs.YtoaoienfggjepaaGreatDoor
set_option linter.unusedSimpArgs false
set_option linter.unusedVariables false
open Go Go.RowKit

set_option maxRecDepth 100000 in
set_option maxHeartbeats 6400000 in
theorem callstelllaw_no (a1 a2 a3 : Option Addr) (c1 c2 c3 : Nat) (P : PP) (x y k : Int) (w : World) (ad : Nat → Addr) (hE : ErrsP w ad) (hA : AllErrs w ad) (hS : ErrS w ad) (hP : ProgR w w.heap.size (.slice a1 P.vars.length c1) (.slice a2 P.funs.length c2) (.slice a3 P.stmts.length c3) P) (hw : ¬ P.Well) :
    Calls Tryz.prog 8 #[pval a1 a2 a3 c1 c2 c3 P, .int .i64 x, .int .i64 y, .int .i64 k] w fun e w' => e = .returned (.bool true) ∧ Ext w w' := by
  have HAA := hid hA
  have Hw := hid hw
  clear hA hw
  have HE := hid hE
  have HS := hid hS
  have HP := hid hP
  obtain ⟨W1, hW1⟩ : ∃ W1, W1 = w.alloc (.cells (pcells a1 a2 a3 c1 c2 c3 P) 39) := ⟨_, rfl⟩
  have HX1 : Hid (Ext w W1) := hid (by rw [hW1]; exact (Ext.refl _).alloc _)
  have HB1 : Hid (Blk W1 w.heap.size (pcells a1 a2 a3 c1 c2 c3 P) 39) := hid (by rw [hW1]; exact Blk.new _ _ _)
  have HR := hid (callsfact_any W1 ad (hE.ext HX1.out) (hS.ext HX1.out))
  have HW1 : Hid (W1 = w.alloc (.cells #[.slice a1 P.vars.length c1, .slice a2 P.funs.length c2, .slice a3 P.stmts.length c3] 39)) := hid (by rw [hW1]; rfl)
  unfold pval
  clear hE hS hP hW1
  go_enter Tryz.func8, Tryz.ntmps8
  go_wp2_with fail
  rw [← HW1.out]
  refine HR.out.mono ?_
  intro e w1 hx
  obtain ⟨rfl, hx1⟩ := hx
  have HL := hid (large_q a1 a2 a3 c1 c2 c3 25 (by omega) P w1 w.heap.size (HP.out.ext (HX1.out.trans hx1)))
  rw [show ((25 : Nat) : Int) = (25 : Int) from rfl] at HL
  unfold pval at HL
  have HX1' := hid (HX1.out.trans hx1)
  have HBp1 := hid (HB1.out.ext hx1)
  have p0 := HBp1.out.av 0 rfl
  have p1 := HBp1.out.av 1 rfl
  have p2 := HBp1.out.av 2 rfl
  simp only [pcells, List.getElem_toArray, List.getElem_cons_zero, List.getElem_cons_succ] at p0 p1 p2
  clear HR hx1
  go_wp2_with fail
  refine HL.out.mono ?_
  intro e w2 hx
  obtain ⟨r, rfl, hr, hsm, hx2⟩ := hx
  have HX2 := hid (HX1'.out.trans hx2)
  have HBp := hid (HBp1.out.ext hx2)
  clear HL hx2 p0 p1 p2
  rcases (by omega : r = 1 ∨ r = 0) with rfl | rfl
  · clear hsm hr
    go_wp2
    go_ret
    exact ⟨rfl, HX2.out⟩
  have HSm := hid (hsm rfl).1
  have HQl := hid (hsm rfl).2
  clear hsm hr
  obtain ⟨w2', hw2'⟩ : ∃ w2', w2' = w2 := ⟨_, rfl⟩
  subst hw2'
  have HX2' := hid HX2.out
  have HBp' := hid HBp.out
  have hz1 : ∀ s ∈ P.vars, s.size ≤ 1000000 := fun s hs => by have := HSm.out.vs s hs; omega
  have hz2 : ∀ s ∈ P.names, s.size ≤ 1000000 := fun s hs => by
    obtain ⟨f, hf, rfl⟩ := List.mem_map.1 hs
    have := (HSm.out.fs f hf).1
    omega
  have Hz1 := hid hz1
  have Hz2 := hid hz2
  have HPS := hid (show PS0 w2' w2'.heap.size ad a1 a2 a3 c1 c2 c3 P from ⟨HE.out.ext HX2'.out, (HP.out.ext HX2'.out).lift HX2'.out.size, Hz1.out, Hz2.out⟩)
  clear hz1 hz2
  have HQ := hid (ownprogram_any a1 a2 a3 c1 c2 c3 P w2' HPS.out.prog HSm.out)
  have p0 := HBp'.out.av 0 rfl
  have p1 := HBp'.out.av 1 rfl
  have p2 := HBp'.out.av 2 rfl
  simp only [pcells, List.getElem_toArray, List.getElem_cons_zero, List.getElem_cons_succ] at p0 p1 p2
  unfold pval at HQ
  go_wp2_with fail
  refine HQ.out.mono ?_
  intro e w3 hx
  obtain ⟨hx3, b1, b2, b3, d1, d2, d3, rfl, hq⟩ := hx
  have HX3 := hid (HX2'.out.trans hx3)
  have Hx3 := hid hx3
  have Hq3 := hid hq
  clear HQ hx3 hq p0 p1 p2
  obtain ⟨W9, hW9⟩ : ∃ W9, W9 = w3.alloc (.cells (pcells b1 b2 b3 d1 d2 d3 P) 39) := ⟨_, rfl⟩
  have hx9 : Ext w3 W9 := by rw [hW9]; exact (Ext.refl _).alloc _
  have HXw := hid (HX3.out.trans hx9)
  have Hw9 := hid (Hx3.out.trans hx9)
  have HB6 : Hid (Blk W9 w3.heap.size (pcells b1 b2 b3 d1 d2 d3 P) 39) := hid (by rw [hW9]; exact Blk.new _ _ _)
  have HW9 : Hid (W9 = w3.alloc (.cells #[.slice b1 P.vars.length d1, .slice b2 P.funs.length d2, .slice b3 P.stmts.length d3] 39)) := hid (by rw [hW9]; rfl)
  have HPP9 := hid (show PS0 W9 W9.heap.size ad b1 b2 b3 d1 d2 d3 P from ⟨HE.out.ext HXw.out, (Hq3.out.ext hx9).lift hx9.size, Hz1.out, Hz2.out⟩)
  have HS9 := hid (HS.out.ext HXw.out)
  clear hx9 hW9
  have HA9 := hid (HAA.out.ext HXw.out)
  have HC := hid (callsgraph_no b1 b2 b3 d1 d2 d3 P W9 W9.heap.size ad HPP9.out (Nat.le_refl _) Hw.out)
  unfold pval at HC
  go_wp2_with fail
  rw [← HW9.out]
  refine HC.out.mono ?_
  intro e w4 hx
  obtain ⟨t4, z4, rfl, hei, hx4⟩ := hx
  have He4 := hid hei
  have HZ4 := hid hx4
  clear HC hei hx4
  have HC := hid (callsalias_no b1 b2 b3 d1 d2 d3 P x y w4 w4.heap.size ad (HPP9.out.on (Nat.le_refl _) HZ4.out) (Nat.le_refl _) Hw.out)
  unfold pval at HC
  have g0 := (HB6.out.ext HZ4.out).av 0 rfl
  have g1 := (HB6.out.ext HZ4.out).av 1 rfl
  have g2 := (HB6.out.ext HZ4.out).av 2 rfl
  simp only [pcells, List.getElem_toArray, List.getElem_cons_zero, List.getElem_cons_succ] at g0 g1 g2
  go_wp2_with fail
  refine HC.out.mono ?_
  intro e w5 hx
  obtain ⟨t5, z5, rfl, hei, hx5⟩ := hx
  have He5 := hid hei
  have Hx5 := hid hx5
  have HZ5 := hid (HZ4.out.trans hx5)
  clear HC hei hx5 g0 g1 g2
  have HC := hid (callswrites_no b1 b2 b3 d1 d2 d3 P k w5 w5.heap.size ad (HPP9.out.on (Nat.le_refl _) HZ5.out) (Nat.le_refl _) Hw.out)
  unfold pval at HC
  have g0 := (HB6.out.ext HZ5.out).av 0 rfl
  have g1 := (HB6.out.ext HZ5.out).av 1 rfl
  have g2 := (HB6.out.ext HZ5.out).av 2 rfl
  simp only [pcells, List.getElem_toArray, List.getElem_cons_zero, List.getElem_cons_succ] at g0 g1 g2
  go_wp2_with fail
  refine HC.out.mono ?_
  intro e w6 hx
  obtain ⟨t6, z6, rfl, hei, hx6⟩ := hx
  have He6 := hid hei
  have Hx6 := hid hx6
  have HZ6 := hid (HZ5.out.trans hx6)
  clear HC hei hx6 g0 g1 g2
  have HC := hid (callsidle_no b1 b2 b3 d1 d2 d3 P w6 w6.heap.size ad (HPP9.out.on (Nat.le_refl _) HZ6.out) (Nat.le_refl _) Hw.out)
  unfold pval at HC
  have g0 := (HB6.out.ext HZ6.out).av 0 rfl
  have g1 := (HB6.out.ext HZ6.out).av 1 rfl
  have g2 := (HB6.out.ext HZ6.out).av 2 rfl
  simp only [pcells, List.getElem_toArray, List.getElem_cons_zero, List.getElem_cons_succ] at g0 g1 g2
  go_wp2_with fail
  refine HC.out.mono ?_
  intro e w7 hx
  obtain ⟨t7, z7, rfl, hei, hx7⟩ := hx
  have He7 := hid hei
  have Hx7 := hid hx7
  have HZ7 := hid (HZ6.out.trans hx7)
  clear HC hei hx7 g0 g1 g2
  have HPp9 := hid (HPS.out.on (Nat.le_refl _) (Hw9.out.trans HZ7.out))
  have HF := hid (rfprog_all a1 a2 a3 c1 c2 c3 P w7 HPp9.out.prog Hz1.out Hz2.out)
  have p0 := (HBp'.out.ext (Hw9.out.trans HZ7.out)).av 0 rfl
  have p1 := (HBp'.out.ext (Hw9.out.trans HZ7.out)).av 1 rfl
  have p2 := (HBp'.out.ext (Hw9.out.trans HZ7.out)).av 2 rfl
  simp only [pcells, List.getElem_toArray, List.getElem_cons_zero, List.getElem_cons_succ] at p0 p1 p2
  unfold pval at HF
  go_wp2_with fail
  refine HF.out.mono ?_
  intro e w8 hx
  obtain ⟨hx8, c, p, rfl, hfi⟩ := hx
  have Hfi := hid hfi
  obtain ⟨W6, hW6⟩ : ∃ W6, W6 = w8.alloc (.cells #[.int .i64 (c : Int), .int .i64 p] 63) := ⟨_, rfl⟩
  have hx6 : Ext w8 W6 := by rw [hW6]; exact (Ext.refl _).alloc _
  have HW6 := hid hW6
  have HX6 := hid (hx8.trans hx6)
  have HBf : Hid (Blk W6 w8.heap.size #[.int .i64 (c : Int), .int .i64 p] 63) := hid (by rw [hW6]; exact Blk.new _ _ _)
  clear HF hfi hx8 hx6 hW6 p0 p1 p2
  have hall : c ≠ 0 ∧ (∀ w1, Ext w4 w1 → AllErrs w1 ad → Calls Tryz.prog 85 #[.iface t4 (.pointer (some z4))] w1 fun e w' => e = .returned (.tuple #[.int .i64 (c : Int), .int .i64 p]) ∧ Ext w1 w') ∧ (∀ w1, Ext w5 w1 → AllErrs w1 ad → Calls Tryz.prog 85 #[.iface t5 (.pointer (some z5))] w1 fun e w' => e = .returned (.tuple #[.int .i64 (c : Int), .int .i64 p]) ∧ Ext w1 w') ∧ (∀ w1, Ext w6 w1 → AllErrs w1 ad → Calls Tryz.prog 85 #[.iface t6 (.pointer (some z6))] w1 fun e w' => e = .returned (.tuple #[.int .i64 (c : Int), .int .i64 p]) ∧ Ext w1 w') ∧ (∀ w1, Ext w7 w1 → AllErrs w1 ad → Calls Tryz.prog 85 #[.iface t7 (.pointer (some z7))] w1 fun e w' => e = .returned (.tuple #[.int .i64 (c : Int), .int .i64 p]) ∧ Ext w1 w') := by
    obtain ⟨q4, r4, hf4, h4, hc4⟩ := code_chk He4.out Hw.out
    obtain ⟨q5, r5, hf5, h5, hc5⟩ := code_chk He5.out Hw.out
    obtain ⟨q6, r6, hf6, h6, hc6⟩ := code_chk He6.out Hw.out
    obtain ⟨q7, r7, hf7, h7, hc7⟩ := code_chk He7.out Hw.out
    obtain ⟨rfl, rfl⟩ := Hfi.out.uniq hf4
    obtain ⟨rfl, rfl⟩ := Hfi.out.uniq hf5
    obtain ⟨rfl, rfl⟩ := Hfi.out.uniq hf6
    obtain ⟨rfl, rfl⟩ := Hfi.out.uniq hf7
    exact ⟨h4, hc4, hc5, hc6, hc7⟩
  obtain ⟨hc0, hc4, hc5, hc6, hc7⟩ := hall
  have Hc4 := hid hc4
  have Hc5 := hid hc5
  have Hc6 := hid hc6
  have Hc7 := hid hc7
  have c01 : 0 < (c : Int) := by omega
  have c00 : ((c : Int) == 0) = false := beq_eq_false_iff_ne.2 (by omega)
  have HZ := hid (HZ7.out.trans HX6.out)
  have Hq7 := hid HX6.out
  have Hq6 := hid (Hx7.out.trans HX6.out)
  have Hq5 := hid (Hx6.out.trans Hq6.out)
  have Hq4 := hid (Hx5.out.trans Hq5.out)
  have f0 := HBf.out.av 0 rfl
  have f1 := HBf.out.av 1 rfl
  simp only [List.getElem_toArray, List.getElem_cons_zero, List.getElem_cons_succ] at f0 f1
  rw [HW6.out] at f0 f1
  have HFa := hid (faulted2_at (w := W6) (HA9.out.ext HZ.out) fun w1 x hA => Hc4.out w1 (Hq4.out.trans x) hA)
  clear hc4 hc5 hc6 hc7 hc0
  go_wp2_with fail
  rw [← HW6.out]
  refine HFa.out.mono ?_
  intro e w9 hx
  obtain ⟨rfl, hx9⟩ := hx
  have Hx9 := hid hx9
  clear HFa hx9 f0 f1
  have f0 := (HBf.out.ext Hx9.out).av 0 rfl
  have f1 := (HBf.out.ext Hx9.out).av 1 rfl
  simp only [List.getElem_toArray, List.getElem_cons_zero, List.getElem_cons_succ] at f0 f1
  have HFa := hid (faulted2_at (w := w9) (HA9.out.ext (HZ.out.trans Hx9.out)) fun w1 x hA => Hc5.out w1 (Hq5.out.trans (Hx9.out.trans x)) hA)
  go_wp2_with fail
  refine HFa.out.mono ?_
  intro e w10 hx
  obtain ⟨rfl, hx10⟩ := hx
  have Hx10 := hid (Hx9.out.trans hx10)
  clear HFa hx10 f0 f1
  have f0 := (HBf.out.ext Hx10.out).av 0 rfl
  have f1 := (HBf.out.ext Hx10.out).av 1 rfl
  simp only [List.getElem_toArray, List.getElem_cons_zero, List.getElem_cons_succ] at f0 f1
  have HFa := hid (faulted2_at (w := w10) (HA9.out.ext (HZ.out.trans Hx10.out)) fun w1 x hA => Hc6.out w1 (Hq6.out.trans (Hx10.out.trans x)) hA)
  go_wp2_with fail
  refine HFa.out.mono ?_
  intro e w11 hx
  obtain ⟨rfl, hx11⟩ := hx
  have Hx11 := hid (Hx10.out.trans hx11)
  clear HFa hx11 f0 f1
  have f0 := (HBf.out.ext Hx11.out).av 0 rfl
  have f1 := (HBf.out.ext Hx11.out).av 1 rfl
  simp only [List.getElem_toArray, List.getElem_cons_zero, List.getElem_cons_succ] at f0 f1
  have HFa := hid (faulted2_at (w := w11) (HA9.out.ext (HZ.out.trans Hx11.out)) fun w1 x hA => Hc7.out w1 (Hq7.out.trans (Hx11.out.trans x)) hA)
  go_wp2_with fail
  refine HFa.out.mono ?_
  intro e w12 hx
  obtain ⟨rfl, hx12⟩ := hx
  have Hx12 := hid (Hx11.out.trans hx12)
  clear HFa hx12 f0 f1
  go_wp2
  go_ret
  exact ⟨rfl, HXw.out.trans (HZ.out.trans Hx12.out)⟩
end Go.Proofs.YtoaoienfggjepaaGreatDoor

