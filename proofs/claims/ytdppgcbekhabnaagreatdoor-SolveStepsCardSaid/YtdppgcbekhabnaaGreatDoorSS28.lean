/- SolveSteps: whatever the program and the steps, the law returns true, and its arguments read as they did: as the given card of that statement says it, with no further condition. -/
import Derived.Test.YtdppgcbekhabnaaGreatDoorSS12
import Derived.Test.YtdppgcbekhabnaaGreatDoorSS14
import Derived.Test.YtdppgcbekhabnaaGreatDoorSS15
import Derived.Test.YtdppgcbekhabnaaGreatDoorSS19
import Derived.Test.YtdppgcbekhabnaaGreatDoorSS23
import Derived.Test.YtdppgcbekhabnaaGreatDoorSS26
import Derived.Test.YtdppgcbekhabnaaGreatDoorSS27
import Derived.LaidHandle
import Derived.Test.YtdppgcbekhabnaaGreatDoorCards
import Derived.Test.YtdppgcbekhabnaaGreatDoorTie
import Derived.ProofKit
import Derived.LaidMore
import Derived.OpenShut
import Derived.Below
import Derived.Stop.Joined
import Derived.SevenTiedAt
import Derived.Lib.SmallJoins
import Derived.Lay
import Derived.MakeChecks
import Derived.Lib.LaidIn

/- RunDoes: the law walked: where the script, or the kind, is long. -/
namespace Go.Proofs.YtdppgcbekhabnaaGreatDoor
set_option linter.unusedSimpArgs false
set_option linter.unusedVariables false
open Go Go.RowKit

theorem rfprog_all (a1 a2 a3 : Option Addr) (c1 c2 c3 : Nat) (P : PP) (w : World) (h : ProgR w w.heap.size (.slice a1 P.vars.length c1) (.slice a2 P.funs.length c2) (.slice a3 P.stmts.length c3) P)
    (hz1 : ∀ s ∈ P.vars, s.size ≤ 1000000) (hz2 : ∀ s ∈ P.names, s.size ≤ 1000000) :
    Calls Tryz.prog 13 #[pval a1 a2 a3 c1 c2 c3 P] w fun e w' => Ext w w' ∧ ∃ (c : Nat) (p : Int), e = .returned (.agg #[.int .i64 (c : Int), .int .i64 p]) ∧ FaultIs P c p := by
  cases hb : P.big with
  | true => exact rfprog_big a1 a2 a3 c1 c2 c3 P w h hz1 hz2 hb
  | false => exact rfprog_no a1 a2 a3 c1 c2 c3 P w h hz1 hz2 hb
end Go.Proofs.YtdppgcbekhabnaaGreatDoor



/- ConsMore: the law walked. -/
namespace Go.Proofs.YtdppgcbekhabnaaGreatDoor
set_option linter.unusedSimpArgs false
set_option linter.unusedVariables false
open Go Go.RowKit

end Go.Proofs.YtdppgcbekhabnaaGreatDoor



/- ConsTells: what is told, in numbers; the law where the program is not well. -/
namespace Go.Proofs.YtdppgcbekhabnaaGreatDoor
set_option linter.unusedSimpArgs false
set_option linter.unusedVariables false
open Go Go.RowKit

/-- What a check that fails tells, in numbers. -/
theorem code_chk {ad : Nat → Addr} {P : PP} {w : World} {v : Value} (h : ErrIs ad P w v) (hw : ¬ P.Well) :
    ∃ c p, FaultIs P c p ∧ c ≠ 0 ∧ ∀ w1, Ext w w1 → AllErrs w1 ad → Calls Tryz.prog 47 #[v] w1 fun e w' => e = .returned (.tuple #[.int .i64 (c : Int), .int .i64 p]) ∧ Ext w1 w' := by
  rcases h with ⟨h3, rfl⟩ | ⟨h3, h4, rfl⟩ | ⟨h3, i, s, b, h4, rfl, hb⟩
  · have := P.err1_le
    exact ⟨P.err1, -1, .inl ⟨h3, rfl, rfl⟩, h3, fun w1 x hA => code_of w1 ad hA _ h3 (by omega)⟩
  · exact absurd ⟨h3, h4⟩ hw
  · have := P.stmtErr_le s
    exact ⟨P.stmtErr s, i, .inr (.inr ⟨h3, i, s, h4, rfl, rfl⟩), h4.2.1, fun w1 x hA => code_at w1 ad hA _ h4.2.1 (by omega) b _ (hb.ext x)⟩
theorem SFaultIs.uniq {P : PP} {has : List (List Int)} {c d : Nat} {p q : Int} (h : SFaultIs P has c p) (g : SFaultIs P has d q) : c = d ∧ p = q := by
  rcases h with ⟨h1, h2, h3⟩ | ⟨h1, h2, h3, h4⟩ | ⟨h1, i, l, h2, h3, h4, h5, h6⟩ <;> rcases g with ⟨g1, g2, g3⟩ | ⟨g1, g2, g3, g4⟩ | ⟨g1, j, m, g2, g3, g4, g5, g6⟩
  · exact ⟨h2.trans g2.symm, h3.trans g3.symm⟩
  · exact absurd g1 h1
  · exact absurd g1 h1
  · exact absurd h1 g1
  · exact ⟨h3.trans g3.symm, h4.trans g4.symm⟩
  · exact absurd (h2 m (List.mem_of_getElem? g2)) g3
  · exact absurd h1 g1
  · exact absurd (g2 l (List.mem_of_getElem? h2)) h3
  · have hij : i = j := by
      rcases Nat.lt_trichotomy i j with k | k | k
      · exact absurd (g4 i l k h2) h3
      · exact k
      · exact absurd (h4 j m k g2) g3
    subst hij
    obtain rfl := Option.some.inj (h2.symm.trans g2)
    exact ⟨h5.trans g5.symm, h6.trans g6.symm⟩
end Go.Proofs.YtdppgcbekhabnaaGreatDoor



/- FixLeast: the error and the fault; a round of rules where the program is not well, or the sets are at fault. -/
namespace Go.Proofs.YtdppgcbekhabnaaGreatDoor
set_option linter.unusedSimpArgs false
set_option linter.unusedVariables false
open Go Go.RowKit

set_option maxRecDepth 100000 in
set_option maxHeartbeats 800000 in
theorem faulted2_any (w : World) (v : Value) (c p : Int) (h : ∀ w1, Ext w w1 → Calls Tryz.prog 47 #[v] w1 fun e w' => e = .returned (.tuple #[.int .i64 c, .int .i64 p]) ∧ Ext w1 w') :
    Calls Tryz.prog 14 #[v, .agg #[.int .i64 c, .int .i64 p]] w fun e w' => e = .returned (.bool true) ∧ Ext w w' := by
  obtain ⟨W, hW⟩ : ∃ W, W = w.alloc (.cells #[.int .i64 c, .int .i64 p] 37) := ⟨_, rfl⟩
  have HX : Hid (Ext w W) := hid (by rw [hW]; exact (Ext.refl _).alloc _)
  have HB : Hid (Blk W w.heap.size #[.int .i64 c, .int .i64 p] 37) := hid (by rw [hW]; exact Blk.new _ _ _)
  have HWe := hid hW
  have HC := hid (h W HX.out)
  clear hW h
  go_enter Tryz.func14, Tryz.ntmps14
  go_wp2_with fail
  rw [← HWe.out]
  refine HC.out.mono ?_
  intro e w1 hx
  obtain ⟨rfl, hx1⟩ := hx
  have d0 := (HB.out.ext hx1).av 0 rfl
  have d1 := (HB.out.ext hx1).av 1 rfl
  simp only [List.getElem_toArray, List.getElem_cons_zero, List.getElem_cons_succ] at d0 d1
  have HX1 := hid (HX.out.trans hx1)
  clear HC HB HWe HX hx1
  by_cases h0 : c = 0
  · subst h0
    go_wp2
    go_ret
    exact ⟨rfl, HX1.out⟩
  · go_wp2
    go_ret
    exact ⟨rfl, HX1.out⟩
theorem faulted2_at {w : World} {v : Value} {c : Nat} {p : Int} {ad : Nat → Addr} (hA : AllErrs w ad) (h : ∀ w1, Ext w w1 → AllErrs w1 ad → Calls Tryz.prog 47 #[v] w1 fun e w' => e = .returned (.tuple #[.int .i64 (c : Int), .int .i64 p]) ∧ Ext w1 w') :
    Calls Tryz.prog 14 #[v, .agg #[.int .i64 (c : Int), .int .i64 p]] w fun e w' => e = .returned (.bool true) ∧ Ext w w' :=
  faulted2_any w v c p fun w1 x => h w1 x (hA.ext x)

theorem SetsIs.ext {ad : Nat → Addr} {P : PP} {has : List (List Int)} {w w' : World} {v : Value} (h : SetsIs ad P has w v) (x : Ext w w') : SetsIs ad P has w' v := by
  rcases h with h | h | ⟨h1, i, l, b, h2, h3, h4, h5, h6⟩
  · exact .inl h
  · exact .inr (.inl h)
  · exact .inr (.inr ⟨h1, i, l, b, h2, h3, h4, h5, h6.ext x⟩)
end Go.Proofs.YtdppgcbekhabnaaGreatDoor



/- SolveSteps: the law walked. -/
namespace Go.Proofs.YtdppgcbekhabnaaGreatDoor
set_option linter.unusedSimpArgs false
set_option linter.unusedVariables false
open Go Go.RowKit

theorem SetsR.newKeep {w w' : World} {base n0 : Nat} {v : Value} {L : List (List Int)} {X : Nat → Prop} (h : SetsR w n0 v L) (hn : NewS w base v) (k : Keep X w w') (hX : ∀ b, base ≤ b → b < n0 → ¬ X b) : SetsR w' n0 v L := by
  obtain ⟨a, cap, g1, g2, g3, g4, g5⟩ := h
  refine ⟨a, cap, g1, g2, g3, g4, fun y hy h0 => ?_⟩
  subst hy
  obtain ⟨q1, q2⟩ := g5 y rfl h0
  obtain ⟨k1, k2⟩ := hn y _ cap g1 h0
  refine ⟨q1, fun i hi l hl => ?_⟩
  obtain ⟨u, hu, hI⟩ := q2 i hi l hl
  refine ⟨u, k.cellx hu (by rw [add_block]; exact hX _ k1 q1), ?_⟩
  obtain ⟨b, bc, r1, r2, r3, r4, r5⟩ := hI
  refine ⟨b, bc, r1, r2, r3, r4, fun z hz hz0 => ?_⟩
  subst hz
  obtain ⟨s1, s2⟩ := r5 z rfl hz0
  have hzb : base ≤ z.block := k2 i u hi hu z.block (by rw [r1]; rfl)
  exact ⟨s1, fun j hj q hq => k.cellx (s2 j hj q hq) (by rw [add_block]; exact hX _ hzb s1)⟩
/-- How many objects came to the first nodes. -/
def sumObj (s : SV) (k : Nat) : Nat := ((List.range k).map fun n : Nat => (s.objs (n : Int)).length).sum
theorem sumObj_succ (s : SV) (k : Nat) : sumObj s (k + 1) = sumObj s k + (s.objs (k : Int)).length := by
  unfold sumObj
  rw [List.range_succ, List.map_append, List.sum_append]; simp
theorem sumObj_le {P : PP} {S : List (List Int)} {s : SV} (h : Core P S s) (hw : P.Well) : ∀ k, sumObj s k ≤ k * 126
  | 0 => Nat.le_refl _
  | k + 1 => by
    have h1 := sumObj_le h hw k
    have h2 := objs_few h (k : Int)
    have h3 := hw.nodes.2
    rw [sumObj_succ]
    omega
theorem objs_chk {P : PP} {S : List (List Int)} {s : SV} (hw : P.Well) (h : Core P S s) (n : Nat) : chkE (s.objs (n : Int)) = 0 := by
  have h2 := hw.nodes.2
  refine chkE_zero.2 ⟨fun x hx => ?_, objs_srt s n⟩
  obtain ⟨h0, hb⟩ := mem_objs.1 hx
  have := bit_few h (f := ((n : Int), x)) h0 hb
  simp only at this
  omega
theorem objs_within {P : PP} {S : List (List Int)} {s : SV} (h : Core P S s) (n : Nat) : ((s.objs (n : Int)).all fun x => decide (x ∈ S.getD n [])) = true := by
  rw [List.all_eq_true]
  exact fun x hx => decide_eq_true (h.sub n x hx)
theorem step_nil (P : PP) {s : SV} (h : s.wait = []) (hc : s.clean = s) (n : Int) : s.step P n = (s, 0) := by
  unfold SV.step
  rw [hc]
  exact steps_nil P _ h
theorem int_beq (a b : Nat) : ((a : Int) == (b : Int)) = decide (a = b) := by
  by_cases h : a = b
  · subst h; simp
  · rw [decide_eq_false h]; exact beq_eq_false_iff_ne.2 (by omega)
set_option maxRecDepth 100000 in
set_option maxHeartbeats 6400000 in
theorem solvestepslaw_no (a1 a2 a3 : Option Addr) (c1 c2 c3 : Nat) (P : PP) (as_ : Option Addr) (cs : Nat) (steps : List Int) (w : World) (ad : Nat → Addr) (hE : ErrsP w ad) (hA : AllErrs w ad) (hS : ErrS w ad) (hP : ProgR w w.heap.size (.slice a1 P.vars.length c1) (.slice a2 P.funs.length c2) (.slice a3 P.stmts.length c3) P) (hI : IntsR w w.heap.size (.slice as_ steps.length cs) steps) (hw : ¬ P.Well) :
    Calls Tryz.prog 3 #[pval a1 a2 a3 c1 c2 c3 P, .slice as_ steps.length cs] w fun e w' => e = .returned (.bool true) ∧ Ext w w' := by
  have HAA := hid hA
  have Hw := hid hw
  have hsl := hI.len
  clear hA hw hI
  have HE := hid hE
  have HS := hid hS
  have HP := hid hP
  obtain ⟨W1, hW1⟩ : ∃ W1, W1 = w.alloc (.cells (pcells a1 a2 a3 c1 c2 c3 P) 26) := ⟨_, rfl⟩
  have HX1 : Hid (Ext w W1) := hid (by rw [hW1]; exact (Ext.refl _).alloc _)
  have HB1 : Hid (Blk W1 w.heap.size (pcells a1 a2 a3 c1 c2 c3 P) 26) := hid (by rw [hW1]; exact Blk.new _ _ _)
  have HR := hid (solvedfact_any W1 ad (hE.ext HX1.out) (hS.ext HX1.out))
  have HW1 : Hid (W1 = w.alloc (.cells #[.slice a1 P.vars.length c1, .slice a2 P.funs.length c2, .slice a3 P.stmts.length c3] 26)) := hid (by rw [hW1]; rfl)
  unfold pval
  clear hE hS hP hW1
  go_enter Tryz.func3, Tryz.ntmps3
  go_wp2_with fail
  rw [← HW1.out]
  refine HR.out.mono ?_
  intro e w1 hx
  obtain ⟨rfl, hx1⟩ := hx
  have HL := hid (large_q a1 a2 a3 c1 c2 c3 25 (by omega) P w1 w.heap.size (HP.out.ext (HX1.out.trans hx1)))
  rw [show ((25 : Nat) : Int) = (25 : Int) from rfl] at HL
  unfold pval at HL
  have HX1' := hid (HX1.out.trans hx1)
  have HBp1 := hid (HB1.out.ext hx1)
  have p0 := HBp1.out.av 0 rfl
  have p1 := HBp1.out.av 1 rfl
  have p2 := HBp1.out.av 2 rfl
  simp only [pcells, List.getElem_toArray, List.getElem_cons_zero, List.getElem_cons_succ] at p0 p1 p2
  clear HR hx1
  go_wp2_with fail
  refine HL.out.mono ?_
  intro e w2 hx
  obtain ⟨r, rfl, hr, hsm, hx2⟩ := hx
  have HX2 := hid (HX1'.out.trans hx2)
  have HBp := hid (HBp1.out.ext hx2)
  clear HL hx2 p0 p1 p2
  rcases (by omega : r = 1 ∨ r = 0) with rfl | rfl
  · clear hsm hr
    go_wp2
    go_ret
    exact ⟨rfl, HX2.out⟩
  have HSm := hid (hsm rfl).1
  have HQl := hid (hsm rfl).2
  clear hsm hr
  by_cases hst : steps.length ≤ 40
  case neg =>
    go_wp2
    go_ret
    exact ⟨rfl, HX2.out⟩
  have hz1 : ∀ s ∈ P.vars, s.size ≤ 1000000 := fun s hs => by have := HSm.out.vs s hs; omega
  have hz2 : ∀ s ∈ P.names, s.size ≤ 1000000 := fun s hs => by
    obtain ⟨f, hf, rfl⟩ := List.mem_map.1 hs
    have := (HSm.out.fs f hf).1
    omega
  have Hz1 := hid hz1
  have Hz2 := hid hz2
  have HPS := hid (show PS0 w2 w2.heap.size ad a1 a2 a3 c1 c2 c3 P from ⟨HE.out.ext HX2.out, (HP.out.ext HX2.out).lift HX2.out.size, Hz1.out, Hz2.out⟩)
  clear hz1 hz2
  have HQ := hid (ownprogram_any a1 a2 a3 c1 c2 c3 P w2 HPS.out.prog HSm.out)
  have p0 := HBp.out.av 0 rfl
  have p1 := HBp.out.av 1 rfl
  have p2 := HBp.out.av 2 rfl
  simp only [pcells, List.getElem_toArray, List.getElem_cons_zero, List.getElem_cons_succ] at p0 p1 p2
  unfold pval at HQ
  go_wp2_with fail
  refine HQ.out.mono ?_
  intro e w3 hx
  obtain ⟨hx3, b1, b2, b3, d1, d2, d3, rfl, hq⟩ := hx
  have HX3 := hid (HX2.out.trans hx3)
  have Hx3 := hid hx3
  have HPQ := hid (show PS0 w3 w3.heap.size ad b1 b2 b3 d1 d2 d3 P from ⟨HE.out.ext HX3.out, hq, Hz1.out, Hz2.out⟩)
  have HS3 := hid (HS.out.ext HX3.out)
  clear HQ hx3 hq p0 p1 p2
  have HA3 := hid (HAA.out.ext HX3.out)
  have HN := hid (solvenew_no b1 b2 b3 d1 d2 d3 P w3 w3.heap.size ad HPQ.out (Nat.le_refl _) Hw.out)
  unfold pval at HN
  go_wp2_with fail
  refine HN.out.mono ?_
  intro e w4 hx
  obtain ⟨t4, z4, rfl, hei, hx4⟩ := hx
  have He4 := hid hei
  have Hx4 := hid hx4
  clear HN hei hx4
  have HPp9 := hid (HPS.out.on (Nat.le_refl _) (Hx3.out.trans Hx4.out))
  have HF9 := hid (rfprog_all a1 a2 a3 c1 c2 c3 P w4 HPp9.out.prog Hz1.out Hz2.out)
  have p0 := (HBp.out.ext (Hx3.out.trans Hx4.out)).av 0 rfl
  have p1 := (HBp.out.ext (Hx3.out.trans Hx4.out)).av 1 rfl
  have p2 := (HBp.out.ext (Hx3.out.trans Hx4.out)).av 2 rfl
  simp only [pcells, List.getElem_toArray, List.getElem_cons_zero, List.getElem_cons_succ] at p0 p1 p2
  unfold pval at HF9
  go_wp2_with fail
  refine HF9.out.mono ?_
  intro e w8 hx
  obtain ⟨hx8, c, p, rfl, hfi⟩ := hx
  have Hfi := hid hfi
  obtain ⟨W6, hW6⟩ : ∃ W6, W6 = w8.alloc (.cells #[.int .i64 (c : Int), .int .i64 p] 37) := ⟨_, rfl⟩
  have hx6 : Ext w8 W6 := by rw [hW6]; exact (Ext.refl _).alloc _
  have HW6 := hid hW6
  have HX6 := hid (hx8.trans hx6)
  have HBf : Hid (Blk W6 w8.heap.size #[.int .i64 (c : Int), .int .i64 p] 37) := hid (by rw [hW6]; exact Blk.new _ _ _)
  clear HF9 hfi hx8 hx6 hW6 p0 p1 p2
  obtain ⟨q4, r4, hf4, h4, hc4⟩ := code_chk He4.out Hw.out
  obtain ⟨rfl, rfl⟩ := Hfi.out.uniq hf4
  have Hc4 := hid hc4
  have c01 : 0 < (c : Int) := by omega
  have f0 := HBf.out.av 0 rfl
  have f1 := HBf.out.av 1 rfl
  simp only [List.getElem_toArray, List.getElem_cons_zero, List.getElem_cons_succ] at f0 f1
  rw [HW6.out] at f0 f1
  have HFa := hid (faulted2_at (w := W6) (HA3.out.ext (Hx4.out.trans HX6.out)) fun w1 x hA => Hc4.out w1 (HX6.out.trans x) hA)
  clear hf4 hc4 h4
  go_wp2_with fail
  rw [← HW6.out]
  refine HFa.out.mono ?_
  intro e w9 hx
  obtain ⟨rfl, hx9⟩ := hx
  have HX9 := hid (HX3.out.trans (Hx4.out.trans (HX6.out.trans hx9)))
  clear HFa hx9 f0 f1
  go_wp2
  go_ret
  exact ⟨rfl, HX9.out⟩
set_option maxRecDepth 100000 in
set_option maxHeartbeats 12800000 in
theorem solvestepslaw_yes (a1 a2 a3 : Option Addr) (c1 c2 c3 : Nat) (P : PP) (as_ : Option Addr) (cs : Nat) (steps : List Int) (w : World) (ad : Nat → Addr) (hE : ErrsP w ad) (hA : AllErrs w ad) (hS : ErrS w ad) (hP : ProgR w w.heap.size (.slice a1 P.vars.length c1) (.slice a2 P.funs.length c2) (.slice a3 P.stmts.length c3) P) (hI : IntsR w w.heap.size (.slice as_ steps.length cs) steps) (hw : P.Well) :
    Calls Tryz.prog 3 #[pval a1 a2 a3 c1 c2 c3 P, .slice as_ steps.length cs] w fun e w' => e = .returned (.bool true) ∧ Ext w w' := by
  have HAA := hid hA
  have Hw := hid hw
  have hsl := hI.len
  have HIs := hid hI
  clear hA hw hI
  have HE := hid hE
  have HS := hid hS
  have HP := hid hP
  obtain ⟨W1, hW1⟩ : ∃ W1, W1 = w.alloc (.cells (pcells a1 a2 a3 c1 c2 c3 P) 26) := ⟨_, rfl⟩
  have HX1 : Hid (Ext w W1) := hid (by rw [hW1]; exact (Ext.refl _).alloc _)
  have HB1 : Hid (Blk W1 w.heap.size (pcells a1 a2 a3 c1 c2 c3 P) 26) := hid (by rw [hW1]; exact Blk.new _ _ _)
  have HR := hid (solvedfact_any W1 ad (hE.ext HX1.out) (hS.ext HX1.out))
  have HW1 : Hid (W1 = w.alloc (.cells #[.slice a1 P.vars.length c1, .slice a2 P.funs.length c2, .slice a3 P.stmts.length c3] 26)) := hid (by rw [hW1]; rfl)
  unfold pval
  clear hE hS hP hW1
  go_enter Tryz.func3, Tryz.ntmps3
  go_wp2_with fail
  rw [← HW1.out]
  refine HR.out.mono ?_
  intro e w1 hx
  obtain ⟨rfl, hx1⟩ := hx
  have HL := hid (large_q a1 a2 a3 c1 c2 c3 25 (by omega) P w1 w.heap.size (HP.out.ext (HX1.out.trans hx1)))
  rw [show ((25 : Nat) : Int) = (25 : Int) from rfl] at HL
  unfold pval at HL
  have HX1' := hid (HX1.out.trans hx1)
  have HBp1 := hid (HB1.out.ext hx1)
  have p0 := HBp1.out.av 0 rfl
  have p1 := HBp1.out.av 1 rfl
  have p2 := HBp1.out.av 2 rfl
  simp only [pcells, List.getElem_toArray, List.getElem_cons_zero, List.getElem_cons_succ] at p0 p1 p2
  clear HR hx1
  go_wp2_with fail
  refine HL.out.mono ?_
  intro e w2 hx
  obtain ⟨r, rfl, hr, hsm, hx2⟩ := hx
  have HX2 := hid (HX1'.out.trans hx2)
  have HBp := hid (HBp1.out.ext hx2)
  clear HL hx2 p0 p1 p2
  rcases (by omega : r = 1 ∨ r = 0) with rfl | rfl
  · clear hsm hr
    go_wp2
    go_ret
    exact ⟨rfl, HX2.out⟩
  have HSm := hid (hsm rfl).1
  have HQl := hid (hsm rfl).2
  clear hsm hr
  by_cases hst : steps.length ≤ 40
  case neg =>
    go_wp2
    go_ret
    exact ⟨rfl, HX2.out⟩
  have hz1 : ∀ s ∈ P.vars, s.size ≤ 1000000 := fun s hs => by have := HSm.out.vs s hs; omega
  have hz2 : ∀ s ∈ P.names, s.size ≤ 1000000 := fun s hs => by
    obtain ⟨f, hf, rfl⟩ := List.mem_map.1 hs
    have := (HSm.out.fs f hf).1
    omega
  have Hz1 := hid hz1
  have Hz2 := hid hz2
  have HPS := hid (show PS0 w2 w2.heap.size ad a1 a2 a3 c1 c2 c3 P from ⟨HE.out.ext HX2.out, (HP.out.ext HX2.out).lift HX2.out.size, Hz1.out, Hz2.out⟩)
  clear hz1 hz2
  have HQ := hid (ownprogram_any a1 a2 a3 c1 c2 c3 P w2 HPS.out.prog HSm.out)
  have p0 := HBp.out.av 0 rfl
  have p1 := HBp.out.av 1 rfl
  have p2 := HBp.out.av 2 rfl
  simp only [pcells, List.getElem_toArray, List.getElem_cons_zero, List.getElem_cons_succ] at p0 p1 p2
  unfold pval at HQ
  go_wp2_with fail
  refine HQ.out.mono ?_
  intro e w3 hx
  obtain ⟨hx3, b1, b2, b3, d1, d2, d3, rfl, hq⟩ := hx
  have HX3 := hid (HX2.out.trans hx3)
  have Hx3 := hid hx3
  have HPQ := hid (show PS0 w3 w3.heap.size ad b1 b2 b3 d1 d2 d3 P from ⟨HE.out.ext HX3.out, hq, Hz1.out, Hz2.out⟩)
  have HS3 := hid (HS.out.ext HX3.out)
  clear HQ hx3 hq p0 p1 p2
  have HA3 := hid (HAA.out.ext HX3.out)
  obtain ⟨n, S, hL⟩ := least_exists Hw.out
  have HLe := hid hL
  have HG := hid (hL.good Hw.out)
  have HCl := hid (hL.closed Hw.out)
  have HSl := hid HG.out.2.1
  obtain ⟨hn1, hn2⟩ := Hw.out.nodes
  obtain ⟨ho, hr, ht⟩ := start_ok HG.out HCl.out
  have HO := hid ho
  have HRu := hid hr
  have HTo := hid ht
  have HN := hid (solvenew_yes b1 b2 b3 d1 d2 d3 P S w3 w3.heap.size ad (HPQ.out.pw Hw.out) (Nat.le_refl _) HSm.out HG.out HCl.out)
  have hn12 := HLe.out.few Hw.out
  have hS120 : S.length ≤ 120 := by rw [HSl.out]; exact hn1
  unfold pval at HN
  clear hL ho hr ht
  go_wp2_with fail
  refine HN.out.mono ?_
  intro e w4 hx
  obtain ⟨g, G, F, vr, vh, rs, hs, rfl, hF, hS4, hx4⟩ := hx
  have HF := hid hF
  have HS4 := hid (show SolvAt w4 G F g ad P vr rs vh hs (SV.start P) from hS4)
  have Hx4 := hid hx4
  clear HN hF hS4 hx4
  have HPp9 := hid (HPS.out.on (Nat.le_refl _) (Hx3.out.trans Hx4.out))
  have HF9 := hid (rfprog_all a1 a2 a3 c1 c2 c3 P w4 HPp9.out.prog Hz1.out Hz2.out)
  have p0 := (HBp.out.ext (Hx3.out.trans Hx4.out)).av 0 rfl
  have p1 := (HBp.out.ext (Hx3.out.trans Hx4.out)).av 1 rfl
  have p2 := (HBp.out.ext (Hx3.out.trans Hx4.out)).av 2 rfl
  simp only [pcells, List.getElem_toArray, List.getElem_cons_zero, List.getElem_cons_succ] at p0 p1 p2
  unfold pval at HF9
  go_wp2_with fail
  refine HF9.out.mono ?_
  intro e w8 hx
  obtain ⟨hx8, c, p, rfl, hfi⟩ := hx
  have Hfi := hid hfi
  obtain ⟨W6, hW6⟩ : ∃ W6, W6 = w8.alloc (.cells #[.int .i64 (c : Int), .int .i64 p] 37) := ⟨_, rfl⟩
  have hx6 : Ext w8 W6 := by rw [hW6]; exact (Ext.refl _).alloc _
  have HW6 := hid hW6
  have HX6 := hid (hx8.trans hx6)
  have HBf : Hid (Blk W6 w8.heap.size #[.int .i64 (c : Int), .int .i64 p] 37) := hid (by rw [hW6]; exact Blk.new _ _ _)
  clear HF9 hfi hx8 hx6 hW6 p0 p1 p2
  obtain ⟨rfl, rfl⟩ := Hfi.out.uniq (show FaultIs P 0 (-1) from .inr (.inl ⟨Hw.out.1, Hw.out.2, rfl, rfl⟩))
  have HW6z : Hid (W6 = w8.alloc (.cells #[.int .i64 0, .int .i64 (-1)] 37)) := hid HW6.out
  have HBfz : Hid (Blk W6 w8.heap.size #[.int .i64 0, .int .i64 (-1)] 37) := hid HBf.out
  have HC := hid (rleastof_new a1 a2 a3 c1 c2 c3 P W6 (HPS.out.on (Nat.le_refl _) (Hx3.out.trans (Hx4.out.trans HX6.out))).prog Hw.out n S HLe.out)
  rw [← HSl.out] at HC
  unfold pval at HC
  have f0 := HBfz.out.av 0 rfl
  have f1 := HBfz.out.av 1 rfl
  have p0 := (HBp.out.ext (Hx3.out.trans (Hx4.out.trans HX6.out))).av 0 rfl
  have p1 := (HBp.out.ext (Hx3.out.trans (Hx4.out.trans HX6.out))).av 1 rfl
  have p2 := (HBp.out.ext (Hx3.out.trans (Hx4.out.trans HX6.out))).av 2 rfl
  simp only [pcells, List.getElem_toArray, List.getElem_cons_zero, List.getElem_cons_succ] at f0 f1 p0 p1 p2
  rw [HW6z.out] at f0 f1 p0 p1 p2
  clear HW6 HBf Hfi
  go_wp2_with fail
  rw [← HW6z.out]
  refine HC.out.mono ?_
  intro e w7 hx
  obtain ⟨ah, ch, rfl, hs7, hns, hx7⟩ := hx
  have Hsn := hid hs7
  have HNs := hid hns
  have hhl := hs7.len
  have HXz := hid (HX3.out.trans (Hx4.out.trans (HX6.out.trans hx7)))
  obtain ⟨F7, hF7⟩ : ∃ F7 : Nat → Prop, F7 = fun b => F b ∨ (w4.heap.size ≤ b ∧ b < w7.heap.size) := ⟨_, rfl⟩
  have HS7 := hid (HS4.out.frz (HX6.out.trans hx7))
  rw [← hF7] at HS7
  have HF7 : Hid (∀ b, b < w.heap.size → F7 b) := hid fun b hb => by rw [hF7]; exact .inl (HF.out b (Nat.lt_of_lt_of_le hb HX3.out.size))
  have HFn : Hid (∀ b, W6.heap.size ≤ b → b < w7.heap.size → F7 b) := hid fun b h1 h2 => by rw [hF7]; exact .inr ⟨Nat.le_trans HX6.out.size h1, h2⟩
  clear HC hs7 hns hx7 hF7 f0 f1 p0 p1 p2
  have hts : totS P S = sumUp S S.length := by unfold totS sumUp; rw [HSl.out]
  have Hts := hid hts
  have htf : ∀ k, k ≤ S.length → sumUp S k ≤ 15120 := fun k hk => by
    obtain ⟨_, _, _, _, r5, r6, _⟩ := run_end HLe.out Hw.out HO.out HRu.out
    rw [HTo.out, Nat.zero_add] at r5
    have := sumUp_le S k (S.length - k)
    rw [show k + (S.length - k) = S.length by omega, ← hts, ← r5] at this
    omega
  have Htf := hid htf
  clear hts htf
  go_wp2
  go_loopw [11, 12] (fun t11 t12 wr => ∃ k d : Nat, t12 = .int .i64 (k : Int) ∧ t11 = .int .i64 (d : Int) ∧ k ≤ S.length ∧ d = sumUp S k ∧ Ext w7 wr) (fun _ t12 _ => S.length - (intOf t12).toNat)
  case atStart => exact ⟨0, 0, rfl, rfl, Nat.zero_le _, rfl, Ext.refl _⟩
  case round =>
    obtain ⟨k, d, rfl, rfl, hk, hd, hx8⟩ := hrel
    have Hx8 := hid hx8
    have Hd := hid hd
    have hd2 : d ≤ 15120 := by rw [hd]; exact Htf.out k hk
    clear hx8 hd
    by_cases hlt : k < S.length
    · obtain ⟨y, l, bl, cl, hy, hl, hc, hI⟩ := (Hsn.out.ext Hx8.out).at hlt
      subst hy
      have hlg : S.getD k [] = l := by rw [List.getD_eq_getElem?_getD, hl]; rfl
      have hsu := sumUp_succ S k
      rw [hlg] at hsu
      have Hd8 : Hid (d + l.length = sumUp S (k + 1)) := hid (by rw [hsu, Hd.out])
      have hdl : d + l.length ≤ 15120 := by rw [Hd8.out]; exact Htf.out (k + 1) hlt
      clear hl hI hlg hsu
      go_wp2
      go_roundw
      case rel => exact ⟨k + 1, d + l.length, by go_num, by go_num, by omega, Hd8.out, Hx8.out⟩
      case measure => simp [intOf]; omega
    · obtain rfl : k = S.length := by omega
      have Hda : Hid (d = totS P S) := hid (by rw [Hd.out, Hts.out])
      have HSa := hid (HS7.out.ext Hx8.out)
      have Hx79 := Hx8
      clear HS7 Hd
      go_wp2
      go_loopw [13, 14] (fun t13 t14 wr => ∃ (i came : Nat) (s : SV), t14 = .int .i64 (i : Int) ∧ t13 = .int .i64 (came : Int) ∧ i ≤ steps.length ∧ came = s.tot P ∧ SolvOk P S s ∧ s.rules = P.rulesV ∧ SolvAt wr G F7 g ad P vr rs vh hs s ∧ Keep (fun b => ¬ F7 b) w7 wr) (fun _ t14 _ => steps.length - (intOf t14).toNat)
      case atStart => exact ⟨0, 0, SV.start P, rfl, rfl, Nat.zero_le _, HTo.out.symm, HO.out, HRu.out, HSa.out, Hx8.out.keep _⟩
      case round =>
        clear HSa Hx8 Hx79
        obtain ⟨i, came, s, rfl, rfl, hi, hcm, hO, hrl, hS8, hK8⟩ := hrel
        have HS8 := hid hS8
        have HK8 := hid hK8
        have Hcm := hid hcm
        have HO8 := hid hO
        have Hrl := hid hrl
        have hcf : came ≤ 15120 := by rw [hcm]; exact tot_few Hw.out hO.full.core
        clear hS8 hK8 hcm hO hrl
        by_cases hlt : i < steps.length
        · have hOld : Old w.heap.size w wr := (HXz.out.old _).trans (HK8.out.mono fun b _ hx => Nat.le_of_not_lt fun h => hx (HF7.out b h))
          obtain ⟨ys, q, hys, hq, hcq⟩ := (HIs.out.old hOld).at hlt
          subst hys
          have Hcq := hid hcq
          have HSt := hid (solvestep_any P S s q wr G F7 g ad HS8.out HO8.out HG.out HCl.out)
          obtain ⟨k1, k2, k3, k4, k5, k6⟩ := HO8.out.step HG.out HCl.out q
          obtain ⟨s1, hs1⟩ : ∃ s1, s1 = (s.step P q).1 := ⟨_, rfl⟩
          obtain ⟨K, hK⟩ : ∃ K, K = (s.step P q).2 := ⟨_, rfl⟩
          rw [← hs1] at HSt k1 k2 k3 k4 k6
          rw [← hK] at HSt k4 k5 k6
          have HO1 := hid k1
          have Hrd := hid k2
          have Hrl1 := hid (k3.trans Hrl.out)
          have Htt : Hid (came + K = s1.tot P) := hid (by rw [k4, Hcm.out])
          have hcf1 : came + K ≤ 15120 := by rw [Htt.out]; exact tot_few Hw.out k1.full.core
          have Hid1 := hid (clean_idem k2)
          have Hwt := hid k6
          have hkq : (K : Int) ≤ q ∨ K = 0 := by omega
          have Hq := hid hq
          clear hq k1 k2 k3 k4 k5 k6 hs1 hK hOld
          go_wp2_with fail
          refine HSt.out.mono ?_
          intro e w9 hx
          obtain ⟨rfl, hS9, hK9⟩ := hx
          have HS9 := hid hS9
          have HK9 := hid (HK8.out.trans hK9)
          have hcq9 : w9.cell? (ys.add i) = some (.int .i64 q) := by
            obtain ⟨ys2, q2, hys2, hq2, hcq2⟩ := (HIs.out.old ((HXz.out.old _).trans (HK9.out.mono fun b _ hx => Nat.le_of_not_lt fun h => hx (HF7.out b h)))).at hlt
            obtain rfl := Option.some.inj hys2
            obtain rfl := Option.some.inj (Hq.out.symm.trans hq2)
            exact hcq2
          clear HSt hS9 hK9 hcq
          by_cases hk0 : 1 ≤ K
          · have hkq1 : (K : Int) ≤ q := by omega
            clear hkq
            by_cases hkl : (K : Int) < q
            · have HDo := hid (solvedone_any P S s1 w9 G F7 g ad HS9.out HO1.out.full.core HG.out)
              rw [Hid1.out, decide_eq_true (Hwt.out (by omega))] at HDo
              go_wp2_with fail
              refine HDo.out.mono ?_
              intro e w10 hx
              obtain ⟨rfl, hS10, hK10⟩ := hx
              have HS10 := hid hS10
              have HK10 := hid (HK9.out.trans hK10)
              clear HDo hS10 hK10
              have Hs1 := hid (Hsn.out.newKeep HNs.out HK10.out fun b h1 h2 hx => hx (HFn.out b h1 h2))
              have Hsz := hid (Keep.size HK10.out)
              go_wp2
              clear hcq9
              go_loopw [16, 17] (fun t16 t17 wr => ∃ j m0 : Nat, t17 = .int .i64 (j : Int) ∧ t16 = .int .i64 (m0 : Int) ∧ j ≤ S.length ∧ m0 = sumObj s1 j ∧ SolvAt wr G F7 g ad P vr rs vh hs s1 ∧ Ext w10 wr) (fun _ t17 _ => S.length - (intOf t17).toNat)
              case atStart => exact ⟨0, 0, rfl, rfl, Nat.zero_le _, rfl, HS10.out, Ext.refl _⟩
              case round =>
                obtain ⟨j, m0, rfl, rfl, hj, hd, hS9, hx9⟩ := hrel
                have HS19 := hid hS9
                have Hx19 := hid hx9
                have Hd19 := hid hd
                have hd2 : m0 ≤ 15120 := by rw [hd]; have := sumObj_le HO1.out.full.core Hw.out j; omega
                clear hS9 hx9 hd
                by_cases hlj : j < S.length
                · obtain ⟨y, l, bl, cl, hy, hl, hc, hIl⟩ := (Hs1.out.ext Hx19.out).at hlj
                  subst hy
                  have hll := hIl.len
                  have hlg : S.getD j [] = l := by rw [List.getD_eq_getElem?_getD, hl]; rfl
                  have hjn : j < P.nodesV := by rw [← HSl.out]; exact hlj
                  have HHa := hid (solvehas_any P S s1 (j : Int) wr G F7 g ad HS19.out HO1.out.full.core)
                  rw [show s1.hasL P (j : Int) = s1.objs (j : Int) by unfold SV.hasL; rw [if_neg (by omega)]] at HHa
                  have hck := objs_chk Hw.out HO1.out.full.core j
                  have hwi := objs_within HO1.out.full.core j
                  have hfew := objs_few HO1.out.full.core (j : Int)
                  rw [hlg] at hwi
                  obtain ⟨m, hm⟩ : ∃ m, m = s1.objs (j : Int) := ⟨_, rfl⟩
                  have hsu := sumObj_succ s1 j
                  rw [← hm] at HHa hck hwi hfew hsu
                  have Hsu : Hid (m0 + m.length = sumObj s1 (j + 1)) := hid (by rw [hsu, Hd19.out])
                  have hml : m.length ≤ 126 := by omega
                  have HI := hid hIl
                  have Hc := hid hc
                  have Hck := hid hck
                  have Hwi := hid hwi
                  clear hl hIl hlg hck hwi hsu hm hc hfew hjn
                  go_wp2_with fail
                  refine HHa.out.mono ?_
                  intro e w10 hx
                  obtain ⟨v, rfl, hr, hS10, hx10⟩ := hx
                  obtain ⟨av, cv, rfl⟩ := hr.form
                  have HIm := hid (IntsR.own hr (Nat.le_refl _))
                  have HS10 := hid hS10
                  have Hx10 := hid hx10
                  have HSe := hid (rseterror_any (.slice av m.length cv) m w10 w10.heap.size HIm.out)
                  rw [Hck.out] at HSe
                  clear HHa hr hS10 hx10
                  go_wp2_with fail
                  refine HSe.out.mono ?_
                  intro e w11 hx
                  obtain ⟨rfl, hx11⟩ := hx
                  have Hxx11 := hid hx11
                  have Hx11 := hid (Hx10.out.trans hx11)
                  have HWi := hid (setwithin_any (.slice av m.length cv) (.slice bl l.length cl) m l w11 w11.heap.size ((HIm.out.old (hx11.old _)).lift hx11.size) ((HI.out.old (Hx11.out.old _)).lift (Nat.le_trans Hsz.out (Nat.le_trans Hx19.out.size Hx11.out.size))))
                  rw [Hwi.out] at HWi
                  have hc11 := Hx11.out.cellx Hc.out
                  clear HSe hx11
                  go_wp2_with fail
                  refine HWi.out.mono ?_
                  intro e w12 hx
                  obtain ⟨rfl, hx12⟩ := hx
                  have Hx12 := hid (Hx11.out.trans hx12)
                  have HS12 := hid (HS10.out.ext (Hxx11.out.trans hx12))
                  clear HWi hx12 hc11
                  go_wp2
                  go_roundw
                  case rel => exact ⟨j + 1, m0 + m.length, by go_num, by go_num, by omega, Hsu.out, HS12.out, Hx19.out.trans Hx12.out⟩
                  case measure => simp [intOf]; omega
                · obtain rfl : j = S.length := by omega
                  have htot : m0 = came + K := by rw [Hd19.out, Htt.out]; unfold sumObj SV.tot; rw [HSl.out]
                  have hne : ((m0 : Int) != (came : Int) + (K : Int)) = false := by rw [htot]; simp
                  have HDo2 := hid (solvedone_any P S s1 wr G F7 g ad HS19.out HO1.out.full.core HG.out)
                  rw [Hid1.out] at HDo2
                  have hDb : ((came : Int) + (K : Int) == (d : Int)) = decide (s1.wait = []) := by
                    rw [← Int.natCast_add, int_beq]
                    have := HO1.out.full.all HLe.out Hw.out (fun r h => by rw [Hrl1.out]; exact h) Hrd.out
                    rw [decide_eq_decide, this, Htt.out, Hda.out]
                  obtain ⟨Db, hDe⟩ : ∃ Db, Db = decide (s1.wait = []) := ⟨_, rfl⟩
                  rw [← hDe] at HDo2 hDb
                  have HKz := hid (Keep.ext_r HK10.out Hx19.out)
                  clear htot hDe
                  go_wp2_with fail
                  refine HDo2.out.mono ?_
                  intro e w13 hx
                  obtain ⟨rfl, hS13, hK13⟩ := hx
                  have HS13 := hid hS13
                  have HK13 := hid (HKz.out.trans hK13)
                  clear HDo2 hS13 hK13
                  cases Db with
                  | false =>
                    go_wp2
                    go_roundw
                    case rel => exact ⟨i + 1, came + K, s1, by go_num, by go_num, by omega, Htt.out, HO1.out, Hrl1.out, HS13.out, HK13.out⟩
                    case measure => simp [intOf]; omega
                  | true =>
                    go_wp2
                    go_roundw
                    case rel => exact ⟨i + 1, came + K, s1, by go_num, by go_num, by omega, Htt.out, HO1.out, Hrl1.out, HS13.out, HK13.out⟩
                    case measure => simp [intOf]; omega
            · have Hs1 := hid (Hsn.out.newKeep HNs.out HK9.out fun b h1 h2 hx => hx (HFn.out b h1 h2))
              have Hsz := hid (Keep.size HK9.out)
              go_wp2
              clear hcq9
              go_loopw [16, 17] (fun t16 t17 wr => ∃ j m0 : Nat, t17 = .int .i64 (j : Int) ∧ t16 = .int .i64 (m0 : Int) ∧ j ≤ S.length ∧ m0 = sumObj s1 j ∧ SolvAt wr G F7 g ad P vr rs vh hs s1 ∧ Ext w9 wr) (fun _ t17 _ => S.length - (intOf t17).toNat)
              case atStart => exact ⟨0, 0, rfl, rfl, Nat.zero_le _, rfl, HS9.out, Ext.refl _⟩
              case round =>
                obtain ⟨j, m0, rfl, rfl, hj, hd, hS9, hx9⟩ := hrel
                have HS19 := hid hS9
                have Hx19 := hid hx9
                have Hd19 := hid hd
                have hd2 : m0 ≤ 15120 := by rw [hd]; have := sumObj_le HO1.out.full.core Hw.out j; omega
                clear hS9 hx9 hd
                by_cases hlj : j < S.length
                · obtain ⟨y, l, bl, cl, hy, hl, hc, hIl⟩ := (Hs1.out.ext Hx19.out).at hlj
                  subst hy
                  have hll := hIl.len
                  have hlg : S.getD j [] = l := by rw [List.getD_eq_getElem?_getD, hl]; rfl
                  have hjn : j < P.nodesV := by rw [← HSl.out]; exact hlj
                  have HHa := hid (solvehas_any P S s1 (j : Int) wr G F7 g ad HS19.out HO1.out.full.core)
                  rw [show s1.hasL P (j : Int) = s1.objs (j : Int) by unfold SV.hasL; rw [if_neg (by omega)]] at HHa
                  have hck := objs_chk Hw.out HO1.out.full.core j
                  have hwi := objs_within HO1.out.full.core j
                  have hfew := objs_few HO1.out.full.core (j : Int)
                  rw [hlg] at hwi
                  obtain ⟨m, hm⟩ : ∃ m, m = s1.objs (j : Int) := ⟨_, rfl⟩
                  have hsu := sumObj_succ s1 j
                  rw [← hm] at HHa hck hwi hfew hsu
                  have Hsu : Hid (m0 + m.length = sumObj s1 (j + 1)) := hid (by rw [hsu, Hd19.out])
                  have hml : m.length ≤ 126 := by omega
                  have HI := hid hIl
                  have Hc := hid hc
                  have Hck := hid hck
                  have Hwi := hid hwi
                  clear hl hIl hlg hck hwi hsu hm hc hfew hjn
                  go_wp2_with fail
                  refine HHa.out.mono ?_
                  intro e w10 hx
                  obtain ⟨v, rfl, hr, hS10, hx10⟩ := hx
                  obtain ⟨av, cv, rfl⟩ := hr.form
                  have HIm := hid (IntsR.own hr (Nat.le_refl _))
                  have HS10 := hid hS10
                  have Hx10 := hid hx10
                  have HSe := hid (rseterror_any (.slice av m.length cv) m w10 w10.heap.size HIm.out)
                  rw [Hck.out] at HSe
                  clear HHa hr hS10 hx10
                  go_wp2_with fail
                  refine HSe.out.mono ?_
                  intro e w11 hx
                  obtain ⟨rfl, hx11⟩ := hx
                  have Hxx11 := hid hx11
                  have Hx11 := hid (Hx10.out.trans hx11)
                  have HWi := hid (setwithin_any (.slice av m.length cv) (.slice bl l.length cl) m l w11 w11.heap.size ((HIm.out.old (hx11.old _)).lift hx11.size) ((HI.out.old (Hx11.out.old _)).lift (Nat.le_trans Hsz.out (Nat.le_trans Hx19.out.size Hx11.out.size))))
                  rw [Hwi.out] at HWi
                  have hc11 := Hx11.out.cellx Hc.out
                  clear HSe hx11
                  go_wp2_with fail
                  refine HWi.out.mono ?_
                  intro e w12 hx
                  obtain ⟨rfl, hx12⟩ := hx
                  have Hx12 := hid (Hx11.out.trans hx12)
                  have HS12 := hid (HS10.out.ext (Hxx11.out.trans hx12))
                  clear HWi hx12 hc11
                  go_wp2
                  go_roundw
                  case rel => exact ⟨j + 1, m0 + m.length, by go_num, by go_num, by omega, Hsu.out, HS12.out, Hx19.out.trans Hx12.out⟩
                  case measure => simp [intOf]; omega
                · obtain rfl : j = S.length := by omega
                  have htot : m0 = came + K := by rw [Hd19.out, Htt.out]; unfold sumObj SV.tot; rw [HSl.out]
                  have hne : ((m0 : Int) != (came : Int) + (K : Int)) = false := by rw [htot]; simp
                  have HDo2 := hid (solvedone_any P S s1 wr G F7 g ad HS19.out HO1.out.full.core HG.out)
                  rw [Hid1.out] at HDo2
                  have hDb : ((came : Int) + (K : Int) == (d : Int)) = decide (s1.wait = []) := by
                    rw [← Int.natCast_add, int_beq]
                    have := HO1.out.full.all HLe.out Hw.out (fun r h => by rw [Hrl1.out]; exact h) Hrd.out
                    rw [decide_eq_decide, this, Htt.out, Hda.out]
                  obtain ⟨Db, hDe⟩ : ∃ Db, Db = decide (s1.wait = []) := ⟨_, rfl⟩
                  rw [← hDe] at HDo2 hDb
                  have HKz := hid (Keep.ext_r HK9.out Hx19.out)
                  clear htot hDe
                  go_wp2_with fail
                  refine HDo2.out.mono ?_
                  intro e w13 hx
                  obtain ⟨rfl, hS13, hK13⟩ := hx
                  have HS13 := hid hS13
                  have HK13 := hid (HKz.out.trans hK13)
                  clear HDo2 hS13 hK13
                  cases Db with
                  | false =>
                    go_wp2
                    go_roundw
                    case rel => exact ⟨i + 1, came + K, s1, by go_num, by go_num, by omega, Htt.out, HO1.out, Hrl1.out, HS13.out, HK13.out⟩
                    case measure => simp [intOf]; omega
                  | true =>
                    go_wp2
                    go_roundw
                    case rel => exact ⟨i + 1, came + K, s1, by go_num, by go_num, by omega, Htt.out, HO1.out, Hrl1.out, HS13.out, HK13.out⟩
                    case measure => simp [intOf]; omega
          · clear hkq
            by_cases hkl : (K : Int) < q
            · have HDo := hid (solvedone_any P S s1 w9 G F7 g ad HS9.out HO1.out.full.core HG.out)
              rw [Hid1.out, decide_eq_true (Hwt.out (by omega))] at HDo
              go_wp2_with fail
              refine HDo.out.mono ?_
              intro e w10 hx
              obtain ⟨rfl, hS10, hK10⟩ := hx
              have HS10 := hid hS10
              have HK10 := hid (HK9.out.trans hK10)
              clear HDo hS10 hK10
              have Hs1 := hid (Hsn.out.newKeep HNs.out HK10.out fun b h1 h2 hx => hx (HFn.out b h1 h2))
              have Hsz := hid (Keep.size HK10.out)
              go_wp2
              clear hcq9
              go_loopw [16, 17] (fun t16 t17 wr => ∃ j m0 : Nat, t17 = .int .i64 (j : Int) ∧ t16 = .int .i64 (m0 : Int) ∧ j ≤ S.length ∧ m0 = sumObj s1 j ∧ SolvAt wr G F7 g ad P vr rs vh hs s1 ∧ Ext w10 wr) (fun _ t17 _ => S.length - (intOf t17).toNat)
              case atStart => exact ⟨0, 0, rfl, rfl, Nat.zero_le _, rfl, HS10.out, Ext.refl _⟩
              case round =>
                obtain ⟨j, m0, rfl, rfl, hj, hd, hS9, hx9⟩ := hrel
                have HS19 := hid hS9
                have Hx19 := hid hx9
                have Hd19 := hid hd
                have hd2 : m0 ≤ 15120 := by rw [hd]; have := sumObj_le HO1.out.full.core Hw.out j; omega
                clear hS9 hx9 hd
                by_cases hlj : j < S.length
                · obtain ⟨y, l, bl, cl, hy, hl, hc, hIl⟩ := (Hs1.out.ext Hx19.out).at hlj
                  subst hy
                  have hll := hIl.len
                  have hlg : S.getD j [] = l := by rw [List.getD_eq_getElem?_getD, hl]; rfl
                  have hjn : j < P.nodesV := by rw [← HSl.out]; exact hlj
                  have HHa := hid (solvehas_any P S s1 (j : Int) wr G F7 g ad HS19.out HO1.out.full.core)
                  rw [show s1.hasL P (j : Int) = s1.objs (j : Int) by unfold SV.hasL; rw [if_neg (by omega)]] at HHa
                  have hck := objs_chk Hw.out HO1.out.full.core j
                  have hwi := objs_within HO1.out.full.core j
                  have hfew := objs_few HO1.out.full.core (j : Int)
                  rw [hlg] at hwi
                  obtain ⟨m, hm⟩ : ∃ m, m = s1.objs (j : Int) := ⟨_, rfl⟩
                  have hsu := sumObj_succ s1 j
                  rw [← hm] at HHa hck hwi hfew hsu
                  have Hsu : Hid (m0 + m.length = sumObj s1 (j + 1)) := hid (by rw [hsu, Hd19.out])
                  have hml : m.length ≤ 126 := by omega
                  have HI := hid hIl
                  have Hc := hid hc
                  have Hck := hid hck
                  have Hwi := hid hwi
                  clear hl hIl hlg hck hwi hsu hm hc hfew hjn
                  go_wp2_with fail
                  refine HHa.out.mono ?_
                  intro e w10 hx
                  obtain ⟨v, rfl, hr, hS10, hx10⟩ := hx
                  obtain ⟨av, cv, rfl⟩ := hr.form
                  have HIm := hid (IntsR.own hr (Nat.le_refl _))
                  have HS10 := hid hS10
                  have Hx10 := hid hx10
                  have HSe := hid (rseterror_any (.slice av m.length cv) m w10 w10.heap.size HIm.out)
                  rw [Hck.out] at HSe
                  clear HHa hr hS10 hx10
                  go_wp2_with fail
                  refine HSe.out.mono ?_
                  intro e w11 hx
                  obtain ⟨rfl, hx11⟩ := hx
                  have Hxx11 := hid hx11
                  have Hx11 := hid (Hx10.out.trans hx11)
                  have HWi := hid (setwithin_any (.slice av m.length cv) (.slice bl l.length cl) m l w11 w11.heap.size ((HIm.out.old (hx11.old _)).lift hx11.size) ((HI.out.old (Hx11.out.old _)).lift (Nat.le_trans Hsz.out (Nat.le_trans Hx19.out.size Hx11.out.size))))
                  rw [Hwi.out] at HWi
                  have hc11 := Hx11.out.cellx Hc.out
                  clear HSe hx11
                  go_wp2_with fail
                  refine HWi.out.mono ?_
                  intro e w12 hx
                  obtain ⟨rfl, hx12⟩ := hx
                  have Hx12 := hid (Hx11.out.trans hx12)
                  have HS12 := hid (HS10.out.ext (Hxx11.out.trans hx12))
                  clear HWi hx12 hc11
                  go_wp2
                  go_roundw
                  case rel => exact ⟨j + 1, m0 + m.length, by go_num, by go_num, by omega, Hsu.out, HS12.out, Hx19.out.trans Hx12.out⟩
                  case measure => simp [intOf]; omega
                · obtain rfl : j = S.length := by omega
                  have htot : m0 = came + K := by rw [Hd19.out, Htt.out]; unfold sumObj SV.tot; rw [HSl.out]
                  have hne : ((m0 : Int) != (came : Int) + (K : Int)) = false := by rw [htot]; simp
                  have HDo2 := hid (solvedone_any P S s1 wr G F7 g ad HS19.out HO1.out.full.core HG.out)
                  rw [Hid1.out] at HDo2
                  have hDb : ((came : Int) + (K : Int) == (d : Int)) = decide (s1.wait = []) := by
                    rw [← Int.natCast_add, int_beq]
                    have := HO1.out.full.all HLe.out Hw.out (fun r h => by rw [Hrl1.out]; exact h) Hrd.out
                    rw [decide_eq_decide, this, Htt.out, Hda.out]
                  obtain ⟨Db, hDe⟩ : ∃ Db, Db = decide (s1.wait = []) := ⟨_, rfl⟩
                  rw [← hDe] at HDo2 hDb
                  have HKz := hid (Keep.ext_r HK10.out Hx19.out)
                  clear htot hDe
                  go_wp2_with fail
                  refine HDo2.out.mono ?_
                  intro e w13 hx
                  obtain ⟨rfl, hS13, hK13⟩ := hx
                  have HS13 := hid hS13
                  have HK13 := hid (HKz.out.trans hK13)
                  clear HDo2 hS13 hK13
                  cases Db with
                  | false =>
                    go_wp2
                    go_roundw
                    case rel => exact ⟨i + 1, came + K, s1, by go_num, by go_num, by omega, Htt.out, HO1.out, Hrl1.out, HS13.out, HK13.out⟩
                    case measure => simp [intOf]; omega
                  | true =>
                    go_wp2
                    go_roundw
                    case rel => exact ⟨i + 1, came + K, s1, by go_num, by go_num, by omega, Htt.out, HO1.out, Hrl1.out, HS13.out, HK13.out⟩
                    case measure => simp [intOf]; omega
            · have Hs1 := hid (Hsn.out.newKeep HNs.out HK9.out fun b h1 h2 hx => hx (HFn.out b h1 h2))
              have Hsz := hid (Keep.size HK9.out)
              go_wp2
              clear hcq9
              go_loopw [16, 17] (fun t16 t17 wr => ∃ j m0 : Nat, t17 = .int .i64 (j : Int) ∧ t16 = .int .i64 (m0 : Int) ∧ j ≤ S.length ∧ m0 = sumObj s1 j ∧ SolvAt wr G F7 g ad P vr rs vh hs s1 ∧ Ext w9 wr) (fun _ t17 _ => S.length - (intOf t17).toNat)
              case atStart => exact ⟨0, 0, rfl, rfl, Nat.zero_le _, rfl, HS9.out, Ext.refl _⟩
              case round =>
                obtain ⟨j, m0, rfl, rfl, hj, hd, hS9, hx9⟩ := hrel
                have HS19 := hid hS9
                have Hx19 := hid hx9
                have Hd19 := hid hd
                have hd2 : m0 ≤ 15120 := by rw [hd]; have := sumObj_le HO1.out.full.core Hw.out j; omega
                clear hS9 hx9 hd
                by_cases hlj : j < S.length
                · obtain ⟨y, l, bl, cl, hy, hl, hc, hIl⟩ := (Hs1.out.ext Hx19.out).at hlj
                  subst hy
                  have hll := hIl.len
                  have hlg : S.getD j [] = l := by rw [List.getD_eq_getElem?_getD, hl]; rfl
                  have hjn : j < P.nodesV := by rw [← HSl.out]; exact hlj
                  have HHa := hid (solvehas_any P S s1 (j : Int) wr G F7 g ad HS19.out HO1.out.full.core)
                  rw [show s1.hasL P (j : Int) = s1.objs (j : Int) by unfold SV.hasL; rw [if_neg (by omega)]] at HHa
                  have hck := objs_chk Hw.out HO1.out.full.core j
                  have hwi := objs_within HO1.out.full.core j
                  have hfew := objs_few HO1.out.full.core (j : Int)
                  rw [hlg] at hwi
                  obtain ⟨m, hm⟩ : ∃ m, m = s1.objs (j : Int) := ⟨_, rfl⟩
                  have hsu := sumObj_succ s1 j
                  rw [← hm] at HHa hck hwi hfew hsu
                  have Hsu : Hid (m0 + m.length = sumObj s1 (j + 1)) := hid (by rw [hsu, Hd19.out])
                  have hml : m.length ≤ 126 := by omega
                  have HI := hid hIl
                  have Hc := hid hc
                  have Hck := hid hck
                  have Hwi := hid hwi
                  clear hl hIl hlg hck hwi hsu hm hc hfew hjn
                  go_wp2_with fail
                  refine HHa.out.mono ?_
                  intro e w10 hx
                  obtain ⟨v, rfl, hr, hS10, hx10⟩ := hx
                  obtain ⟨av, cv, rfl⟩ := hr.form
                  have HIm := hid (IntsR.own hr (Nat.le_refl _))
                  have HS10 := hid hS10
                  have Hx10 := hid hx10
                  have HSe := hid (rseterror_any (.slice av m.length cv) m w10 w10.heap.size HIm.out)
                  rw [Hck.out] at HSe
                  clear HHa hr hS10 hx10
                  go_wp2_with fail
                  refine HSe.out.mono ?_
                  intro e w11 hx
                  obtain ⟨rfl, hx11⟩ := hx
                  have Hxx11 := hid hx11
                  have Hx11 := hid (Hx10.out.trans hx11)
                  have HWi := hid (setwithin_any (.slice av m.length cv) (.slice bl l.length cl) m l w11 w11.heap.size ((HIm.out.old (hx11.old _)).lift hx11.size) ((HI.out.old (Hx11.out.old _)).lift (Nat.le_trans Hsz.out (Nat.le_trans Hx19.out.size Hx11.out.size))))
                  rw [Hwi.out] at HWi
                  have hc11 := Hx11.out.cellx Hc.out
                  clear HSe hx11
                  go_wp2_with fail
                  refine HWi.out.mono ?_
                  intro e w12 hx
                  obtain ⟨rfl, hx12⟩ := hx
                  have Hx12 := hid (Hx11.out.trans hx12)
                  have HS12 := hid (HS10.out.ext (Hxx11.out.trans hx12))
                  clear HWi hx12 hc11
                  go_wp2
                  go_roundw
                  case rel => exact ⟨j + 1, m0 + m.length, by go_num, by go_num, by omega, Hsu.out, HS12.out, Hx19.out.trans Hx12.out⟩
                  case measure => simp [intOf]; omega
                · obtain rfl : j = S.length := by omega
                  have htot : m0 = came + K := by rw [Hd19.out, Htt.out]; unfold sumObj SV.tot; rw [HSl.out]
                  have hne : ((m0 : Int) != (came : Int) + (K : Int)) = false := by rw [htot]; simp
                  have HDo2 := hid (solvedone_any P S s1 wr G F7 g ad HS19.out HO1.out.full.core HG.out)
                  rw [Hid1.out] at HDo2
                  have hDb : ((came : Int) + (K : Int) == (d : Int)) = decide (s1.wait = []) := by
                    rw [← Int.natCast_add, int_beq]
                    have := HO1.out.full.all HLe.out Hw.out (fun r h => by rw [Hrl1.out]; exact h) Hrd.out
                    rw [decide_eq_decide, this, Htt.out, Hda.out]
                  obtain ⟨Db, hDe⟩ : ∃ Db, Db = decide (s1.wait = []) := ⟨_, rfl⟩
                  rw [← hDe] at HDo2 hDb
                  have HKz := hid (Keep.ext_r HK9.out Hx19.out)
                  clear htot hDe
                  go_wp2_with fail
                  refine HDo2.out.mono ?_
                  intro e w13 hx
                  obtain ⟨rfl, hS13, hK13⟩ := hx
                  have HS13 := hid hS13
                  have HK13 := hid (HKz.out.trans hK13)
                  clear HDo2 hS13 hK13
                  cases Db with
                  | false =>
                    go_wp2
                    go_roundw
                    case rel => exact ⟨i + 1, came + K, s1, by go_num, by go_num, by omega, Htt.out, HO1.out, Hrl1.out, HS13.out, HK13.out⟩
                    case measure => simp [intOf]; omega
                  | true =>
                    go_wp2
                    go_roundw
                    case rel => exact ⟨i + 1, came + K, s1, by go_num, by go_num, by omega, Htt.out, HO1.out, Hrl1.out, HS13.out, HK13.out⟩
                    case measure => simp [intOf]; omega
        · obtain rfl : i = steps.length := by omega
          obtain ⟨r1, r2, r3, r4, r5, r6, r7⟩ := run_end HLe.out Hw.out HO8.out Hrl.out
          have HRun := hid (solverun_any P S s wr G F7 g ad HS8.out HO8.out HG.out HCl.out)
          obtain ⟨T, hT⟩ : ∃ T, T = (s.step P 9223372036854775807).1 := ⟨_, rfl⟩
          obtain ⟨K, hK⟩ : ∃ K, K = (s.step P 9223372036854775807).2 := ⟨_, rfl⟩
          rw [← hT] at HRun r1 r2 r3 r7
          rw [← hK] at HRun r5 r6
          have HR := hid (And.intro r1 (And.intro r2 (And.intro r3 r7)))
          have hca : ((came : Int) + (K : Int) == (d : Int)) = true := by rw [← Int.natCast_add, int_beq, Hda.out, ← r5, Hcm.out, decide_eq_true rfl]
          clear r1 r2 r3 r4 r5 r7 hT hK
          go_wp2_with fail
          refine HRun.out.mono ?_
          intro e w9 hx
          obtain ⟨rfl, hS9, hK9⟩ := hx
          have HS9 := hid hS9
          have HK9 := hid (HK8.out.trans hK9)
          have Hs1 := hid (Hsn.out.newKeep HNs.out HK9.out fun b h1 h2 hx => hx (HFn.out b h1 h2))
          clear HRun hS9 hK9
          go_wp2
          go_loopw [19] (fun t19 wr => ∃ k : Nat, t19 = .int .i64 (k : Int) ∧ k ≤ S.length ∧ SolvAt wr G F7 g ad P vr rs vh hs T ∧ Ext w9 wr) (fun t19 _ => S.length - (intOf t19).toNat)
          case atStart => exact ⟨0, rfl, Nat.zero_le _, HS9.out, Ext.refl _⟩
          case round =>
            clear HS9
            obtain ⟨k, rfl, hk, hS18, hx18⟩ := hrel
            have HS18 := hid hS18
            have Hx18 := hid hx18
            clear hS18 hx18
            by_cases hlt : k < S.length
            · obtain ⟨y, l, bl, cl, hy, hl, hc, hI⟩ := (Hs1.out.ext Hx18.out).at hlt
              subst hy
              have hll := hI.len
              have hlg : S.getD k [] = l := by rw [List.getD_eq_getElem?_getD, hl]; rfl
              have hob : T.hasL P (k : Int) = l := by
                unfold SV.hasL
                rw [if_neg (by have := HSl.out; omega), HR.out.2.2.2 k (by rw [← HSl.out]; exact hlt), hlg]
              have HHa := fun w1 (hS1 : SolvAt w1 G F7 g ad P vr rs vh hs T) => hid (solvehas_any P S T (k : Int) w1 G F7 g ad hS1 HR.out.1.full.core)
              rw [hob] at HHa
              have hsm : ∀ x ∈ l, x ≤ 126 := by rw [← hlg]; exact good_small HG.out k
              have Hsm := hid hsm
              have HI := hid hI
              have h6 : ∀ w1, Keep (fun _ => False) wr w1 → w1.cell? (y.add k) = some (.slice bl l.length cl) := fun w1 x => x.ext.cellx hc
              clear hl hI hlg hob hsm hc
              go_wp2
              refine wp_flow (fun _ => False) (by kernel_rfl) (by kernel_rfl) ?_
              apply Flow.d 0 _ rfl (by simp) (by kernel_rfl)
              · intro w1 hk; unfold does; go_simp; (try go_ints); exact DetR.mk
              simp only [List.getElem_toArray, List.getElem_cons_zero, List.getElem_cons_succ, Act.put, List.setIfInBounds_toArray, List.set_cons_zero, List.set_cons_succ]
              apply Flow.d 1 _ rfl (by simp) (by kernel_rfl)
              · intro w1 hk; unfold does; go_simp; (try go_ints); exact DetR.mk
              simp only [List.getElem_toArray, List.getElem_cons_zero, List.getElem_cons_succ, Act.put, List.setIfInBounds_toArray, List.set_cons_zero, List.set_cons_succ]
              apply Flow.d 3 _ rfl (by simp) (by kernel_rfl)
              · intro w1 hk; unfold does; go_simp; (try go_ints); exact DetR.mk
              simp only [List.getElem_toArray, List.getElem_cons_zero, List.getElem_cons_succ, Act.put, List.setIfInBounds_toArray, List.set_cons_zero, List.set_cons_succ]
              apply Flow.d 4 _ rfl (by simp) (by kernel_rfl)
              · intro w1 hk; unfold does; go_simp; (try go_ints); exact DetR.mk
              simp only [List.getElem_toArray, List.getElem_cons_zero, List.getElem_cons_succ, Act.put, List.setIfInBounds_toArray, List.set_cons_zero, List.set_cons_succ]
              apply Flow.d 5 _ rfl (by simp) (by kernel_rfl)
              · intro w1 hk; unfold does; go_simp; (try go_ints); exact DetR.mk
              simp only [List.getElem_toArray, List.getElem_cons_zero, List.getElem_cons_succ, Act.put, List.setIfInBounds_toArray, List.set_cons_zero, List.set_cons_succ]
              apply Flow.d 6 _ rfl (by simp) (by kernel_rfl)
              · intro w1 hk; unfold does; go_simp; (try go_ints); exact DetR.mk
              simp only [List.getElem_toArray, List.getElem_cons_zero, List.getElem_cons_succ, Act.put, List.setIfInBounds_toArray, List.set_cons_zero, List.set_cons_succ]
              refine Flow.one 2 _ rfl (by kernel_rfl) (fun v' w' => (∃ a c, v' = .slice a l.length c) ∧ IntsR w' w'.heap.size v' l ∧ SolvAt w' G F7 g ad P vr rs vh hs T ∧ Ext wr w') (fun _ _ _ ⟨h1, h2, h3, h4⟩ he => ⟨h1, (h2.old (he.old _)).lift he.size, h3.ext he, h4.trans he⟩) (fun w9 hC hk9 => ?_) ?_
              · unfold does
                go_simp
                refine CallR.act ((HHa w9 (HS18.out.ext hC)).out.mono ?_)
                rintro e w10 ⟨v, rfl, hr, hS10, hx10⟩
                exact ⟨v, rfl, hk9.trans (hx10.keep _), hr.form, IntsR.own hr (Nat.le_refl _), hS10, hC.trans hx10⟩
              rintro _ ⟨_, ⟨a8, c8, rfl⟩, _, _, _⟩
              simp only [List.getElem_toArray, List.getElem_cons_zero, List.getElem_cons_succ, Act.put, List.setIfInBounds_toArray, List.set_cons_zero, List.set_cons_succ]
              refine Flow.one 7 _ rfl (by kernel_rfl) (fun v' w' => v' = .bool true ∧ SolvAt w' G F7 g ad P vr rs vh hs T ∧ Ext wr w') (fun _ _ _ ⟨h1, h3, h4⟩ he => ⟨h1, h3.ext he, h4.trans he⟩) (fun w9 hC hk9 => ?_) ?_
              · obtain ⟨_, hI8, hS9, hx9⟩ := hC
                have HSa := sameints_any a8 bl l.length l.length c8 cl l l w9 (IntsR.ints hI8 (getD_most (by decide) fun x hx => by have := Hsm.out x hx; omega)) (IntsR.ints (HI.out.old (hx9.old _)) (getD_most (by decide) fun x hx => by have := Hsm.out x hx; omega)) (by omega) (by omega)
                rw [decide_eq_true (rfl : l = l)] at HSa
                unfold does
                go_simp
                refine CallR.act (HSa.mono ?_)
                rintro e w10 ⟨rfl, hx10⟩
                exact ⟨_, rfl, hk9.trans (hx10.keep _), rfl, hS9.ext hx10, hx9.trans hx10⟩
              rintro _ ⟨_, rfl, _, _⟩
              simp only [List.getElem_toArray, List.getElem_cons_zero, List.getElem_cons_succ, Act.put, List.setIfInBounds_toArray, List.set_cons_zero, List.set_cons_succ]
              apply Flow.d 8 _ rfl (by simp) (by kernel_rfl)
              · intro w1 hk; unfold does; go_simp; (try go_ints); exact DetR.mk
              simp only [List.getElem_toArray, List.getElem_cons_zero, List.getElem_cons_succ, Act.put, List.setIfInBounds_toArray, List.set_cons_zero, List.set_cons_succ]
              refine Flow.fin (by kernel_rfl) fun w11 hC11 hk11 => ?_
              obtain ⟨_, hS11, hx11⟩ := hC11
              have HS11 := hid hS11
              have Hx11 := hid (Hx18.out.trans hx11)
              clear hS11 hx11 hk11 h6 HHa
              go_wp2
              go_roundw
              case rel => exact ⟨k + 1, by go_num, by omega, HS11.out, Hx11.out⟩
              case measure => simp [intOf]; omega
            · obtain rfl : k = S.length := by omega
              have HDo := hid (solvedone_any P S T wr G F7 g ad HS18.out HR.out.1.full.core HG.out)
              rw [HR.out.2.2.1, HR.out.2.1, decide_eq_true rfl] at HDo
              have HKz := hid (HK9.out.ext_r Hx18.out)
              go_wp2_with fail
              refine HDo.out.mono ?_
              intro e w19 hx
              obtain ⟨rfl, hS19, hK19⟩ := hx
              have HK19 := hid (HKz.out.trans hK19)
              have HRun := hid (show Calls Tryz.prog 21 #[.pointer (some ⟨g, 0, none⟩)] w19 fun x w' => x = .returned (.int .i64 0) ∧ SolvAt w' G F7 g ad P vr rs vh hs T ∧ Keep (fun b => ¬ F7 b) w19 w' from by
                have := solverun_any P S T w19 G F7 g ad hS19 HR.out.1 HG.out HCl.out
                rw [step_nil P HR.out.2.1 HR.out.2.2.1] at this
                exact this)
              clear HDo hS19 hK19
              go_wp2_with fail
              refine HRun.out.mono ?_
              intro e w20 hx
              obtain ⟨rfl, hS20, hK20⟩ := hx
              have HK20 := hid (HK19.out.trans hK20)
              have HHa := hid (solvehas_any P S T (-1) w20 G F7 g ad hS20 HR.out.1.full.core)
              rw [show T.hasL P (-1) = [] by unfold SV.hasL; rw [if_pos (.inl (by decide))]] at HHa
              clear HRun hS20 hK20
              go_wp2_with fail
              refine HHa.out.mono ?_
              intro e w21 hx
              obtain ⟨v, rfl, hr, hS21, hx21⟩ := hx
              obtain ⟨av, cv, rfl⟩ := hr.form
              have HK21 := hid (HK20.out.ext_r hx21)
              have HHb := hid (solvehas_any P S T (S.length : Int) w21 G F7 g ad hS21 HR.out.1.full.core)
              rw [show T.hasL P (S.length : Int) = [] by unfold SV.hasL; rw [if_pos (.inr (by have := HSl.out; omega))]] at HHb
              clear HHa hr hS21 hx21
              go_wp2_with fail
              refine HHb.out.mono ?_
              intro e w22 hx
              obtain ⟨v, rfl, hr, hS22, hx22⟩ := hx
              obtain ⟨av2, cv2, rfl⟩ := hr.form
              have HX22 := hid ((Keep.new HXz.out HK21.out fun b hb => Nat.le_of_not_lt fun h => hb (HF7.out b h)).trans hx22)
              clear HHb hr hS22 hx22
              go_wp2
              go_ret
              exact ⟨rfl, HX22.out⟩
theorem solvestepslaw_any (a1 a2 a3 : Option Addr) (c1 c2 c3 : Nat) (P : PP) (as_ : Option Addr) (cs : Nat) (steps : List Int) (w : World) (ad : Nat → Addr) (hE : ErrsP w ad) (hA : AllErrs w ad) (hS : ErrS w ad) (hP : ProgR w w.heap.size (.slice a1 P.vars.length c1) (.slice a2 P.funs.length c2) (.slice a3 P.stmts.length c3) P) (hI : IntsR w w.heap.size (.slice as_ steps.length cs) steps) :
    Calls Tryz.prog 3 #[pval a1 a2 a3 c1 c2 c3 P, .slice as_ steps.length cs] w fun e w' => e = .returned (.bool true) ∧ Ext w w' := by
  by_cases hw : P.Well
  · exact solvestepslaw_yes a1 a2 a3 c1 c2 c3 P as_ cs steps w ad hE hA hS hP hI hw
  · exact solvestepslaw_no a1 a2 a3 c1 c2 c3 P as_ cs steps w ad hE hA hS hP hI hw
end Go.Proofs.YtdppgcbekhabnaaGreatDoor



/- All errors, and the type of errors, as a row of this seat lists them. -/
namespace Go.Proofs.YtdppgcbekhabnaaGreatDoor
set_option linter.unusedSimpArgs false
set_option linter.unusedVariables false
open Go Go.RowKit

def handD : DataW Unit := .iface "internal/reflectlite.rtype" (.agg [.ptr (.lit (.string [101, 114, 114, 111, 114]))])
theorem handName : handD.handleName? = some [101, 114, 114, 111, 114] := by
  unfold handD DataW.handleName?
  simp
def allCodes : List Nat := [1, 2, 3, 4, 5, 6, 7, 8, 9, 10, 11]
def fullL : List (String × DataW Unit) := ("errors.errorType", handD) :: sentL allCodes
theorem typesSize : Tryz.prog.types.size = 302 := by kernel_rfl
theorem oneErrRow : ((List.range 302).filter fun t => Tryz.prog.rowNamed t [101, 114, 114, 111, 114]) = [32] := by kernel_rfl
theorem rtypeCut : (Tryz.prog.cutTypes.find? (·.1 == "internal/reflectlite.rtype")).map (·.2) = some 194 := by kernel_rfl
theorem errTypeVar : Tryz.prog.globalNamed "errors.errorType" = some 11 := by kernel_rfl
theorem errHandle : typeHandle Tryz.prog 32 = .pointer (some ⟨15, 32, none⟩) := by kernel_rfl

theorem all_of {W : World} (h : laidMetH Tryz.prog fullL W) : ∃ ad : Nat → Addr, AllErrs W ad := by
  obtain ⟨h1, h2⟩ := laidMetH_iff.1 h
  have e1 : (fullL.filter fun x => x.2.handleName?.isNone) = sentL allCodes := by
    unfold fullL
    rw [List.filter_cons_of_neg (by simp [handName]), List.filter_eq_self.2 fun x hx => by
      obtain ⟨c, _, rfl⟩ := List.mem_map.1 hx
      simp [sent_noHandle]]
  rw [e1] at h1
  obtain ⟨ad, s1, s2⟩ := sents_ad allCodes (by decide) h1
  have hin : ∀ c, 1 ≤ c ∧ c ≤ 11 → c ∈ allCodes := fun c hc => by
    rcases (by omega : c = 1 ∨ c = 2 ∨ c = 3 ∨ c = 4 ∨ c = 5 ∨ c = 6 ∨ c = 7 ∨ c = 8 ∨ c = 9 ∨ c = 10 ∨ c = 11) with rfl | rfl | rfl | rfl | rfl | rfl | rfl | rfl | rfl | rfl | rfl <;> decide
  refine ⟨ad, fun c hc => (s1 c (hin c hc)).var, fun c hc => (s1 c (hin c hc)).row, fun c d hc hd e => s2 c (hin c hc) d (hin d hd) e, ?_⟩
  have hm : ("errors.errorType", handD) ∈ fullL.filter fun x => x.2.handleName?.isSome := List.mem_filter.2 ⟨by simp [fullL], by simp [handName]⟩
  have h3 := h2 _ hm
  have hf : handD.funcsIn? = none := by
    unfold handD DataW.funcsIn?
    simp
  simp only [hf] at h3
  obtain ⟨name, u, ty, g1, g2, g3, g4, g5⟩ := h3
  obtain rfl := Option.some.inj (handName.symm.trans g1)
  obtain rfl := Option.some.inj (rtypeCut.symm.trans g2)
  have hm2 : ty ∈ (List.range 302).filter fun t => Tryz.prog.rowNamed t [101, 114, 114, 111, 114] := List.mem_filter.2 ⟨List.mem_range.2 (by rw [← typesSize]; exact g3), g4⟩
  rw [oneErrRow, List.mem_singleton] at hm2
  subst hm2
  rw [errHandle] at g5
  simpa using World.var?_cell errTypeVar g5 0
end Go.Proofs.YtdppgcbekhabnaaGreatDoor


/- SolveSteps: whatever the program and the steps, the law returns true, and its arguments read as they did: as the given card of that statement says it, with no further condition. -/
namespace Go.Proofs.YtdppgcbekhabnaaGreatDoor.solveSteps
set_option linter.unusedSimpArgs false
set_option linter.unusedVariables false
open Go Go.ChangeShapes Go.WideShapes Go.ChangeAt Go.WideMaps Go.WideElems Go.RowKit Go.Joins Go.Deep

theorem errs_of {W : World} {ad : Nat → Addr} (h : AllErrs W ad) : ErrsP W ad :=
  ⟨h.var 2 (by decide), h.var 3 (by decide), h.var 4 (by decide), h.var 5 (by decide), h.var 7 (by decide), h.var 8 (by decide), h.var 9 (by decide),
    fun e => by have := h.inj 5 7 (by decide) (by decide) e; omega, h.row 5 (by decide), h.row 7 (by decide)⟩
theorem sets_of {W : World} {ad : Nat → Addr} (h : AllErrs W ad) : ErrS W ad := ⟨h.var 2 (by decide), h.var 10 (by decide)⟩
theorem laid_eq : (Rows.solveStepsRow.laid.filter fun x => !(x.1 == "unicode/utf8.acceptRanges") && !(x.1 == "unicode/utf8.first")) = fullL := by kernel_rfl
noncomputable def wit (os : Os) : World := (World.doorLaid Tryz.prog 235 os).layVars Tryz.prog [("unicode/utf8.first", Rows.laid_unicode_utf8_first)]
def rest : List (String × DataW Unit) := (Rows.solveStepsRow.laid.filter fun x => x.2.handleName?.isNone).filter fun x => !["unicode/utf8.first"].contains x.1
noncomputable def others (os : Os) : List Nat := (List.range (World.doorLaid Tryz.prog 235 os).heap.size).filter fun b => b != 12
theorem first_eq : ((Rows.solveStepsRow.laid.filter fun x => x.2.handleName?.isNone).filter fun x => ["unicode/utf8.first"].contains x.1) = [("unicode/utf8.first", Rows.laid_unicode_utf8_first)] := by kernel_rfl
theorem door_met (os : Os) (args : Array Value) : laidMetH Tryz.prog Rows.solveStepsRow.laid ((wit os).forCall (fun _ _ => 0) ⟨#[], args, []⟩).memory := by
  refine laidMetH_of_parts3 (fuel := 8) ?_ (by kernel_rfl) (by kernel_rfl)
  have h : laidMet Tryz.prog (Rows.solveStepsRow.laid.filter fun x => x.2.handleName?.isNone) (wit os) :=
    laidMet_layVars (w0 := World.doorLaid Tryz.prog 235 os) ["unicode/utf8.first"] (others os) (by rw [first_eq]; rfl) (by rw [first_eq]; kernel_rfl) (by rw [first_eq]; kernel_rfl) (LaidIn.of_run (others os) 8 (by kernel_rfl) (by kernel_rfl) (by kernel_rfl) (by kernel_rfl))
  exact h.of_heap (by simp [World.memory, World.forCall, Input.heap])
theorem own : ownKnob Tryz.prog.godebug = none := by kernel_rfl
theorem laidOut : laidOutB Tryz.prog = true := by kernel_rfl
set_option maxRecDepth 100000 in
theorem lifted (os : Os) (started : os.Started) (H : Type) (enc : TypeId × Value → H) :
    ReturnsInHanded {} Tryz.checked os 3 .any (fun w args => (Rows.solveStepsSpec.pre enc Tryz.prog Tryz.f3 [] false w args ∧ laidMetH Tryz.prog Rows.solveStepsRow.laid w) ∧ sizedMet enc Tryz.prog Tryz.f3 (OpenSpec.ofChange Rows.solveStepsSpec) false w args)
      (Rows.solveStepsSpec.post enc Tryz.prog Tryz.f3 false true false false) := by
  refine returnsInHanded_of_change_and (C := Tryz.checked) (X := fun w _ => laidMetH Tryz.prog Rows.solveStepsRow.laid w) (fun _ _ _ hh h => h.of_heap hh) own started (by kernel_rfl) Tryz.func3
    (ChangeSpec.witness_shaped (enc := enc) (C := Tryz.checked) (os := os) (X := fun w _ => laidMetH Tryz.prog Rows.solveStepsRow.laid w) false (wit os) #[.agg #[.slice none 0 0, .slice none 0 0, .slice none 0 0], .slice none 0 0] 8 (World.layVars_os _ _ _) (World.shaped_of_ZipB (by kernel_rfl) (by kernel_rfl)) (by kernel_rfl) (by kernel_rfl) (by kernel_rfl) (door_met os _)) ?_
  intro W base args ds gs before hval0 hW _ _ hL _
  have hval : ∀ (j : Nat) t v, Tryz.f3.params[j]? = some t → args[j]? = some v → Value.okWide Tryz.prog W .any base t v := hval0
  have hW' := hW
  obtain ⟨p, q, hA0, hV, rfl, hfz, hnd⟩ := hW
  have hA : DataW.TrodAll enc Tryz.prog W 0 (fun _ => true) true Tryz.f3.params.toList args.toList ds p := hA0
  rw [Tryz.params3] at hA hval
  obtain ⟨v0, vs0, d0, ds0, p0, q0, hargs, rfl, rfl, h0, r0⟩ := trodAll_cons hA
  obtain ⟨v1, vs1, d1, ds1, p1, q1, rfl, rfl, rfl, h1, r1⟩ := trodAll_cons r0
  obtain ⟨rfl, rfl, rfl⟩ := trodAll_nil r1
  obtain rfl : args = #[v0, v1] := by cases args; simp_all
  obtain ⟨rfl, rfl⟩ := trodVars_none hV
  have k0 := h0
  have lt0 : ∀ x ∈ p0, x.block < W.heap.size := by obtain ⟨m, hm⟩ := k0; exact DataW.trod_lt m _ _ _ hm
  have k1 := h1
  have lt1 : ∀ x ∈ p1, x.block < W.heap.size := by obtain ⟨m, hm⟩ := k1; exact DataW.trod_lt m _ _ _ hm
  obtain ⟨b1, b2, b3, c1, c2, c3, P, rfl, hP⟩ := prog_of (hval 0 26 v0 rfl rfl) h0
  obtain ⟨sa, sl, sc, rfl⟩ := okWide_slice Tryz.underlying27 (hval 1 27 v1 rfl rfl)
  obtain ⟨l, hI⟩ : ∃ l, IntsR W W.heap.size (.slice sa sl sc) l := by
    obtain ⟨m, hm⟩ := h1
    exact intsR_of (by simpa [Value.cells] using hm)
  obtain ⟨_, _, hv, -⟩ := id hI
  obtain ⟨rfl, rfl, rfl⟩ : sa = _ ∧ sl = l.length ∧ sc = _ := by simpa using hv
  obtain ⟨ad, hE⟩ := all_of (by have := laidMetH.filter (fun x => !(x.1 == "unicode/utf8.acceptRanges") && !(x.1 == "unicode/utf8.first")) hL; rw [laid_eq] at this; exact this)
  clear hA0 hval0
  refine (solvestepslaw_any b1 b2 b3 c1 c2 c3 P _ _ l W ad (errs_of hE) hE (sets_of hE) hP hI).mono fun e W' ⟨he, bel⟩ => ?_
  subst he
  exact ⟨_, rfl, _, _, _, [], _, [], hW', trodAll_mk1 (shut_bool Tryz.underlying4 _), (trodAll_cons_mk (Below.trod laidOut (by kernel_rfl) (of_decide_eq_true (by kernel_rfl)) k0 bel lt0) (trodAll_cons_mk (Below.trod laidOut (by kernel_rfl) (of_decide_eq_true (by kernel_rfl)) k1 bel lt1) trodAll_mk0)), rfl, bel.frame _, fun h => by cases h⟩

theorem said : Rows.SolveStepsSaid :=
  OpenClaim.holds_of_wide 3 Tryz.f3 rfl rfl rfl rfl rfl rfl rfl ⟨rfl, rfl, rfl, rfl, rfl⟩ rfl rfl rfl rfl rfl (by kernel_rfl) Tryz.func3 (by kernel_rfl)
    (of_decide_eq_true (by kernel_rfl)) (by unfold Func.isWrapper; first | (rw [if_pos (by decide +kernel)]; kernel_rfl) | (rw [if_neg (by decide +kernel)]; exact ⟨rfl, rfl⟩))
    (fun os started H enc _ => lifted os started H enc)

/-- No parameter wants a stand-in. -/
theorem plain (f : FuncId) (fn : Func) (hf : Tryz.pinned.checked.prog.funcNamed Tryz.f3.name = some f) (hfn : Tryz.pinned.checked.prog.funcs[f]? = some fn) :
    true = Tryz.pinned.checked.prog.looks [] ∧ ∀ (j : Nat) t, fn.params[j]? = some t → Tryz.pinned.checked.prog.wantsStandIn t = false := by
  obtain rfl : f = 3 := Option.some.inj ((show Tryz.prog.funcNamed Tryz.f3.name = some 3 by kernel_rfl).symm.trans hf) |>.symm
  obtain rfl : fn = Tryz.f3 := (Option.some.inj (Tryz.func3.symm.trans hfn)).symm
  refine ⟨by kernel_rfl, fun j t ht => ?_⟩
  rw [Tryz.params3] at ht
  have hm : t ∈ ([26, 27] : List Nat) := by simpa using Array.mem_of_getElem? ht
  have hall : (([26, 27] : List Nat).all fun u => !Tryz.prog.wantsStandIn u) = true := by kernel_rfl
  exact (show Tryz.prog.wantsStandIn t = false by simpa using List.all_eq_true.1 hall t hm)

set_option maxRecDepth 100000 in
theorem card : Rows.SolveStepsCardSaid :=
  Claim7.holds_tied_plain_at .later [] _ _ _ _ said (fun _ h => by cases h) (by kernel_rfl) (fun _ h => by cases h) solveSteps_row_tie rfl ⟨rfl, rfl⟩ (by kernel_rfl) rfl plain (by kernel_rfl)
#print axioms card
end Go.Proofs.YtdppgcbekhabnaaGreatDoor.solveSteps

