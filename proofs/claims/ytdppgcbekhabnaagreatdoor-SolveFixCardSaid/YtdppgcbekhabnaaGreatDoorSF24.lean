/- Texts of one proof, put together: X1 ZZ7. -/
import Derived.Test.YtdppgcbekhabnaaGreatDoorSF09
import Derived.Test.YtdppgcbekhabnaaGreatDoorSF15
import Derived.Test.YtdppgcbekhabnaaGreatDoorSF16
import Derived.Test.YtdppgcbekhabnaaGreatDoorSF17
import Derived.Test.YtdppgcbekhabnaaGreatDoorSF22
import Derived.Test.YtdppgcbekhabnaaGreatDoorSF23

/- FixClosed: the law walked. -/
namespace Go.Proofs.YtdppgcbekhabnaaGreatDoor
set_option linter.unusedSimpArgs false
set_option linter.unusedVariables false
open Go Go.RowKit

end Go.Proofs.YtdppgcbekhabnaaGreatDoor



/- SolveFix: the law walked. -/
namespace Go.Proofs.YtdppgcbekhabnaaGreatDoor
set_option linter.unusedSimpArgs false
set_option linter.unusedVariables false
open Go Go.RowKit

/-- How many objects the first nodes have. -/
def sumUp (S : List (List Int)) (k : Nat) : Nat := ((List.range k).map fun n : Nat => (S.getD n []).length).sum
theorem sumUp_succ (S : List (List Int)) (k : Nat) : sumUp S (k + 1) = sumUp S k + (S.getD k []).length := by
  unfold sumUp
  rw [List.range_succ, List.map_append, List.sum_append]; simp
theorem sumUp_le (S : List (List Int)) (k : Nat) : ∀ d, sumUp S k ≤ sumUp S (k + d)
  | 0 => Nat.le_refl _
  | d + 1 => by
    have := sumUp_le S k d
    rw [show k + (d + 1) = (k + d) + 1 by omega, sumUp_succ]
    omega
theorem good_small {P : PP} {S : List (List Int)} (hg : P.GoodS S) (n : Nat) : ∀ x ∈ S.getD n [], x ≤ 126 := fun x hx => by
  have h2 := hg.1.nodes.2
  rw [List.getD_eq_getElem?_getD] at hx
  cases hl : S[n]? with
  | none => rw [hl] at hx; cases hx
  | some l =>
    rw [hl] at hx
    have := (hg.ok.ok l (List.mem_of_getElem? hl)).2 x hx
    omega
theorem getD_few {l : List Int} {m : Int} (h0 : 0 ≤ m) (h : ∀ x ∈ l, x ≤ m) (i : Nat) : l.getD i 0 ≤ m := by
  rw [List.getD_eq_getElem?_getD]
  cases hx : l[i]? with
  | none => exact h0
  | some x => exact h x (List.mem_of_getElem? hx)
set_option maxRecDepth 100000 in
set_option maxHeartbeats 12800000 in
theorem solvefixlaw_yes (a1 a2 a3 : Option Addr) (c1 c2 c3 : Nat) (P : PP) (w : World) (ad : Nat → Addr) (hE : ErrsP w ad) (hS : ErrS w ad) (hP : ProgR w w.heap.size (.slice a1 P.vars.length c1) (.slice a2 P.funs.length c2) (.slice a3 P.stmts.length c3) P) (hw : P.Well) :
    Calls Tryz.prog 5 #[pval a1 a2 a3 c1 c2 c3 P] w fun e w' => e = .returned (.bool true) ∧ Ext w w' := by
  have Hw := hid hw
  clear hw
  have HE := hid hE
  have HS := hid hS
  have HP := hid hP
  obtain ⟨W1, hW1⟩ : ∃ W1, W1 = w.alloc (.cells (pcells a1 a2 a3 c1 c2 c3 P) 26) := ⟨_, rfl⟩
  have HX1 : Hid (Ext w W1) := hid (by rw [hW1]; exact (Ext.refl _).alloc _)
  have HB1 : Hid (Blk W1 w.heap.size (pcells a1 a2 a3 c1 c2 c3 P) 26) := hid (by rw [hW1]; exact Blk.new _ _ _)
  have HR := hid (solvedfact_any W1 ad (hE.ext HX1.out) (hS.ext HX1.out))
  have HW1 : Hid (W1 = w.alloc (.cells #[.slice a1 P.vars.length c1, .slice a2 P.funs.length c2, .slice a3 P.stmts.length c3] 26)) := hid (by rw [hW1]; rfl)
  unfold pval
  clear hE hS hP hW1
  go_enter Tryz.func5, Tryz.ntmps5
  go_wp2_with fail
  rw [← HW1.out]
  refine HR.out.mono ?_
  intro e w1 hx
  obtain ⟨rfl, hx1⟩ := hx
  have HL := hid (large_q a1 a2 a3 c1 c2 c3 25 (by omega) P w1 w.heap.size (HP.out.ext (HX1.out.trans hx1)))
  rw [show ((25 : Nat) : Int) = (25 : Int) from rfl] at HL
  unfold pval at HL
  have HX1' := hid (HX1.out.trans hx1)
  have HBp1 := hid (HB1.out.ext hx1)
  have p0 := HBp1.out.av 0 rfl
  have p1 := HBp1.out.av 1 rfl
  have p2 := HBp1.out.av 2 rfl
  simp only [pcells, List.getElem_toArray, List.getElem_cons_zero, List.getElem_cons_succ] at p0 p1 p2
  clear HR hx1
  go_wp2_with fail
  refine HL.out.mono ?_
  intro e w2 hx
  obtain ⟨r, rfl, hr, hsm, hx2⟩ := hx
  have HX2 := hid (HX1'.out.trans hx2)
  have HBp := hid (HBp1.out.ext hx2)
  clear HL hx2 p0 p1 p2
  rcases (by omega : r = 1 ∨ r = 0) with rfl | rfl
  · clear hsm hr
    go_wp2
    go_ret
    exact ⟨rfl, HX2.out⟩
  have HSm := hid (hsm rfl).1
  have HQl := hid (hsm rfl).2
  clear hsm hr
  have hz1 : ∀ s ∈ P.vars, s.size ≤ 1000000 := fun s hs => by have := HSm.out.vs s hs; omega
  have hz2 : ∀ s ∈ P.names, s.size ≤ 1000000 := fun s hs => by
    obtain ⟨f, hf, rfl⟩ := List.mem_map.1 hs
    have := (HSm.out.fs f hf).1
    omega
  have Hz1 := hid hz1
  have Hz2 := hid hz2
  have HPS := hid (show PS0 w2 w2.heap.size ad a1 a2 a3 c1 c2 c3 P from ⟨HE.out.ext HX2.out, (HP.out.ext HX2.out).lift HX2.out.size, Hz1.out, Hz2.out⟩)
  clear hz1 hz2
  have HQ := hid (ownprogram_any a1 a2 a3 c1 c2 c3 P w2 HPS.out.prog HSm.out)
  have p0 := HBp.out.av 0 rfl
  have p1 := HBp.out.av 1 rfl
  have p2 := HBp.out.av 2 rfl
  simp only [pcells, List.getElem_toArray, List.getElem_cons_zero, List.getElem_cons_succ] at p0 p1 p2
  unfold pval at HQ
  go_wp2_with fail
  refine HQ.out.mono ?_
  intro e w3 hx
  obtain ⟨hx3, b1, b2, b3, d1, d2, d3, rfl, hq⟩ := hx
  have HX3 := hid (HX2.out.trans hx3)
  have Hx3 := hid hx3
  have HPQ := hid (show PS0 w3 w3.heap.size ad b1 b2 b3 d1 d2 d3 P from ⟨HE.out.ext HX3.out, hq, Hz1.out, Hz2.out⟩)
  have HS3 := hid (HS.out.ext HX3.out)
  clear HQ hx3 hq p0 p1 p2
  obtain ⟨n, S, hL⟩ := least_exists Hw.out
  have HLe := hid hL
  have HG := hid (hL.good Hw.out)
  have HCl := hid (hL.closed Hw.out)
  have HSl := hid HG.out.2.1
  obtain ⟨hn1, hn2⟩ := Hw.out.nodes
  obtain ⟨ho, hr, ht⟩ := start_ok HG.out HCl.out
  obtain ⟨r1, r2, r3, r4, r5, r6, r7⟩ := run_end hL Hw.out ho hr
  have HO := hid ho
  have HN := hid (solvenew_yes b1 b2 b3 d1 d2 d3 P S w3 w3.heap.size ad (HPQ.out.pw Hw.out) (Nat.le_refl _) HSm.out HG.out HCl.out)
  obtain ⟨K, hK⟩ : ∃ K, K = ((SV.start P).step P 9223372036854775807).2 := ⟨_, rfl⟩
  have hKt : K = totS P S := by rw [hK, ← r5, ht, Nat.zero_add]
  obtain ⟨T, hT⟩ : ∃ T, T = ((SV.start P).step P 9223372036854775807).1 := ⟨_, rfl⟩
  have HKe := hid hK
  have HTe := hid hT
  rw [← hT] at r1 r2 r3 r7
  rw [← hK] at r6
  have HR := hid (And.intro r1 (And.intro r2 (And.intro r3 r7)))
  have HKt := hid hKt
  unfold pval at HN
  clear hL ho hr ht r1 r2 r3 r4 r5 r7 hK hT hKt
  go_wp2_with fail
  refine HN.out.mono ?_
  intro e w4 hx
  obtain ⟨g, G, F, vr, vh, rs, hs, rfl, hF, hS4, hx4⟩ := hx
  have HF := hid hF
  have Hx4 := hid hx4
  have HRun := hid (solverun_any P S (SV.start P) w4 G F g ad hS4 HO.out HG.out HCl.out)
  rw [← HKe.out, ← HTe.out] at HRun
  clear HN hF hS4 hx4
  go_wp2_with fail
  refine HRun.out.mono ?_
  intro e w5 hx
  obtain ⟨rfl, hS5, hK5⟩ := hx
  have HS5 := hid hS5
  have Hx5 : Hid (Ext w3 w5) := hid (Keep.new Hx4.out hK5 fun b hb => Nat.le_of_not_lt fun h => hb (HF.out b h))
  have HPS5 := hid (HPS.out.on (Nat.le_refl _) (Hx3.out.trans Hx5.out))
  have HQ := hid (ownprogram_any a1 a2 a3 c1 c2 c3 P w5 HPS5.out.prog HSm.out)
  have p0 := (HBp.out.ext (Hx3.out.trans Hx5.out)).av 0 rfl
  have p1 := (HBp.out.ext (Hx3.out.trans Hx5.out)).av 1 rfl
  have p2 := (HBp.out.ext (Hx3.out.trans Hx5.out)).av 2 rfl
  simp only [pcells, List.getElem_toArray, List.getElem_cons_zero, List.getElem_cons_succ] at p0 p1 p2
  unfold pval at HQ
  clear HRun hS5 hK5
  go_wp2_with fail
  refine HQ.out.mono ?_
  intro e w6 hx
  obtain ⟨hx6, q1, q2, q3, f1, f2, f3, rfl, hq⟩ := hx
  have Hx6 := hid hx6
  have HX6 := hid (HX3.out.trans (Hx5.out.trans hx6))
  have HL := hid (fixleast_ok q1 q2 q3 f1 f2 f3 P w6 ad (PS0.pw ⟨HE.out.ext HX6.out, hq, Hz1.out, Hz2.out⟩ Hw.out) (HS.out.ext HX6.out) n S HLe.out)
  have hn12 := HLe.out.few Hw.out
  rw [← HSl.out] at HL
  have hsl : S.length ≤ 120 := by rw [HSl.out]; exact hn1
  unfold pval at HL
  clear HQ hx6 hq p0 p1 p2
  go_wp2_with fail
  refine HL.out.mono ?_
  intro e w7 hx
  obtain ⟨ah, ch, rfl, hs7, hx7⟩ := hx
  have Hs7 := hid hs7
  have hhl := hs7.len
  have HXz := hid (HX6.out.trans hx7)
  obtain ⟨F7, hF7⟩ : ∃ F7 : Nat → Prop, F7 = fun b => F b ∨ (w5.heap.size ≤ b ∧ b < w7.heap.size) := ⟨_, rfl⟩
  have HS7 := hid (HS5.out.frz (Hx6.out.trans hx7))
  rw [← hF7] at HS7
  have HF7 : Hid (∀ b, b < w.heap.size → F7 b) := hid fun b hb => by rw [hF7]; exact .inl (HF.out b (Nat.lt_of_lt_of_le hb HX3.out.size))
  clear HL hs7 hx7 hF7
  go_wp2
  go_loopw [6, 9] (fun t6 t9 wr => ∃ k d : Nat, t9 = .int .i64 (k : Int) ∧ t6 = .int .i64 (d : Int) ∧ k ≤ S.length ∧ d + sumUp S k = K ∧ SolvAt wr G F7 g ad P vr rs vh hs T ∧ Ext w7 wr) (fun _ t9 _ => S.length - (intOf t9).toNat)
  case atStart => exact ⟨0, K, rfl, rfl, Nat.zero_le _, rfl, HS7.out, Ext.refl _⟩
  case round =>
    clear HS7
    obtain ⟨k, d, rfl, rfl, hk, hd, hS8, hx8⟩ := hrel
    have HS8 := hid hS8
    have Hx8 := hid hx8
    have Hd := hid hd
    have hd2 : d ≤ 15120 := by omega
    clear hS8 hx8 hd
    by_cases hlt : k < S.length
    · obtain ⟨y, l, bl, cl, hy, hl, hc, hI⟩ := (Hs7.out.ext Hx8.out).at hlt
      subst hy
      have hll := hI.len
      have hlg : S.getD k [] = l := by rw [List.getD_eq_getElem?_getD, hl]; rfl
      have hsu := sumUp_succ S k
      rw [hlg] at hsu
      have hle := sumUp_le S (k + 1) (S.length - (k + 1))
      rw [show k + 1 + (S.length - (k + 1)) = S.length by omega] at hle
      have hKs : K = sumUp S S.length := by rw [HKt.out]; unfold totS sumUp; rw [HSl.out]
      have Hd8 : Hid (d - l.length + sumUp S (k + 1) = K ∧ l.length ≤ d) := hid (by have := Hd.out; omega)
      have hlf : l.length ≤ d := Hd8.out.2
      have hob : T.hasL P (k : Int) = l := by
        unfold SV.hasL
        rw [if_neg (by have := HSl.out; omega), HR.out.2.2.2 k (by rw [← HSl.out]; exact hlt), hlg]
      have HHa := fun w1 (hS1 : SolvAt w1 G F7 g ad P vr rs vh hs T) => hid (solvehas_any P S T (k : Int) w1 G F7 g ad hS1 HR.out.1.full.core)
      rw [hob] at HHa
      have hsm : ∀ x ∈ l, x ≤ 126 := by rw [← hlg]; exact good_small HG.out k
      have Hsm := hid hsm
      have HI := hid hI
      have h6 : ∀ w1, Keep (fun _ => False) wr w1 → w1.cell? (y.add k) = some (.slice bl l.length cl) := fun w1 x => x.ext.cellx hc
      have hcw := hc
      have Hc := hid hc
      clear hl hI hlg hsu hle hKs hob hsm
      go_wp2
      clear hcw hc
      refine wp_flow (fun _ => False) (by kernel_rfl) (by kernel_rfl) ?_
      apply Flow.d 0 _ rfl (by simp) (by kernel_rfl)
      · intro w1 hk; unfold does; go_simp; (try go_ints); exact DetR.mk
      simp only [List.getElem_toArray, List.getElem_cons_zero, List.getElem_cons_succ, Act.put, List.setIfInBounds_toArray, List.set_cons_zero, List.set_cons_succ]
      apply Flow.d 1 _ rfl (by simp) (by kernel_rfl)
      · intro w1 hk; unfold does; go_simp; (try go_ints); exact DetR.mk
      simp only [List.getElem_toArray, List.getElem_cons_zero, List.getElem_cons_succ, Act.put, List.setIfInBounds_toArray, List.set_cons_zero, List.set_cons_succ]
      apply Flow.d 3 _ rfl (by simp) (by kernel_rfl)
      · intro w1 hk; unfold does; go_simp; (try go_ints); exact DetR.mk
      simp only [List.getElem_toArray, List.getElem_cons_zero, List.getElem_cons_succ, Act.put, List.setIfInBounds_toArray, List.set_cons_zero, List.set_cons_succ]
      apply Flow.d 4 _ rfl (by simp) (by kernel_rfl)
      · intro w1 hk; unfold does; go_simp; (try go_ints); exact DetR.mk
      simp only [List.getElem_toArray, List.getElem_cons_zero, List.getElem_cons_succ, Act.put, List.setIfInBounds_toArray, List.set_cons_zero, List.set_cons_succ]
      apply Flow.d 5 _ rfl (by simp) (by kernel_rfl)
      · intro w1 hk; unfold does; go_simp; (try go_ints); exact DetR.mk
      simp only [List.getElem_toArray, List.getElem_cons_zero, List.getElem_cons_succ, Act.put, List.setIfInBounds_toArray, List.set_cons_zero, List.set_cons_succ]
      apply Flow.d 6 _ rfl (by simp) (by kernel_rfl)
      · intro w1 hk; unfold does; go_simp; (try go_ints); exact DetR.mk
      simp only [List.getElem_toArray, List.getElem_cons_zero, List.getElem_cons_succ, Act.put, List.setIfInBounds_toArray, List.set_cons_zero, List.set_cons_succ]
      refine Flow.one 2 _ rfl (by kernel_rfl) (fun v' w' => (∃ a c, v' = .slice a l.length c) ∧ IntsR w' w'.heap.size v' l ∧ SolvAt w' G F7 g ad P vr rs vh hs T ∧ Ext wr w') (fun _ _ _ ⟨h1, h2, h3, h4⟩ he => ⟨h1, (h2.old (he.old _)).lift he.size, h3.ext he, h4.trans he⟩) (fun w9 hC hk9 => ?_) ?_
      · unfold does
        go_simp
        refine CallR.act ((HHa w9 (HS8.out.ext hC)).out.mono ?_)
        rintro e w10 ⟨v, rfl, hr, hS10, hx10⟩
        exact ⟨v, rfl, hk9.trans (hx10.keep _), hr.form, IntsR.own hr (Nat.le_refl _), hS10, hC.trans hx10⟩
      rintro _ ⟨_, ⟨a8, c8, rfl⟩, _, _, _⟩
      simp only [List.getElem_toArray, List.getElem_cons_zero, List.getElem_cons_succ, Act.put, List.setIfInBounds_toArray, List.set_cons_zero, List.set_cons_succ]
      refine Flow.one 7 _ rfl (by kernel_rfl) (fun v' w' => v' = .bool true ∧ SolvAt w' G F7 g ad P vr rs vh hs T ∧ Ext wr w') (fun _ _ _ ⟨h1, h3, h4⟩ he => ⟨h1, h3.ext he, h4.trans he⟩) (fun w9 hC hk9 => ?_) ?_
      · obtain ⟨_, hI8, hS9, hx9⟩ := hC
        have HSa := sameints_any a8 bl l.length l.length c8 cl l l w9 (IntsR.ints hI8 (getD_few (by decide) fun x hx => by have := Hsm.out x hx; omega)) (IntsR.ints (HI.out.old (hx9.old _)) (getD_few (by decide) fun x hx => by have := Hsm.out x hx; omega)) (by omega) (by omega)
        rw [decide_eq_true (rfl : l = l)] at HSa
        unfold does
        go_simp
        refine CallR.act (HSa.mono ?_)
        rintro e w10 ⟨rfl, hx10⟩
        exact ⟨_, rfl, hk9.trans (hx10.keep _), rfl, hS9.ext hx10, hx9.trans hx10⟩
      rintro _ ⟨_, rfl, _, _⟩
      simp only [List.getElem_toArray, List.getElem_cons_zero, List.getElem_cons_succ, Act.put, List.setIfInBounds_toArray, List.set_cons_zero, List.set_cons_succ]
      apply Flow.d 8 _ rfl (by simp) (by kernel_rfl)
      · intro w1 hk; unfold does; go_simp; (try go_ints); exact DetR.mk
      simp only [List.getElem_toArray, List.getElem_cons_zero, List.getElem_cons_succ, Act.put, List.setIfInBounds_toArray, List.set_cons_zero, List.set_cons_succ]
      refine Flow.fin (by kernel_rfl) fun w11 hC11 hk11 => ?_
      obtain ⟨_, hS11, hx11⟩ := hC11
      have HS11 := hid hS11
      have Hx11 := hid (Hx8.out.trans hx11)
      have hc11 := hx11.cellx Hc.out
      clear hS11 hx11 hk11 h6 HHa
      go_wp2
      go_roundw
      case rel => exact ⟨k + 1, d - l.length, by go_num, by go_num, by omega, Hd8.out.1, HS11.out, Hx11.out⟩
      case measure => simp [intOf]; omega
    · obtain rfl : k = S.length := by omega
      have hd0 : d = 0 := by
        have h1 := Hd.out
        rw [HKt.out] at h1
        have : totS P S = sumUp S S.length := by unfold totS sumUp; rw [HSl.out]
        omega
      subst hd0
      have HDo := hid (solvedone_any P S T wr G F7 g ad HS8.out HR.out.1.full.core HG.out)
      rw [HR.out.2.2.1, HR.out.2.1, decide_eq_true rfl] at HDo
      go_wp2_with fail
      refine HDo.out.mono ?_
      intro e w9 hx
      obtain ⟨rfl, hS9, hK9⟩ := hx
      have HX9 := hid (Keep.new (HXz.out.trans Hx8.out) hK9 fun b hb => Nat.le_of_not_lt fun h => hb (HF7.out b h))
      clear HDo hS9 hK9
      go_wp2
      go_ret
      exact ⟨rfl, HX9.out⟩
set_option maxRecDepth 100000 in
set_option maxHeartbeats 6400000 in
theorem solvefixlaw_no (a1 a2 a3 : Option Addr) (c1 c2 c3 : Nat) (P : PP) (w : World) (ad : Nat → Addr) (hE : ErrsP w ad) (hS : ErrS w ad) (hP : ProgR w w.heap.size (.slice a1 P.vars.length c1) (.slice a2 P.funs.length c2) (.slice a3 P.stmts.length c3) P) (hw : ¬ P.Well) :
    Calls Tryz.prog 5 #[pval a1 a2 a3 c1 c2 c3 P] w fun e w' => e = .returned (.bool true) ∧ Ext w w' := by
  have Hw := hid hw
  clear hw
  have HE := hid hE
  have HS := hid hS
  have HP := hid hP
  obtain ⟨W1, hW1⟩ : ∃ W1, W1 = w.alloc (.cells (pcells a1 a2 a3 c1 c2 c3 P) 26) := ⟨_, rfl⟩
  have HX1 : Hid (Ext w W1) := hid (by rw [hW1]; exact (Ext.refl _).alloc _)
  have HB1 : Hid (Blk W1 w.heap.size (pcells a1 a2 a3 c1 c2 c3 P) 26) := hid (by rw [hW1]; exact Blk.new _ _ _)
  have HR := hid (solvedfact_any W1 ad (hE.ext HX1.out) (hS.ext HX1.out))
  have HW1 : Hid (W1 = w.alloc (.cells #[.slice a1 P.vars.length c1, .slice a2 P.funs.length c2, .slice a3 P.stmts.length c3] 26)) := hid (by rw [hW1]; rfl)
  unfold pval
  clear hE hS hP hW1
  go_enter Tryz.func5, Tryz.ntmps5
  go_wp2_with fail
  rw [← HW1.out]
  refine HR.out.mono ?_
  intro e w1 hx
  obtain ⟨rfl, hx1⟩ := hx
  have HL := hid (large_q a1 a2 a3 c1 c2 c3 25 (by omega) P w1 w.heap.size (HP.out.ext (HX1.out.trans hx1)))
  rw [show ((25 : Nat) : Int) = (25 : Int) from rfl] at HL
  unfold pval at HL
  have HX1' := hid (HX1.out.trans hx1)
  have HBp1 := hid (HB1.out.ext hx1)
  have p0 := HBp1.out.av 0 rfl
  have p1 := HBp1.out.av 1 rfl
  have p2 := HBp1.out.av 2 rfl
  simp only [pcells, List.getElem_toArray, List.getElem_cons_zero, List.getElem_cons_succ] at p0 p1 p2
  clear HR hx1
  go_wp2_with fail
  refine HL.out.mono ?_
  intro e w2 hx
  obtain ⟨r, rfl, hr, hsm, hx2⟩ := hx
  have HX2 := hid (HX1'.out.trans hx2)
  have HBp := hid (HBp1.out.ext hx2)
  clear HL hx2 p0 p1 p2
  rcases (by omega : r = 1 ∨ r = 0) with rfl | rfl
  · clear hsm hr
    go_wp2
    go_ret
    exact ⟨rfl, HX2.out⟩
  have HSm := hid (hsm rfl).1
  have HQl := hid (hsm rfl).2
  clear hsm hr
  have hz1 : ∀ s ∈ P.vars, s.size ≤ 1000000 := fun s hs => by have := HSm.out.vs s hs; omega
  have hz2 : ∀ s ∈ P.names, s.size ≤ 1000000 := fun s hs => by
    obtain ⟨f, hf, rfl⟩ := List.mem_map.1 hs
    have := (HSm.out.fs f hf).1
    omega
  have Hz1 := hid hz1
  have Hz2 := hid hz2
  have HPS := hid (show PS0 w2 w2.heap.size ad a1 a2 a3 c1 c2 c3 P from ⟨HE.out.ext HX2.out, (HP.out.ext HX2.out).lift HX2.out.size, Hz1.out, Hz2.out⟩)
  clear hz1 hz2
  have HQ := hid (ownprogram_any a1 a2 a3 c1 c2 c3 P w2 HPS.out.prog HSm.out)
  have p0 := HBp.out.av 0 rfl
  have p1 := HBp.out.av 1 rfl
  have p2 := HBp.out.av 2 rfl
  simp only [pcells, List.getElem_toArray, List.getElem_cons_zero, List.getElem_cons_succ] at p0 p1 p2
  unfold pval at HQ
  go_wp2_with fail
  refine HQ.out.mono ?_
  intro e w3 hx
  obtain ⟨hx3, b1, b2, b3, d1, d2, d3, rfl, hq⟩ := hx
  have HX3 := hid (HX2.out.trans hx3)
  have Hx3 := hid hx3
  have HPQ := hid (show PS0 w3 w3.heap.size ad b1 b2 b3 d1 d2 d3 P from ⟨HE.out.ext HX3.out, hq, Hz1.out, Hz2.out⟩)
  have HS3 := hid (HS.out.ext HX3.out)
  clear HQ hx3 hq p0 p1 p2
  have HN := hid (solvenew_no b1 b2 b3 d1 d2 d3 P w3 w3.heap.size ad HPQ.out (Nat.le_refl _) Hw.out)
  unfold pval at HN
  go_wp2_with fail
  refine HN.out.mono ?_
  intro e w4 hx
  obtain ⟨t, x, rfl, _, hx4⟩ := hx
  have HX4 := hid (HX3.out.trans hx4)
  clear HN hx4
  go_wp2
  go_ret
  exact ⟨rfl, HX4.out⟩
theorem solvefixlaw_any (a1 a2 a3 : Option Addr) (c1 c2 c3 : Nat) (P : PP) (w : World) (ad : Nat → Addr) (hE : ErrsP w ad) (hS : ErrS w ad) (hP : ProgR w w.heap.size (.slice a1 P.vars.length c1) (.slice a2 P.funs.length c2) (.slice a3 P.stmts.length c3) P) :
    Calls Tryz.prog 5 #[pval a1 a2 a3 c1 c2 c3 P] w fun e w' => e = .returned (.bool true) ∧ Ext w w' := by
  by_cases hw : P.Well
  · exact solvefixlaw_yes a1 a2 a3 c1 c2 c3 P w ad hE hS hP hw
  · exact solvefixlaw_no a1 a2 a3 c1 c2 c3 P w ad hE hS hP hw
end Go.Proofs.YtdppgcbekhabnaaGreatDoor

