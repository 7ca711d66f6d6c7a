/- Texts of one proof, put together: ZK. -/
import Derived.Test.YtoaoienfggjepaaGreatDoorTL20
import Derived.Test.YtoaoienfggjepaaGreatDoorTL22

/- CallsTell: the law walked, where the program is well. -/
namespace Go.Proofs.YtoaoienfggjepaaGreatDoor
set_option linter.unusedSimpArgs false
set_option linter.unusedVariables false
open Go Go.RowKit

theorem graphUp_more (P : PP) (S : List (List Int)) (s : Nat) : ∀ d, ∃ R, graphUp P S (s + d) = graphUp P S s ++ R
  | 0 => ⟨[], by simp⟩
  | d + 1 => by
    obtain ⟨R, hR⟩ := graphUp_more P S s d
    exact ⟨R ++ _, by rw [← Nat.add_assoc, graphUp_succ, hR, List.append_assoc]⟩
theorem graphL_at {P : PP} {S : List (List Int)} {s j : Nat} {f : Int} (hs : s < P.stmts.length) (hf : (calledL P S (P.stAt s))[j]? = some f) : (graphL P S)[(graphUp P S s).length + j]? = some ((s : Int), f) := by
  obtain ⟨R, hR⟩ := graphUp_more P S (s + 1) (P.stmts.length - (s + 1))
  rw [show s + 1 + (P.stmts.length - (s + 1)) = P.stmts.length by omega, graphUp_succ, List.append_assoc] at hR
  unfold graphL
  rw [hR, List.getElem?_append_right (Nat.le_add_right _ _), Nat.add_sub_cancel_left]
  have hl : j < (calledL P S (P.stAt s)).length := by
    rcases Nat.lt_or_ge j (calledL P S (P.stAt s)).length with g | g
    · exact g
    · rw [List.getElem?_eq_none g] at hf; cases hf
  rw [List.getElem?_append_left (by rw [List.length_map]; exact hl), List.getElem?_map, hf]
  rfl
theorem graphUp_len {P : PP} {S : List (List Int)} (hg : P.GoodS S) : ∀ n, (graphUp P S n).length ≤ 1000 * n
  | 0 => Nat.le_refl _
  | n + 1 => by
    have h1 := graphUp_len hg n
    have h2 := calledL_len hg (P.stAt n)
    rw [graphUp_succ, List.length_append, List.length_map]
    omega
theorem own_c {w : World} {base g cap n : Nat} {R : List (Int × Int)} (h : w.ownsRow base 80 2 (.slice (some ⟨g, 0, none⟩) n cap) n (R.flatMap eCells)) {i : Nat} {x : Int × Int} (hx : R[i]? = some x) :
    w.cell? ⟨g, i * 2, none⟩ = some (.int .i64 x.1) ∧ w.cell? ⟨g, i * 2 + 1, none⟩ = some (.int .i64 x.2) := by
  have c : ∀ j v, (eCells x)[j]? = some v → j < 2 → w.cell? ⟨g, i * 2 + j, none⟩ = some v := fun j v hv hj => own_get h _ ((fm_get eCells 2 eCells_len R i j x hx hj).trans hv)
  exact ⟨c 0 _ rfl (by omega), c 1 _ rfl (by omega)⟩
theorem idleL_few {P : PP} {S : List (List Int)} : ∀ x ∈ idleL P S, x < P.stmts.length := fun x hx => by
  unfold idleL idleUp at hx
  obtain ⟨n, hn, rfl⟩ := List.mem_map.1 hx
  have := List.mem_range.1 (List.mem_filter.1 hn).1
  omega
theorem writesL_few {P : PP} {S : List (List Int)} (hg : P.GoodS S) (x : PS) : ∀ z ∈ writesL P S x, z < 1000 := fun z hz => by
  have h126 := nodesV_le P hg.1
  have hf := hg.1.few
  have hl := hg.2.1
  unfold writesL at hz
  cases h1 : x.isK kStore with
  | true =>
    rw [h1, cond_true] at hz
    have h2 := (List.mem_filter.1 hz).2
    by_cases h3 : (S.length : Int) ≤ z
    · rw [decide_eq_true h3] at h2; cases h2
    · omega
  | false =>
    rw [h1, cond_false] at hz
    cases h2 : (x.isK kCall && decide ((calledL P S x).length = 0)) with
    | true => rw [h2, cond_true] at hz; cases hz
    | false =>
      rw [h2, cond_false] at hz
      exact (mem_sset0.1 hz).2.2
theorem getD_bound {l : List Int} {m : Int} (h0 : 0 ≤ m) (h : ∀ x ∈ l, x ≤ m) (i : Nat) : l.getD i 0 ≤ m := by
  rw [List.getD_eq_getElem?_getD]
  cases hx : l[i]? with
  | none => exact h0
  | some x => exact h x (List.mem_of_getElem? hx)
/-- What calls.Alias tells, wherever the nodes are. -/
def AlP (ad : Nat → Addr) (S : List (List Int)) (x y : Int) (da : Bool) (ea : Value) : Prop :=
  (0 ≤ x ∧ x < S.length ∧ 0 ≤ y ∧ y < S.length → da = aliasV S x.toNat y.toNat ∧ ea = .nilIface) ∧ (¬ (0 ≤ x ∧ x < S.length ∧ 0 ≤ y ∧ y < S.length) → da = false ∧ ea = evOf ad 2)
theorem callsalias_all (a1 a2 a3 : Option Addr) (c1 c2 c3 : Nat) (P : PP) (x y : Int) (w : World) (ad : Nat → Addr) (h : PW w w.heap.size ad a1 a2 a3 c1 c2 c3 P) (hS : ErrS w ad) (n : Nat) (S : List (List Int)) (hL : LeastAt P n S) :
    Calls Tryz.prog 24 #[pval a1 a2 a3 c1 c2 c3 P, .int .i64 x, .int .i64 y] w fun e w' => ∃ da ea, e = .returned (.tuple #[.bool da, ea]) ∧ AlP ad S x y da ea ∧ Ext w w' := by
  by_cases hb : 0 ≤ x ∧ x < S.length ∧ 0 ≤ y ∧ y < S.length
  · obtain ⟨X, rfl⟩ := Int.eq_ofNat_of_zero_le hb.1
    obtain ⟨Y, rfl⟩ := Int.eq_ofNat_of_zero_le hb.2.2.1
    exact (callsalias_ok a1 a2 a3 c1 c2 c3 P X Y w ad h hS n S hL (by omega) (by omega)).mono fun e w' ⟨he, hx⟩ => ⟨_, _, he, ⟨fun _ => ⟨rfl, rfl⟩, fun g => absurd hb g⟩, hx⟩
  · exact (callsalias_out a1 a2 a3 c1 c2 c3 P x y w ad h hS n S hL hb).mono fun e w' ⟨he, hx⟩ => ⟨_, _, he, ⟨fun g => absurd g hb, fun _ => ⟨rfl, rfl⟩⟩, hx⟩
/-- What calls.Writes tells, wherever the statement is. -/
def WrP (ad : Nat → Addr) (P : PP) (S : List (List Int)) (k : Int) (w : World) (aw : Option Addr) (nw cw : Nat) (ew : Value) : Prop :=
  (∀ (K : Nat) (x : PS), k = (K : Int) → P.stmts[K]? = some x → ew = .nilIface ∧ nw = (writesL P S x).length ∧ IntsR w w.heap.size (.slice aw nw cw) (writesL P S x)) ∧ (¬ (0 ≤ k ∧ k < P.stmts.length) → ew = evOf ad 2 ∧ nw = 0)
theorem callswrites_all (a1 a2 a3 : Option Addr) (c1 c2 c3 : Nat) (P : PP) (k : Int) (w : World) (ad : Nat → Addr) (h : PW w w.heap.size ad a1 a2 a3 c1 c2 c3 P) (hS : ErrS w ad) (n : Nat) (S : List (List Int)) (hL : LeastAt P n S) :
    Calls Tryz.prog 30 #[pval a1 a2 a3 c1 c2 c3 P, .int .i64 k] w fun e w' => ∃ aw nw cw ew, e = .returned (.tuple #[.slice aw nw cw, ew]) ∧ WrP ad P S k w' aw nw cw ew ∧ Ext w w' := by
  by_cases hb : 0 ≤ k ∧ k < P.stmts.length
  · obtain ⟨K, rfl⟩ := Int.eq_ofNat_of_zero_le hb.1
    have hk := stAt_some (P := P) (k := K) (by omega)
    refine (callswrites_ok a1 a2 a3 c1 c2 c3 P K _ w ad h hS n S hL hk).mono fun e w' ⟨a, c, he, hi, hx⟩ => ⟨_, _, _, _, he, ⟨fun K' x' e1 e2 => ?_, fun g => absurd hb g⟩, hx⟩
    obtain rfl : K = K' := by omega
    obtain rfl := Option.some.inj (hk.symm.trans e2)
    exact ⟨rfl, rfl, hi⟩
  · exact (callswrites_out a1 a2 a3 c1 c2 c3 P k w ad h hS n S hL hb).mono fun e w' ⟨he, hx⟩ => ⟨_, _, _, _, he, ⟨fun K x e1 e2 => absurd (by
      have : K < P.stmts.length := by
        rcases Nat.lt_or_ge K P.stmts.length with g | g
        · exact g
        · rw [List.getElem?_eq_none g] at e2; cases e2
      omega) hb, fun _ => ⟨rfl, rfl⟩⟩, hx⟩
set_option maxRecDepth 100000 in
set_option maxHeartbeats 12800000 in
theorem callstelllaw_yes (a1 a2 a3 : Option Addr) (c1 c2 c3 : Nat) (P : PP) (x y k : Int) (w : World) (ad : Nat → Addr) (hE : ErrsP w ad) (hA : AllErrs w ad) (hS : ErrS w ad) (hP : ProgR w w.heap.size (.slice a1 P.vars.length c1) (.slice a2 P.funs.length c2) (.slice a3 P.stmts.length c3) P) (hw : P.Well) :
    Calls Tryz.prog 8 #[pval a1 a2 a3 c1 c2 c3 P, .int .i64 x, .int .i64 y, .int .i64 k] w fun e w' => e = .returned (.bool true) ∧ Ext w w' := by
  have HAA := hid hA
  have Hw := hid hw
  clear hA hw
  have HE := hid hE
  have HS := hid hS
  have HP := hid hP
  obtain ⟨W1, hW1⟩ : ∃ W1, W1 = w.alloc (.cells (pcells a1 a2 a3 c1 c2 c3 P) 39) := ⟨_, rfl⟩
  have HX1 : Hid (Ext w W1) := hid (by rw [hW1]; exact (Ext.refl _).alloc _)
  have HB1 : Hid (Blk W1 w.heap.size (pcells a1 a2 a3 c1 c2 c3 P) 39) := hid (by rw [hW1]; exact Blk.new _ _ _)
  have HR := hid (callsfact_any W1 ad (hE.ext HX1.out) (hS.ext HX1.out))
  have HW1 : Hid (W1 = w.alloc (.cells #[.slice a1 P.vars.length c1, .slice a2 P.funs.length c2, .slice a3 P.stmts.length c3] 39)) := hid (by rw [hW1]; rfl)
  unfold pval
  clear hE hS hP hW1
  go_enter Tryz.func8, Tryz.ntmps8
  go_wp2_with fail
  rw [← HW1.out]
  refine HR.out.mono ?_
  intro e w1 hx
  obtain ⟨rfl, hx1⟩ := hx
  have HL := hid (large_q a1 a2 a3 c1 c2 c3 25 (by omega) P w1 w.heap.size (HP.out.ext (HX1.out.trans hx1)))
  rw [show ((25 : Nat) : Int) = (25 : Int) from rfl] at HL
  unfold pval at HL
  have HX1' := hid (HX1.out.trans hx1)
  have HBp1 := hid (HB1.out.ext hx1)
  have p0 := HBp1.out.av 0 rfl
  have p1 := HBp1.out.av 1 rfl
  have p2 := HBp1.out.av 2 rfl
  simp only [pcells, List.getElem_toArray, List.getElem_cons_zero, List.getElem_cons_succ] at p0 p1 p2
  clear HR hx1
  go_wp2_with fail
  refine HL.out.mono ?_
  intro e w2 hx
  obtain ⟨r, rfl, hr, hsm, hx2⟩ := hx
  have HX2 := hid (HX1'.out.trans hx2)
  have HBp := hid (HBp1.out.ext hx2)
  clear HL hx2 p0 p1 p2
  rcases (by omega : r = 1 ∨ r = 0) with rfl | rfl
  · clear hsm hr
    go_wp2
    go_ret
    exact ⟨rfl, HX2.out⟩
  have HSm := hid (hsm rfl).1
  have HQl := hid (hsm rfl).2
  clear hsm hr
  obtain ⟨w2', hw2'⟩ : ∃ w2', w2' = w2 := ⟨_, rfl⟩
  subst hw2'
  have HX2' := hid HX2.out
  have HBp' := hid HBp.out
  have hz1 : ∀ s ∈ P.vars, s.size ≤ 1000000 := fun s hs => by have := HSm.out.vs s hs; omega
  have hz2 : ∀ s ∈ P.names, s.size ≤ 1000000 := fun s hs => by
    obtain ⟨f, hf, rfl⟩ := List.mem_map.1 hs
    have := (HSm.out.fs f hf).1
    omega
  have Hz1 := hid hz1
  have Hz2 := hid hz2
  have HPS := hid (show PS0 w2' w2'.heap.size ad a1 a2 a3 c1 c2 c3 P from ⟨HE.out.ext HX2'.out, (HP.out.ext HX2'.out).lift HX2'.out.size, Hz1.out, Hz2.out⟩)
  clear hz1 hz2
  have HQ := hid (ownprogram_any a1 a2 a3 c1 c2 c3 P w2' HPS.out.prog HSm.out)
  have p0 := HBp'.out.av 0 rfl
  have p1 := HBp'.out.av 1 rfl
  have p2 := HBp'.out.av 2 rfl
  simp only [pcells, List.getElem_toArray, List.getElem_cons_zero, List.getElem_cons_succ] at p0 p1 p2
  unfold pval at HQ
  go_wp2_with fail
  refine HQ.out.mono ?_
  intro e w3 hx
  obtain ⟨hx3, b1, b2, b3, d1, d2, d3, rfl, hq⟩ := hx
  have HX3 := hid (HX2'.out.trans hx3)
  have Hx3 := hid hx3
  have Hq3 := hid hq
  clear HQ hx3 hq p0 p1 p2
  obtain ⟨W9, hW9⟩ : ∃ W9, W9 = w3.alloc (.cells (pcells b1 b2 b3 d1 d2 d3 P) 39) := ⟨_, rfl⟩
  have hx9 : Ext w3 W9 := by rw [hW9]; exact (Ext.refl _).alloc _
  have HXw := hid (HX3.out.trans hx9)
  have Hw9 := hid (Hx3.out.trans hx9)
  have HB6 : Hid (Blk W9 w3.heap.size (pcells b1 b2 b3 d1 d2 d3 P) 39) := hid (by rw [hW9]; exact Blk.new _ _ _)
  have HW9 : Hid (W9 = w3.alloc (.cells #[.slice b1 P.vars.length d1, .slice b2 P.funs.length d2, .slice b3 P.stmts.length d3] 39)) := hid (by rw [hW9]; rfl)
  have HPP9 := hid (show PS0 W9 W9.heap.size ad b1 b2 b3 d1 d2 d3 P from ⟨HE.out.ext HXw.out, (Hq3.out.ext hx9).lift hx9.size, Hz1.out, Hz2.out⟩)
  have HS9 := hid (HS.out.ext HXw.out)
  clear hx9 hW9
  have HA9 := hid (HAA.out.ext HXw.out)
  obtain ⟨n, S, hL⟩ := least_exists Hw.out
  have HLe := hid hL
  have HG := hid (hL.good Hw.out)
  have HSl := hid HG.out.2.1
  have hn12 := hL.few Hw.out
  have hsl80 : P.stmts.length ≤ 80 := Hw.out.few.2.2
  have hS126 : S.length ≤ 126 := by
    have h1 := Hw.out.few
    have h2 := nodesV_le P Hw.out
    have := HSl.out
    omega
  have HC := hid (callsgraph_ok b1 b2 b3 d1 d2 d3 P W9 ad (HPP9.out.pw Hw.out) HS9.out n S hL)
  obtain ⟨GL, hGL⟩ : ∃ GL, GL = graphL P S := ⟨_, rfl⟩
  rw [← hGL] at HC
  have HGL := hid hGL
  have hgl : GL.length ≤ 80000 := by rw [hGL]; have := graphUp_len HG.out P.stmts.length; unfold graphL; omega
  unfold pval at HC
  clear hL hGL
  go_wp2_with fail
  rw [← HW9.out]
  refine HC.out.mono ?_
  intro e w4 hx
  obtain ⟨ag, cg, rfl, hg4, hx4⟩ := hx
  have Hg4 := hid hg4
  have HZ4 := hid hx4
  clear HC hg4 hx4
  have HC := hid (callsalias_all b1 b2 b3 d1 d2 d3 P x y w4 ad ((HPP9.out.on (Nat.le_refl _) HZ4.out).pw Hw.out) (HS9.out.ext HZ4.out) n S HLe.out)
  unfold pval at HC
  have g0 := (HB6.out.ext HZ4.out).av 0 rfl
  have g1 := (HB6.out.ext HZ4.out).av 1 rfl
  have g2 := (HB6.out.ext HZ4.out).av 2 rfl
  simp only [pcells, List.getElem_toArray, List.getElem_cons_zero, List.getElem_cons_succ] at g0 g1 g2
  go_wp2_with fail
  refine HC.out.mono ?_
  intro e w5 hx
  obtain ⟨da, ea, rfl, hal, hx5⟩ := hx
  have Hal := hid hal
  have HZ5 := hid (HZ4.out.trans hx5)
  have Hx45 := hid hx5
  clear HC hal hx5 g0 g1 g2
  have HC := hid (callswrites_all b1 b2 b3 d1 d2 d3 P k w5 ad ((HPP9.out.on (Nat.le_refl _) HZ5.out).pw Hw.out) (HS9.out.ext HZ5.out) n S HLe.out)
  unfold pval at HC
  have g0 := (HB6.out.ext HZ5.out).av 0 rfl
  have g1 := (HB6.out.ext HZ5.out).av 1 rfl
  have g2 := (HB6.out.ext HZ5.out).av 2 rfl
  simp only [pcells, List.getElem_toArray, List.getElem_cons_zero, List.getElem_cons_succ] at g0 g1 g2
  go_wp2_with fail
  refine HC.out.mono ?_
  intro e w6 hx
  obtain ⟨aw, nw, cw, ew, rfl, hwr, hx6⟩ := hx
  have Hwr := hid hwr
  have HZ6 := hid (HZ5.out.trans hx6)
  have Hx46 := hid (Hx45.out.trans hx6)
  clear HC hwr hx6 g0 g1 g2
  have HC := hid (callsidle_ok b1 b2 b3 d1 d2 d3 P w6 ad ((HPP9.out.on (Nat.le_refl _) HZ6.out).pw Hw.out) (HS9.out.ext HZ6.out) n S HLe.out)
  have hif := idleL_few (P := P) (S := S)
  obtain ⟨IL, hIL⟩ : ∃ IL, IL = idleL P S := ⟨_, rfl⟩
  rw [← hIL] at HC hif
  have HIL := hid hIL
  have Hif := hid hif
  unfold pval at HC
  have g0 := (HB6.out.ext HZ6.out).av 0 rfl
  have g1 := (HB6.out.ext HZ6.out).av 1 rfl
  have g2 := (HB6.out.ext HZ6.out).av 2 rfl
  simp only [pcells, List.getElem_toArray, List.getElem_cons_zero, List.getElem_cons_succ] at g0 g1 g2
  clear hIL hif
  go_wp2_with fail
  refine HC.out.mono ?_
  intro e w7 hx
  obtain ⟨ai, ci, rfl, hi7, hx7⟩ := hx
  have HIi := hid (IntsR.own hi7 (Nat.le_refl _))
  have HZ7 := hid (HZ6.out.trans hx7)
  have Hx67 := hid hx7
  have hil := HIi.out.len
  clear HC hi7 hx7 g0 g1 g2
  have HPp9 := hid (HPS.out.on (Nat.le_refl _) (Hw9.out.trans HZ7.out))
  have HF := hid (rfprog_all a1 a2 a3 c1 c2 c3 P w7 HPp9.out.prog Hz1.out Hz2.out)
  have p0 := (HBp'.out.ext (Hw9.out.trans HZ7.out)).av 0 rfl
  have p1 := (HBp'.out.ext (Hw9.out.trans HZ7.out)).av 1 rfl
  have p2 := (HBp'.out.ext (Hw9.out.trans HZ7.out)).av 2 rfl
  simp only [pcells, List.getElem_toArray, List.getElem_cons_zero, List.getElem_cons_succ] at p0 p1 p2
  unfold pval at HF
  go_wp2_with fail
  refine HF.out.mono ?_
  intro e w8 hx
  obtain ⟨hx8, c, p, rfl, hfi⟩ := hx
  have Hfi := hid hfi
  obtain ⟨W6, hW6⟩ : ∃ W6, W6 = w8.alloc (.cells #[.int .i64 (c : Int), .int .i64 p] 63) := ⟨_, rfl⟩
  have hx6 : Ext w8 W6 := by rw [hW6]; exact (Ext.refl _).alloc _
  have HW6 := hid hW6
  have HX6 := hid (hx8.trans hx6)
  have HBf : Hid (Blk W6 w8.heap.size #[.int .i64 (c : Int), .int .i64 p] 63) := hid (by rw [hW6]; exact Blk.new _ _ _)
  clear HF hfi hx8 hx6 hW6 p0 p1 p2
  obtain ⟨rfl, rfl⟩ := Hfi.out.uniq (show FaultIs P 0 (-1) from .inr (.inl ⟨Hw.out.1, Hw.out.2, rfl, rfl⟩))
  have HW6z : Hid (W6 = w8.alloc (.cells #[.int .i64 0, .int .i64 (-1)] 63)) := hid HW6.out
  have HBfz : Hid (Blk W6 w8.heap.size #[.int .i64 0, .int .i64 (-1)] 63) := hid HBf.out
  have HZ := hid (HZ7.out.trans HX6.out)
  have HC := hid (rleastof_any a1 a2 a3 c1 c2 c3 P W6 (HPS.out.on (Nat.le_refl _) (Hw9.out.trans HZ.out)).prog Hw.out n S HLe.out)
  rw [← HSl.out] at HC
  unfold pval at HC
  have p0 := (HBp'.out.ext (Hw9.out.trans HZ.out)).av 0 rfl
  have p1 := (HBp'.out.ext (Hw9.out.trans HZ.out)).av 1 rfl
  have p2 := (HBp'.out.ext (Hw9.out.trans HZ.out)).av 2 rfl
  simp only [pcells, List.getElem_toArray, List.getElem_cons_zero, List.getElem_cons_succ] at p0 p1 p2
  have f0 := HBfz.out.av 0 rfl
  have f1 := HBfz.out.av 1 rfl
  simp only [List.getElem_toArray, List.getElem_cons_zero, List.getElem_cons_succ] at f0 f1
  rw [HW6z.out] at f0 f1 p0 p1 p2
  clear HW6 HBf Hfi
  go_wp2_with fail
  rw [← HW6z.out]
  refine HC.out.mono ?_
  intro e w9 hx
  obtain ⟨ah, ch, rfl, hs9, hx9⟩ := hx
  have Hs9 := hid hs9
  have HZ9 := hid (HZ.out.trans hx9)
  have Hx69 := hid (Hx67.out.trans (HX6.out.trans hx9))
  have Hx79 := hid (HX6.out.trans hx9)
  have HP9 := hid (HPS.out.on (Nat.le_refl _) (Hw9.out.trans HZ9.out)).prog
  have Hx49 := hid (Hx46.out.trans Hx69.out)
  have hhl := hs9.len
  clear HC hs9 hx9 f0 f1 p0 p1 p2
  have HCl := hid (fun k x w1 (y : Ext w9 w1) (hk : P.stmts[k]? = some x) => rcalledof_any a1 a2 a3 c1 c2 c3 P ah ch S k x w1 w9.heap.size (HP9.out.ext y) (Hs9.out.ext y) HG.out hk y.size)
  go_wp2
  go_loopw [22, 23] (fun t22 t23 wr => ∃ s G0 : Nat, t23 = .int .i64 (s : Int) ∧ t22 = .int .i64 (G0 : Int) ∧ G0 = (graphUp P S s).length ∧ s ≤ P.stmts.length ∧ G0 ≤ 80000 ∧ Ext w9 wr) (fun _ t23 _ => P.stmts.length - (intOf t23).toNat)
  case atStart => exact ⟨0, 0, rfl, rfl, rfl, Nat.zero_le _, by omega, Ext.refl _⟩
  case round =>
    obtain ⟨s, G0, rfl, rfl, hG0, hs, hgl0, hx⟩ := hrel
    have HG0 := hid hG0
    have Hx := hid hx
    clear hG0 hx
    have p0 := (HBp'.out.ext (Hw9.out.trans (HZ9.out.trans Hx.out))).av 0 rfl
    have p1 := (HBp'.out.ext (Hw9.out.trans (HZ9.out.trans Hx.out))).av 1 rfl
    have p2 := (HBp'.out.ext (Hw9.out.trans (HZ9.out.trans Hx.out))).av 2 rfl
    simp only [pcells, List.getElem_toArray, List.getElem_cons_zero, List.getElem_cons_succ] at p0 p1 p2
    by_cases hlt : s < P.stmts.length
    · have HC := hid (HCl.out s _ wr Hx.out (stAt_some hlt))
      have hup := graphUp_succ P S s
      have hat := fun j f (hf : (calledL P S (P.stAt s))[j]? = some f) => graphL_at (S := S) hlt hf
      have hql := calledL_len HG.out (P.stAt s)
      obtain ⟨Q, hQ⟩ : ∃ Q, Q = calledL P S (P.stAt s) := ⟨_, rfl⟩
      rw [← hQ] at HC hup hat hql
      rw [← HG0.out, ← HGL.out] at hat
      have Hup : Hid (G0 + Q.length = (graphUp P S (s + 1)).length) := hid (by rw [hup, List.length_append, List.length_map, HG0.out])
      have Hat := hid hat
      have hgq : G0 + Q.length ≤ 80000 := by
        have h1 := Hup.out
        have h2 := graphUp_len HG.out (s + 1)
        omega
      unfold pval at HC
      clear hup hat hQ
      go_wp2_with fail
      refine HC.out.mono ?_
      intro e w10 hx
      obtain ⟨vq, rfl, hrq, hxq⟩ := hx
      obtain ⟨aq, cq, rfl⟩ := hrq.form
      have HIq := hid (IntsR.own hrq (Nat.le_refl _))
      have hqi := HIq.out.len
      have Hx10 := hid (Hx.out.trans hxq)
      clear HC hrq hxq p0 p1 p2
      go_wp2
      go_loopw [22, 25] (fun t22 t25 wr => ∃ j m : Nat, t25 = .int .i64 (j : Int) ∧ t22 = .int .i64 (m : Int) ∧ m = G0 + j ∧ j ≤ Q.length ∧ Ext w10 wr) (fun _ t25 _ => Q.length - (intOf t25).toNat)
      case atStart => exact ⟨0, G0, rfl, rfl, rfl, Nat.zero_le _, Ext.refl _⟩
      case round =>
        obtain ⟨j, m, rfl, rfl, hm, hj, hx⟩ := hrel
        have Hxj := hid hx
        have Hm := hid hm
        have hm2 : m ≤ G0 + Q.length := by omega
        clear hx hm
        by_cases hlj : j < Q.length
        · obtain ⟨yq, f, hyq, hf, hcf⟩ := (HIq.out.old (Hxj.out.old _)).at hlj
          subst hyq
          have hgm := Hat.out j f hf
          rw [← Hm.out] at hgm
          have hml : m < GL.length := by
            rcases Nat.lt_or_ge m GL.length with g | g
            · exact g
            · rw [List.getElem?_eq_none g] at hgm; cases hgm
          have hg4 := Hg4.out
          unfold CRow at hg4
          obtain ⟨gg, cgg, e1⟩ := own_some hg4 (by omega)
          simp only [Value.slice.injEq, true_and] at e1
          obtain ⟨rfl, rfl⟩ := e1
          obtain ⟨r0, r1⟩ := own_c (own_ext hg4 (Hx49.out.trans (Hx10.out.trans Hxj.out))) hgm
          simp only at r0 r1
          have j0 : ∀ w1, Keep (fun _ => False) wr w1 → w1.cell? ⟨gg, m * 2, none⟩ = some (.int .i64 (s : Int)) := fun w1 k => k.ext.cellx r0
          have j1 : ∀ w1, Keep (fun _ => False) wr w1 → w1.cell? ⟨gg, m * 2 + 1, none⟩ = some (.int .i64 f) := fun w1 k => k.ext.cellx r1
          have q0 : ∀ w1, Keep (fun _ => False) wr w1 → w1.cell? (yq.add j) = some (.int .i64 f) := fun w1 k => k.ext.cellx hcf
          clear hf hgm hg4 hcf r0 r1
          go_wp2
          refine wp_flowT (fun _ => False) (by kernel_rfl) (by kernel_rfl) ?_
          repeat (apply FlowT.d; (intro w1 hk; unfold does; go_simp; (try go_ints); (first | exact DetR.mk | (simp only [↓IntWalk.iteOmega, Oper.doesUpon_value]; exact DetR.mk) | (simp only [↓IntWalk.iteOmega]; go_simp; (try go_ints); exact DetR.mk))); simp only [Act.put, List.setIfInBounds_toArray, List.set_cons_zero, List.set_cons_succ])
          refine FlowT.fin fun w11 _ hk11 => ?_
          have Hx11 := hid (Hxj.out.trans hk11.ext)
          clear hk11 j0 j1 q0
          have Hm1 : Hid (m + 1 = G0 + (j + 1)) := hid (by have := Hm.out; omega)
          go_wp2
          go_roundw
          case rel => exact ⟨j + 1, m + 1, by go_num, by go_num, Hm1.out, by omega, Hx11.out⟩
          case measure => simp [intOf]; omega
        · obtain rfl : j = Q.length := by omega
          have Hmu : Hid (m = (graphUp P S (s + 1)).length) := hid (by rw [Hm.out]; exact Hup.out)
          go_wp2
          go_roundw
          case rel => exact ⟨s + 1, m, by go_num, rfl, Hmu.out, by omega, by omega, Hx10.out.trans Hxj.out⟩
          case measure => simp [intOf]; omega
    · obtain rfl : s = P.stmts.length := by omega
      obtain rfl : G0 = GL.length := by rw [HG0.out, HGL.out]; rfl
      have HC := hid (ridleof_any a1 a2 a3 c1 c2 c3 P ah ch S wr w9.heap.size (HP9.out.ext Hx.out) (Hs9.out.ext Hx.out) HG.out Hx.out.size)
      rw [← HIL.out] at HC
      unfold pval at HC
      go_wp2_with fail
      refine HC.out.mono ?_
      intro e w10 hx
      obtain ⟨v, rfl, hr, hx10⟩ := hx
      obtain ⟨av, cv, rfl⟩ := hr.form
      have HSa := hid (sameints_any ai av IL.length IL.length ci cv IL IL w10 (IntsR.ints (HIi.out.old ((Hx79.out.trans (Hx.out.trans hx10)).old _)) (getD_bound (by decide) fun x hx => by have := Hif.out x hx; omega)) (IntsR.ints (IntsR.own hr (Nat.le_refl _)) (getD_bound (by decide) fun x hx => by have := Hif.out x hx; omega)) hil hil)
      rw [decide_eq_true (rfl : IL = IL)] at HSa
      have Hx10 := hid (Hx.out.trans hx10)
      clear HC hr hx10 p0 p1 p2
      go_wp2_with fail
      refine HSa.out.mono ?_
      intro e w11 hx
      obtain ⟨rfl, hx11⟩ := hx
      have Hx11 := hid (Hx10.out.trans hx11)
      clear HSa hx11
      by_cases hb : 0 ≤ x ∧ x < S.length ∧ 0 ≤ y ∧ y < S.length
      · obtain ⟨X, rfl⟩ := Int.eq_ofNat_of_zero_le hb.1
        obtain ⟨Y, rfl⟩ := Int.eq_ofNat_of_zero_le hb.2.2.1
        have hX : X < S.length := by omega
        have hY : Y < S.length := by omega
        obtain ⟨hda, rfl⟩ := Hal.out.1 hb
        rw [Int.toNat_natCast, Int.toNat_natCast] at hda
        obtain ⟨zx, lx, blx, clx, hzx, hlx, hcx, hIx⟩ := Hs9.out.at hX
        subst hzx
        obtain ⟨zy, ly, bly, cly, hzy, hly, hcy, hIy⟩ := Hs9.out.at hY
        obtain rfl := Option.some.inj hzy
        have hlxl := hIx.len
        have hlyl := hIy.len
        have Hcx := hid hcx
        have Hcy := hid hcy
        have HIx := hid hIx
        have HIy := hid hIy
        have Hda : Hid (da = lx.any fun o => decide (o ∈ ly)) := hid (by
          rw [hda]
          unfold aliasV
          rw [List.getD_eq_getElem?_getD, hlx, List.getD_eq_getElem?_getD, hly]; rfl)
        clear hb hda hlx hly hcx hcy hIx hIy
        go_wp2
        go_loopw [26, 27] (fun t26 t27 wr => ∃ (j : Nat) (b : Bool), t27 = .int .i64 (j : Int) ∧ t26 = .bool b ∧ j ≤ lx.length ∧ b = (lx.take j).any (fun o => decide (o ∈ ly)) ∧ Ext w9 wr) (fun _ t27 _ => lx.length - (intOf t27).toNat)
        case atStart => exact ⟨0, false, rfl, rfl, Nat.zero_le _, rfl, Hx11.out⟩
        case round =>
          obtain ⟨j, b, rfl, rfl, hj, hb, hx⟩ := hrel
          have Hxj := hid hx
          have Hb := hid hb
          clear hx hb
          have hcx := Hxj.out.cellx Hcx.out
          by_cases hlj : j < lx.length
          · obtain ⟨yo, o, hyo, ho, hco⟩ := (HIx.out.old (Hxj.out.old _)).at hlj
            subst hyo
            have hnx : (lx.take (j + 1)).any (fun o => decide (o ∈ ly)) = (b || decide (o ∈ ly)) := by
              rw [List.take_add_one, ho, List.any_append, Hb.out]; simp
            obtain ⟨d, hd⟩ : ∃ d, d = decide (o ∈ ly) := ⟨_, rfl⟩
            have HR := fun w1 (z : Ext wr w1) => hid (show Calls Tryz.prog 44 #[.slice bly ly.length cly, .int .i64 o] w1 (fun e w' => e = .returned (.bool d) ∧ Ext w1 w') from (rhas_any (.slice bly ly.length cly) ly o w1 w9.heap.size (HIy.out.old ((Hxj.out.trans z).old _))).mono fun e w' h => ⟨by rw [h.1, hd], by rw [← h.2]; exact Ext.refl _⟩)
            rw [← hd] at hnx
            have Hnx := hid hnx
            have j0 : ∀ w1, Keep (fun _ => False) wr w1 → w1.cell? (zx.add X) = some (.slice (some yo) lx.length clx) := fun w1 k => (Hxj.out.trans k.ext).cellx Hcx.out
            have j1 : ∀ w1, Keep (fun _ => False) wr w1 → w1.cell? (zx.add Y) = some (.slice bly ly.length cly) := fun w1 k => (Hxj.out.trans k.ext).cellx Hcy.out
            have j2 : ∀ w1, Keep (fun _ => False) wr w1 → w1.cell? (yo.add j) = some (.int .i64 o) := fun w1 k => k.ext.cellx hco
            clear ho hnx hd hco
            go_wp2
            clear hcx
            refine wp_flowT (fun _ => False) (by kernel_rfl) (by kernel_rfl) ?_
            repeat (apply FlowT.d; (intro w1 hk; unfold does; go_simp; (try go_ints); (first | exact DetR.mk | (simp only [↓IntWalk.iteOmega, Oper.doesUpon_value]; exact DetR.mk) | (simp only [↓IntWalk.iteOmega]; go_simp; (try go_ints); exact DetR.mk))); simp only [Act.put, List.setIfInBounds_toArray, List.set_cons_zero, List.set_cons_succ])
            apply FlowT.d
            · intro w1 hk
              unfold does
              go_simp
              exact CallR.det ((HR w1 hk.ext).out)
            simp only [Act.put, List.setIfInBounds_toArray, List.set_cons_zero, List.set_cons_succ]
            repeat (apply FlowT.d; (intro w1 hk; unfold does; go_simp; (try go_ints); (first | exact DetR.mk | (simp only [↓IntWalk.iteOmega, Oper.doesUpon_value]; exact DetR.mk) | (simp only [↓IntWalk.iteOmega]; go_simp; (try go_ints); exact DetR.mk))); simp only [Act.put, List.setIfInBounds_toArray, List.set_cons_zero, List.set_cons_succ])
            refine FlowT.fin fun w12 _ hk12 => ?_
            have Hx12 := hid (Hxj.out.trans hk12.ext)
            clear hk12 j0 j1 j2 HR
            cases d with
            | false =>
              have Hb2 : Hid (b = (lx.take (j + 1)).any (fun o => decide (o ∈ ly))) := hid (by rw [Hnx.out, Bool.or_false])
              go_wp2
              go_roundw
              case rel => exact ⟨j + 1, b, by go_num, rfl, by omega, Hb2.out, Hx12.out⟩
              case measure => simp [intOf]; omega
            | true =>
              have Hb2 : Hid (true = (lx.take (j + 1)).any (fun o => decide (o ∈ ly))) := hid (by rw [Hnx.out, Bool.or_true])
              go_wp2
              go_roundw
              case rel => exact ⟨j + 1, true, by go_num, rfl, by omega, Hb2.out, Hx12.out⟩
              case measure => simp [intOf]; omega
          · obtain rfl : j = lx.length := by omega
            obtain rfl : da = b := by
              rw [Hda.out, Hb.out, List.take_of_length_le (Nat.le_refl _)]
            clear Hda Hb
            cases da with
            | false =>
              by_cases hk : 0 ≤ k ∧ k < P.stmts.length
              · obtain ⟨K, rfl⟩ := Int.eq_ofNat_of_zero_le hk.1
                have hKl : K < P.stmts.length := by omega
                have hkx := stAt_some hKl
                obtain ⟨rfl, rfl, hwi⟩ := Hwr.out.1 K _ rfl hkx
                have Hwi := hid (hwi.old ((Hx69.out.trans Hxj.out).old _))
                have HC := hid (rwritesof_any a1 a2 a3 c1 c2 c3 P _ ch S K (P.stAt K) wr w9.heap.size (HP9.out.ext Hxj.out) (Hs9.out.ext Hxj.out) HG.out hkx (Hxj.out).size)
                have hwf := writesL_few HG.out (P.stAt K)
                obtain ⟨WL, hWL⟩ : ∃ WL, WL = writesL P S (P.stAt K) := ⟨_, rfl⟩
                rw [← hWL] at HC Hwi hwf ⊢
                have hwl := Hwi.out.len
                have Hwf := hid hwf
                unfold pval at HC
                have p0 := (HBp'.out.ext (Hw9.out.trans (HZ9.out.trans Hxj.out))).av 0 rfl
                have p1 := (HBp'.out.ext (Hw9.out.trans (HZ9.out.trans Hxj.out))).av 1 rfl
                have p2 := (HBp'.out.ext (Hw9.out.trans (HZ9.out.trans Hxj.out))).av 2 rfl
                simp only [pcells, List.getElem_toArray, List.getElem_cons_zero, List.getElem_cons_succ] at p0 p1 p2
                clear hwi hWL hkx hk hwf
                go_wp2_with fail
                refine HC.out.mono ?_
                intro e u1 hx
                obtain ⟨v, rfl, hr, hxu⟩ := hx
                obtain ⟨av, cv, rfl⟩ := hr.form
                have HSa := hid (sameints_any aw av WL.length WL.length cw cv WL WL u1 (IntsR.ints (Hwi.out.old (hxu.old _)) (getD_bound (by decide) fun x hx => by have := Hwf.out x hx; omega)) (IntsR.ints (IntsR.own hr (Nat.le_refl _)) (getD_bound (by decide) fun x hx => by have := Hwf.out x hx; omega)) hwl hwl)
                rw [decide_eq_true (rfl : WL = WL)] at HSa
                have Hxu := hid hxu
                clear HC hr hxu p0 p1 p2
                go_wp2_with fail
                refine HSa.out.mono ?_
                intro e u2 hx
                obtain ⟨rfl, hxu2⟩ := hx
                have Hxu2 := hid hxu2
                clear HSa hxu2
                go_wp2
                go_ret
                exact ⟨rfl, HXw.out.trans (HZ9.out.trans (Hxj.out.trans (Hxu.out.trans Hxu2.out)))⟩
              · obtain ⟨rfl, rfl⟩ := Hwr.out.2 hk
                have HCo := hid (coded2_any wr (evOf ad 2) 2 (code_of wr ad (HA9.out.ext (HZ9.out.trans Hxj.out)) 2 (by decide) (by decide)))
                have p0 := (HBp'.out.ext (Hw9.out.trans (HZ9.out.trans Hxj.out))).av 0 rfl
                have p1 := (HBp'.out.ext (Hw9.out.trans (HZ9.out.trans Hxj.out))).av 1 rfl
                have p2 := (HBp'.out.ext (Hw9.out.trans (HZ9.out.trans Hxj.out))).av 2 rfl
                simp only [pcells, List.getElem_toArray, List.getElem_cons_zero, List.getElem_cons_succ] at p0 p1 p2
                rcases (by omega : k < 0 ∨ (0 ≤ k ∧ P.stmts.length ≤ k)) with hk2 | hk2
                all_goals
                  clear hk
                  go_wp2_with fail
                  refine HCo.out.mono ?_
                  intro e u1 hx
                  obtain ⟨rfl, hxu⟩ := hx
                  have Hxu := hid hxu
                  clear HCo hxu p0 p1 p2
                  go_wp2
                  go_ret
                  exact ⟨rfl, HXw.out.trans (HZ9.out.trans (Hxj.out.trans Hxu.out))⟩
            | true =>
              by_cases hk : 0 ≤ k ∧ k < P.stmts.length
              · obtain ⟨K, rfl⟩ := Int.eq_ofNat_of_zero_le hk.1
                have hKl : K < P.stmts.length := by omega
                have hkx := stAt_some hKl
                obtain ⟨rfl, rfl, hwi⟩ := Hwr.out.1 K _ rfl hkx
                have Hwi := hid (hwi.old ((Hx69.out.trans Hxj.out).old _))
                have HC := hid (rwritesof_any a1 a2 a3 c1 c2 c3 P _ ch S K (P.stAt K) wr w9.heap.size (HP9.out.ext Hxj.out) (Hs9.out.ext Hxj.out) HG.out hkx (Hxj.out).size)
                have hwf := writesL_few HG.out (P.stAt K)
                obtain ⟨WL, hWL⟩ : ∃ WL, WL = writesL P S (P.stAt K) := ⟨_, rfl⟩
                rw [← hWL] at HC Hwi hwf ⊢
                have hwl := Hwi.out.len
                have Hwf := hid hwf
                unfold pval at HC
                have p0 := (HBp'.out.ext (Hw9.out.trans (HZ9.out.trans Hxj.out))).av 0 rfl
                have p1 := (HBp'.out.ext (Hw9.out.trans (HZ9.out.trans Hxj.out))).av 1 rfl
                have p2 := (HBp'.out.ext (Hw9.out.trans (HZ9.out.trans Hxj.out))).av 2 rfl
                simp only [pcells, List.getElem_toArray, List.getElem_cons_zero, List.getElem_cons_succ] at p0 p1 p2
                clear hwi hWL hkx hk hwf
                go_wp2_with fail
                refine HC.out.mono ?_
                intro e u1 hx
                obtain ⟨v, rfl, hr, hxu⟩ := hx
                obtain ⟨av, cv, rfl⟩ := hr.form
                have HSa := hid (sameints_any aw av WL.length WL.length cw cv WL WL u1 (IntsR.ints (Hwi.out.old (hxu.old _)) (getD_bound (by decide) fun x hx => by have := Hwf.out x hx; omega)) (IntsR.ints (IntsR.own hr (Nat.le_refl _)) (getD_bound (by decide) fun x hx => by have := Hwf.out x hx; omega)) hwl hwl)
                rw [decide_eq_true (rfl : WL = WL)] at HSa
                have Hxu := hid hxu
                clear HC hr hxu p0 p1 p2
                go_wp2_with fail
                refine HSa.out.mono ?_
                intro e u2 hx
                obtain ⟨rfl, hxu2⟩ := hx
                have Hxu2 := hid hxu2
                clear HSa hxu2
                go_wp2
                go_ret
                exact ⟨rfl, HXw.out.trans (HZ9.out.trans (Hxj.out.trans (Hxu.out.trans Hxu2.out)))⟩
              · obtain ⟨rfl, rfl⟩ := Hwr.out.2 hk
                have HCo := hid (coded2_any wr (evOf ad 2) 2 (code_of wr ad (HA9.out.ext (HZ9.out.trans Hxj.out)) 2 (by decide) (by decide)))
                have p0 := (HBp'.out.ext (Hw9.out.trans (HZ9.out.trans Hxj.out))).av 0 rfl
                have p1 := (HBp'.out.ext (Hw9.out.trans (HZ9.out.trans Hxj.out))).av 1 rfl
                have p2 := (HBp'.out.ext (Hw9.out.trans (HZ9.out.trans Hxj.out))).av 2 rfl
                simp only [pcells, List.getElem_toArray, List.getElem_cons_zero, List.getElem_cons_succ] at p0 p1 p2
                rcases (by omega : k < 0 ∨ (0 ≤ k ∧ P.stmts.length ≤ k)) with hk2 | hk2
                all_goals
                  clear hk
                  go_wp2_with fail
                  refine HCo.out.mono ?_
                  intro e u1 hx
                  obtain ⟨rfl, hxu⟩ := hx
                  have Hxu := hid hxu
                  clear HCo hxu p0 p1 p2
                  go_wp2
                  go_ret
                  exact ⟨rfl, HXw.out.trans (HZ9.out.trans (Hxj.out.trans Hxu.out))⟩
      · obtain ⟨rfl, rfl⟩ := Hal.out.2 hb
        have HCa := hid (coded2_any w11 (evOf ad 2) 2 (code_of w11 ad (HA9.out.ext (HZ9.out.trans Hx11.out)) 2 (by decide) (by decide)))
        rcases (by omega : x < 0 ∨ (0 ≤ x ∧ S.length ≤ x) ∨ (0 ≤ x ∧ x < S.length ∧ y < 0) ∨ (0 ≤ x ∧ x < S.length ∧ 0 ≤ y ∧ S.length ≤ y)) with hc | hc | hc | hc
        all_goals
          clear hb
          go_wp2_with fail
          refine HCa.out.mono ?_
          intro e w12 hx
          obtain ⟨rfl, hx12⟩ := hx
          have Hx12 := hid (Hx11.out.trans hx12)
          clear HCa hx12
          by_cases hk : 0 ≤ k ∧ k < P.stmts.length
          · obtain ⟨K, rfl⟩ := Int.eq_ofNat_of_zero_le hk.1
            have hKl : K < P.stmts.length := by omega
            have hkx := stAt_some hKl
            obtain ⟨rfl, rfl, hwi⟩ := Hwr.out.1 K _ rfl hkx
            have Hwi := hid (hwi.old ((Hx69.out.trans Hx12.out).old _))
            have HC := hid (rwritesof_any a1 a2 a3 c1 c2 c3 P _ ch S K (P.stAt K) w12 w9.heap.size (HP9.out.ext Hx12.out) (Hs9.out.ext Hx12.out) HG.out hkx (Hx12.out).size)
            have hwf := writesL_few HG.out (P.stAt K)
            obtain ⟨WL, hWL⟩ : ∃ WL, WL = writesL P S (P.stAt K) := ⟨_, rfl⟩
            rw [← hWL] at HC Hwi hwf ⊢
            have hwl := Hwi.out.len
            have Hwf := hid hwf
            unfold pval at HC
            have p0 := (HBp'.out.ext (Hw9.out.trans (HZ9.out.trans Hx12.out))).av 0 rfl
            have p1 := (HBp'.out.ext (Hw9.out.trans (HZ9.out.trans Hx12.out))).av 1 rfl
            have p2 := (HBp'.out.ext (Hw9.out.trans (HZ9.out.trans Hx12.out))).av 2 rfl
            simp only [pcells, List.getElem_toArray, List.getElem_cons_zero, List.getElem_cons_succ] at p0 p1 p2
            clear hwi hWL hkx hk hwf
            go_wp2_with fail
            refine HC.out.mono ?_
            intro e u1 hx
            obtain ⟨v, rfl, hr, hxu⟩ := hx
            obtain ⟨av, cv, rfl⟩ := hr.form
            have HSa := hid (sameints_any aw av WL.length WL.length cw cv WL WL u1 (IntsR.ints (Hwi.out.old (hxu.old _)) (getD_bound (by decide) fun x hx => by have := Hwf.out x hx; omega)) (IntsR.ints (IntsR.own hr (Nat.le_refl _)) (getD_bound (by decide) fun x hx => by have := Hwf.out x hx; omega)) hwl hwl)
            rw [decide_eq_true (rfl : WL = WL)] at HSa
            have Hxu := hid hxu
            clear HC hr hxu p0 p1 p2
            go_wp2_with fail
            refine HSa.out.mono ?_
            intro e u2 hx
            obtain ⟨rfl, hxu2⟩ := hx
            have Hxu2 := hid hxu2
            clear HSa hxu2
            go_wp2
            go_ret
            exact ⟨rfl, HXw.out.trans (HZ9.out.trans (Hx12.out.trans (Hxu.out.trans Hxu2.out)))⟩
          · obtain ⟨rfl, rfl⟩ := Hwr.out.2 hk
            have HCo := hid (coded2_any w12 (evOf ad 2) 2 (code_of w12 ad (HA9.out.ext (HZ9.out.trans Hx12.out)) 2 (by decide) (by decide)))
            have p0 := (HBp'.out.ext (Hw9.out.trans (HZ9.out.trans Hx12.out))).av 0 rfl
            have p1 := (HBp'.out.ext (Hw9.out.trans (HZ9.out.trans Hx12.out))).av 1 rfl
            have p2 := (HBp'.out.ext (Hw9.out.trans (HZ9.out.trans Hx12.out))).av 2 rfl
            simp only [pcells, List.getElem_toArray, List.getElem_cons_zero, List.getElem_cons_succ] at p0 p1 p2
            rcases (by omega : k < 0 ∨ (0 ≤ k ∧ P.stmts.length ≤ k)) with hk2 | hk2
            all_goals
              clear hk
              go_wp2_with fail
              refine HCo.out.mono ?_
              intro e u1 hx
              obtain ⟨rfl, hxu⟩ := hx
              have Hxu := hid hxu
              clear HCo hxu p0 p1 p2
              go_wp2
              go_ret
              exact ⟨rfl, HXw.out.trans (HZ9.out.trans (Hx12.out.trans Hxu.out))⟩
theorem callstelllaw_any (a1 a2 a3 : Option Addr) (c1 c2 c3 : Nat) (P : PP) (x y k : Int) (w : World) (ad : Nat → Addr) (hE : ErrsP w ad) (hA : AllErrs w ad) (hS : ErrS w ad) (hP : ProgR w w.heap.size (.slice a1 P.vars.length c1) (.slice a2 P.funs.length c2) (.slice a3 P.stmts.length c3) P) :
    Calls Tryz.prog 8 #[pval a1 a2 a3 c1 c2 c3 P, .int .i64 x, .int .i64 y, .int .i64 k] w fun e w' => e = .returned (.bool true) ∧ Ext w w' := by
  by_cases hw : P.Well
  · exact callstelllaw_yes a1 a2 a3 c1 c2 c3 P x y k w ad hE hA hS hP hw
  · exact callstelllaw_no a1 a2 a3 c1 c2 c3 P x y k w ad hE hA hS hP hw
end Go.Proofs.YtoaoienfggjepaaGreatDoor

