/- Texts of one proof, put together: ZZXp ZZXq WG WH WI CD WJ ZZXv E6. -/
import Derived.Test.YtihdpijgngooaaaGreatDoorHCG01
import Derived.Test.YtihdpijgngooaaaGreatDoorHCG08
import Derived.Test.YtihdpijgngooaaaGreatDoorHCG09
import Derived.Test.YtihdpijgngooaaaGreatDoorHCG14
import Derived.Test.YtihdpijgngooaaaGreatDoorHCG16
import Derived.Test.YtihdpijgngooaaaGreatDoorHCG20
set_option linter.unusedSimpArgs false
set_option linter.unusedVariables false
namespace Go.Proofs.YtihdpijgngooaaaGreatDoor
open Go Go.RowKit
theorem edgesL_in {P : PP} (S : List (List Int)) : EIn P.nodesV (P.edgesL S) := fun e he => by
  unfold PP.edgesL PP.refE at he
  obtain ⟨a, ha, hb⟩ := List.mem_flatMap.1 he
  obtain ⟨b, hb1, rfl, _⟩ := mem_rowE.1 hb
  have := List.mem_range.1 ha
  constructor <;> constructor <;> simp <;> omega
theorem EIn.all {n : Nat} {E : List (Int × Int)} (h : EIn n E) : einAll (n : Int) E E.length := fun j e _ he => einB_iff.2 (h e (List.mem_of_getElem? he))
set_option maxRecDepth 100000 in
set_option maxHeartbeats 6400000 in
theorem cyclemerged_ok (a1 a2 a3 : Option Addr) (c1 c2 c3 : Nat) (P : PP) (w : World) (ad : Nat → Addr) (h : PW w w.heap.size ad a1 a2 a3 c1 c2 c3 P) (hS : ErrS w ad) (k : Nat) (S : List (List Int)) (hL : LeastAt P k S) :
    Calls Tryz.prog 32 #[pval a1 a2 a3 c1 c2 c3 P] w fun e w' => ∃ g G, e = .returned (.tuple #[.slice (some ⟨g, 0, none⟩) P.nodesV P.nodesV, .int .i64 ((sset G).length : Int), .nilIface]) ∧ GrpL P.nodesV (P.edgesL S) G ∧ w'.ownsRow w.heap.size 3 1 (.slice (some ⟨g, 0, none⟩) P.nodesV P.nodesV) P.nodesV (icells G) ∧ Ext w w' := by
  obtain ⟨W, hW⟩ : ∃ W, W = w.alloc (.cells (pcells a1 a2 a3 c1 c2 c3 P) 26) := ⟨_, rfl⟩
  have hx : Ext w W := by rw [hW]; exact (Ext.refl _).alloc _
  have HX := hid hx
  have HB : Hid (Blk W w.heap.size (pcells a1 a2 a3 c1 c2 c3 P) 26) := hid (by rw [hW]; exact Blk.new _ _ _)
  have HP := hid ((h.ext hx).lift (Nat.le_of_lt HB.out.lt))
  have HPW : Hid (PW W W.heap.size ad a1 a2 a3 c1 c2 c3 P) := hid ((h.ext hx).lift hx.size)
  have HS := hid (hS.ext hx)
  have Hw := hid h.well
  have Hg := hid (hL.good h.well)
  have HF := hid (fixleast_ok a1 a2 a3 c1 c2 c3 P W ad HPW.out HS.out k S hL)
  have Hn := hid (nodesV_le P h.well)
  have p0 := HB.out.av 0 rfl
  have p1 := HB.out.av 1 rfl
  have p2 := HB.out.av 2 rfl
  simp only [pcells, qA0, qA1, qA2] at p0 p1 p2
  have HW : Hid (W = w.alloc (.cells #[.slice a1 P.vars.length c1, .slice a2 P.funs.length c2, .slice a3 P.stmts.length c3] 26)) := hid (by rw [hW]; rfl)
  rw [HW.out] at p0 p1 p2
  unfold pval at HF ⊢
  clear hW hx h hS hL
  go_enter Tryz.func32, Tryz.ntmps32
  go_wp2_with fail
  rw [← HW.out]
  clear p0 p1 p2
  refine HF.out.mono ?_
  intro e w1 hx
  obtain ⟨aS, cS, rfl, hs, hx1⟩ := hx
  have HE := hid (edges_fix a1 a2 a3 c1 c2 c3 P (.slice aS P.nodesV cS) S w1 ad ((HPW.out.ext hx1).lift hx1.size) (HS.out.ext hx1) hs Hg.out)
  have HB1 := hid (HB.out.ext hx1)
  have p0 := HB1.out.av 0 rfl
  have p1 := HB1.out.av 1 rfl
  have p2 := HB1.out.av 2 rfl
  simp only [pcells, qA0, qA1, qA2] at p0 p1 p2
  have Hx1 := hid hx1
  unfold pval at HE
  clear HF hs hx1
  go_wp2_with fail
  clear p0 p1 p2
  refine HE.out.mono ?_
  intro e w2 hx
  obtain ⟨aE, cE, rfl, hr, hlen, hx2⟩ := hx
  have Hx2 := hid (Hx1.out.trans hx2)
  have HN := hid (prognodes_any a1 a2 a3 c1 c2 c3 P w2 w2.heap.size ad (HPW.out.errs.ext Hx2.out) ((HPW.out.prog.ext Hx2.out).lift Hx2.out.size) HPW.out.z1 HPW.out.z2 Hw.out)
  have HB2 := hid (HB.out.ext Hx2.out)
  have p0 := HB2.out.av 0 rfl
  have p1 := HB2.out.av 1 rfl
  have p2 := HB2.out.av 2 rfl
  simp only [pcells, qA0, qA1, qA2] at p0 p1 p2
  have Hr := hid hr
  unfold pval at HN
  clear HE hr hx2
  go_wp2_with fail
  clear p0 p1 p2
  refine HN.out.mono ?_
  intro e w3 hx
  obtain ⟨rfl, hx3⟩ := hx
  have Hx3 := hid (Hx2.out.trans hx3)
  have HG := hid (cyclegroups_yes P.nodesV (.slice aE (P.edgesL S).length cE) (P.edgesL S) w3 w3.heap.size ad (HS.out.ext Hx3.out).at2 (EsR.own (ERow.ext Hr.out hx3) (Nat.le_refl _)) (by omega) (by have := Hn.out; omega) (edgesL_in S).all (Nat.le_refl _))
  clear HN hx3
  go_wp2_with fail
  refine HG.out.mono ?_
  intro e w4 hx
  obtain ⟨g, G, rfl, hG, hrow, hx4⟩ := hx
  have HGr := hid hG
  have Hx4 := hid (Hx3.out.trans hx4)
  have Hrow := hid hrow
  obtain ⟨N, hN⟩ : ∃ N, N = P.nodesV := ⟨_, rfl⟩
  have HN := hid hN
  have hNn : N ≤ 120 := by rw [hN]; exact Hn.out
  rw [← hN] at Hrow HGr
  clear hN
  rw [← HN.out]
  have hgb := World.ownsRow.lt Hrow.out g rfl
  have HV := hid (valuesi_any g 0 N N w4)
  obtain ⟨wV, hwV⟩ : ∃ wV, wV = w4.alloc (.cells #[.slice (some ⟨g, 0, none⟩) N N] 43) := ⟨_, rfl⟩
  have HxV : Hid (Ext w4 wV) := hid (by rw [hwV]; exact (Ext.refl _).alloc _)
  have hGl : G.length = N := HGr.out.len
  have HGl := hid hGl
  have HrV : IRow w3.heap.size wV (.slice (some ⟨g, 0, none⟩) N N) G := by
    have := own_ext Hrow.out HxV.out
    unfold IRow
    rw [hGl]
    exact this
  have HSo := hid (sortedi_vals wV g 0 N w4.heap.size G (by omega) (by have := HxV.out.size; omega) (by rw [hGl, hwV]; exact Blk.new _ _ _) (row_cells HrV))
  have HwV := hid hwV
  clear HG hG hrow hx4 hGl hgb hwV HrV
  go_wp2_with fail
  refine HV.out.mono ?_
  rintro e w' ⟨rfl, rfl⟩
  rw [← HwV.out]
  clear HV
  go_wp2_with fail
  refine HSo.out.mono ?_
  intro e w5 hx
  obtain ⟨u4, rfl, hr4, hx5⟩ := hx
  obtain ⟨S4, hS4⟩ : ∃ S4, S4 = G.mergeSort (fun x y => decide (x ≤ y)) := ⟨_, rfl⟩
  rw [← hS4] at hr4
  obtain ⟨a4, p4, rfl⟩ := hr4.form
  have HS4 := hid hS4
  have HK := hid (compact_row _ _ w5 wV.heap.size hr4 (by rw [hS4, List.length_mergeSort, HGl.out]; omega))
  have Hr4 := hid hr4
  have Hx5 := hid hx5
  clear HSo hr4 hx5 hS4
  go_wp2_with fail
  refine HK.out.mono ?_
  intro e w6 hx
  obtain ⟨v5, rfl, hr5, hk5⟩ := hx
  obtain ⟨L0, hL0⟩ : ∃ L0, L0 = sset G := ⟨_, rfl⟩
  have hr6 : IRow wV.heap.size w6 v5 L0 := by rw [HS4.out, compact_sort (HGr.out.inR (by omega)), ← hL0] at hr5; exact hr5
  have Hx6 := hid (HX.out.trans (Hx4.out.trans (HxV.out.trans (Keep.fresh Hx5.out Hr4.out (Nat.le_refl _) hk5))))
  obtain ⟨a5, p5, rfl⟩ := hr6.form
  have HL0 := hid hL0
  have Hrz := hid (own_low (b2 := w.heap.size) (own_ext Hrow.out (HxV.out.trans (Keep.fresh Hx5.out Hr4.out (Nat.le_refl _) hk5))) (by have := HX.out.size; have := Hx3.out.size; omega))
  clear HK hr5 hk5 hr6 hL0
  go_wp2
  refine bodyPost_ret (v := .tuple #[.slice (some ⟨g, 0, none⟩) N N, .int .i64 (L0.length : Int), .nilIface]) (by simp [results, Tryz.results32, go_sem]) rfl ?_
  exact ⟨g, G, by rw [HL0.out, HN.out], by rw [← HN.out]; exact HGr.out, by rw [← HN.out]; exact Hrz.out, Hx6.out⟩
set_option maxRecDepth 100000 in
set_option maxHeartbeats 3200000 in
theorem cyclemerged_no (a1 a2 a3 : Option Addr) (c1 c2 c3 : Nat) (P : PP) (w : World) (n0 : Nat) (ad : Nat → Addr) (h : PS0 w n0 ad a1 a2 a3 c1 c2 c3 P) (hw : ¬ P.Well) :
    Calls Tryz.prog 32 #[pval a1 a2 a3 c1 c2 c3 P] w fun e w' => ∃ t x, e = .returned (.tuple #[.slice none 0 0, .int .i64 0, .iface t (.pointer (some x))]) ∧ ErrIs ad P w' (.iface t (.pointer (some x))) ∧ Ext w w' := by
  obtain ⟨W, hW⟩ : ∃ W, W = w.alloc (.cells (pcells a1 a2 a3 c1 c2 c3 P) 26) := ⟨_, rfl⟩
  have hx : Ext w W := by rw [hW]; exact (Ext.refl _).alloc _
  have HX := hid hx
  have HB : Hid (Blk W w.heap.size (pcells a1 a2 a3 c1 c2 c3 P) 26) := hid (by rw [hW]; exact Blk.new _ _ _)
  have HF := hid (fixleast_no a1 a2 a3 c1 c2 c3 P W n0 ad ⟨h.errs.ext hx, h.prog.ext hx, h.z1, h.z2⟩ hw)
  have p0 := HB.out.av 0 rfl
  have p1 := HB.out.av 1 rfl
  have p2 := HB.out.av 2 rfl
  simp only [pcells, qA0, qA1, qA2] at p0 p1 p2
  have HW : Hid (W = w.alloc (.cells #[.slice a1 P.vars.length c1, .slice a2 P.funs.length c2, .slice a3 P.stmts.length c3] 26)) := hid (by rw [hW]; rfl)
  rw [HW.out] at p0 p1 p2
  unfold pval at HF ⊢
  clear hW hx h hw
  go_enter Tryz.func32, Tryz.ntmps32
  go_wp2_with fail
  rw [← HW.out]
  clear p0 p1 p2
  refine HF.out.mono ?_
  intro e w1 hx
  obtain ⟨t, x, rfl, hi, hx1⟩ := hx
  have Hi := hid hi
  have Hx1 := hid (HX.out.trans hx1)
  clear HF hi hx1
  go_wp2
  refine bodyPost_ret (v := .tuple #[.slice none 0 0, .int .i64 0, .iface t (.pointer (some x))]) (by simp [results, Tryz.results32, go_sem]) rfl ?_
  exact ⟨t, x, rfl, Hi.out, Hx1.out⟩
section
variable {P : PP} {S : List (List Int)}
end
structure PlaceQ (N : Nat) (o : List Int) (k : Nat) (Q : List Int) : Prop where
  len : Q.length = N
  at_ : ∀ (j : Nat) x, j < k → o[j]? = some x → Q[x.toNat]? = some (j : Int)
theorem PlaceQ.start (N : Nat) (o : List Int) : PlaceQ N o 0 (List.replicate N 0) := ⟨List.length_replicate, fun j x hj => by omega⟩
theorem PlaceQ.step {N : Nat} {o Q : List Int} {k : Nat} (h : PlaceQ N o k Q) (hn : o.Nodup) (hp : ∀ x ∈ o, 0 ≤ x ∧ x < N) {x : Int} (hx : o[k]? = some x) : PlaceQ N o (k + 1) (Q.set x.toNat (k : Int)) := by
  refine ⟨by rw [List.length_set]; exact h.len, fun j y hj hy => ?_⟩
  have hx0 := hp x (List.mem_of_getElem? hx)
  have hy0 := hp y (List.mem_of_getElem? hy)
  rw [List.getElem?_set]
  by_cases hjk : j = k
  · subst hjk
    obtain rfl := Option.some.inj (hx.symm.trans hy)
    rw [if_pos rfl, if_pos (by rw [h.len]; omega)]
  · rw [if_neg fun e => ?_]
    · exact h.at_ j y (by omega) hy
    · have hxy : x = y := by omega
      subst hxy
      obtain ⟨h1, h1'⟩ := List.getElem?_eq_some_iff.1 hx
      obtain ⟨h2, h2'⟩ := List.getElem?_eq_some_iff.1 hy
      have hp := List.pairwise_iff_getElem.1 hn
      exact hp j k h2 h1 (by omega) (h2'.trans h1'.symm)
theorem ord_good {n : Nat} {E : List (Int × Int)} {G : List Int} (hE : EIn n E) (hG : GrpL n E G) (hn : n ≤ 1000) : (ordRun E G (sset G).length (sset G)).Nodup ∧ (∀ x ∈ ordRun E G (sset G).length (sset G), 0 ≤ x ∧ x < n) ∧ (ordRun E G (sset G).length (sset G)).length ≤ 1000 := by
  obtain ⟨h1, h2, h3⟩ := ord_mem hE hG (sset G).length (hG.reps hn) (Nat.le_refl _)
  refine ⟨h2, fun x hx => ?_, by rw [h3]; exact (hG.reps hn).len hn⟩
  obtain ⟨k, rfl, hk, _⟩ := (hG.reps hn).rep x ((h1 x).1 hx)
  omega
def vkVar : List UInt8 := [118, 97, 114]
def vkThing : List UInt8 := [116, 104, 105, 110, 103]
def vkFun : List UInt8 := [102, 117, 110]
def PP.objV (P : PP) (pl : List Int) (k : List UInt8) (n : Int) : Int :=
  bif k == vkVar then (if 0 ≤ n ∧ n < P.vars.length then n else -1) else
  bif k == vkThing then (if 0 ≤ n ∧ n < pl.length then P.placeV (pl.getD n.toNat 0) else -1) else
  bif k == vkFun then (if 0 ≤ n ∧ n < P.funs.length then (P.nodesV : Int) + n else -1) else -1
theorem PP.nodesV_le (P : PP) : P.nodesV ≤ P.vars.length + P.stmts.length := by
  unfold PP.nodesV
  have := P.newsN_le P.stmts.length
  omega
theorem code_err (w : World) (ad : Nat → Addr) (h : AllErrs w ad) (c : Nat) (hc : c ≤ 11) :
    Calls Tryz.prog 52 #[errv (evOf ad) c] w fun e w' => e = .returned (.tuple #[.int .i64 (c : Int), .int .i64 (-1)]) ∧ Ext w w' := by
  unfold errv
  by_cases h0 : c = 0
  · subst h0
    rw [if_pos rfl]
    exact (code_nil w).mono fun e w' ⟨h1, h2⟩ => ⟨h1, h2 ▸ Ext.refl _⟩
  · rw [if_neg h0]
    have := code_sent w ad h _ c hc (IsAs.sent h c (by omega))
    unfold codeV at this
    rw [if_neg h0] at this
    exact this
theorem AllErrs.errs {w : World} {ad : Nat → Addr} (h : AllErrs w ad) : Errs w (evOf ad) :=
  ⟨⟨h.at2, h.at3, h.at4, h.at8⟩, h.at1, h.at11⟩
theorem PP.stmtErr_le (P : PP) (s : PS) : P.stmtErr s ≤ 9 := by
  unfold PP.stmtErr
  cases (!memB s.kind kindsS) <;> simp only [cond_true, cond_false] <;> try omega
  cases (!P.bound s) <;> simp only [cond_true, cond_false] <;> try omega
  cases (s.isK kCall && decide (3 < s.args.length)) <;> simp only [cond_true, cond_false] <;> try omega
  cases ((!s.isK kCall && decide (0 < s.args.length)) || (s.isK kNew && !decide (s.y = 0))) <;> simp
theorem PP.err1_le (P : PP) : P.err1 ≤ 9 := by
  unfold PP.err1
  cases P.big <;> simp only [cond_true, cond_false] <;> try omega
  split
  · omega
  · split
    · omega
    · unfold PP.funsErr
      cases (P.funs.any bad9) <;> simp only [cond_true, cond_false] <;> try omega
      cases (P.funs.any P.bad2) <;> simp only [cond_true, cond_false] <;> try omega
      cases (P.funs.any bad7) <;> simp
theorem PP.FirstBad.uniq {P : PP} {i j : Nat} {s t : PS} (h : P.FirstBad i s) (g : P.FirstBad j t) : i = j ∧ s = t := by
  obtain ⟨h1, h2, h3⟩ := h
  obtain ⟨g1, g2, g3⟩ := g
  have e : i = j := by
    rcases Nat.lt_trichotomy i j with e | e | e
    · exact absurd (g3 i s e h1) h2
    · exact e
    · exact absurd (h3 j t e g1) g2
  subst e
  exact ⟨rfl, Option.some.inj (h1.symm.trans g1)⟩
theorem PP.FirstBad.not {P : PP} {i : Nat} {s : PS} (h : P.FirstBad i s) : ¬ P.allWell := fun g => by
  obtain ⟨h1, h2, _⟩ := h
  have hi : i < P.stmts.length := by
    rcases Nat.lt_or_ge i P.stmts.length with e | e
    · exact e
    · rw [List.getElem?_eq_none e] at h1; cases h1
  exact h2 (g i s hi h1)
theorem FaultIs.uniq {P : PP} {c d : Nat} {p q : Int} (h : FaultIs P c p) (g : FaultIs P d q) : c = d ∧ p = q := by
  rcases h with ⟨h1, h2, h3⟩ | ⟨h1, h2, h3, h4⟩ | ⟨h1, i, s, h2, h3, h4⟩ <;> rcases g with ⟨g1, g2, g3⟩ | ⟨g1, g2, g3, g4⟩ | ⟨g1, j, t, g2, g3, g4⟩
  · exact ⟨h2.trans g2.symm, h3.trans g3.symm⟩
  · exact absurd g1 h1
  · exact absurd g1 h1
  · exact absurd h1 g1
  · exact ⟨h3.trans g3.symm, h4.trans g4.symm⟩
  · exact absurd h2 g2.not
  · exact absurd h1 g1
  · exact absurd g2 h2.not
  · obtain ⟨rfl, rfl⟩ := h2.uniq g2
    exact ⟨h3.trans g3.symm, h4.trans g4.symm⟩
theorem PP.FirstK.uniq {P : PP} {l : List Int} {i j : Nat} (h : P.FirstK l i) (g : P.FirstK l j) : i = j := by
  obtain ⟨x, h1, h2, h3⟩ := h
  obtain ⟨y, g1, g2, g3⟩ := g
  rcases Nat.lt_trichotomy i j with e | e | e
  · rw [g3 i x e h1] at h2; cases h2
  · exact e
  · rw [h3 j y e g1] at g2; cases g2
def RunFault (P : PP) (l : List Int) (c : Nat) (p : Int) : Prop :=
  (¬ (P.err1 = 0 ∧ P.allWell) ∧ FaultIs P c p) ∨ (P.err1 = 0 ∧ P.allWell ∧ 2000 < l.length ∧ c = 8 ∧ p = -1) ∨
  (P.err1 = 0 ∧ P.allWell ∧ l.length ≤ 2000 ∧ ∃ i : Nat, P.FirstK l i ∧ c = 2 ∧ p = (i : Int))
theorem RunFault.uniq {P : PP} {l : List Int} {c d : Nat} {p q : Int} (h : RunFault P l c p) (g : RunFault P l d q) : c = d ∧ p = q := by
  rcases h with ⟨h1, h2⟩ | ⟨h1, h2, h3, h4, h5⟩ | ⟨h1, h2, h3, i, h4, h5, h6⟩ <;> rcases g with ⟨g1, g2⟩ | ⟨g1, g2, g3, g4, g5⟩ | ⟨g1, g2, g3, j, g4, g5, g6⟩
  · exact h2.uniq g2
  · exact absurd ⟨g1, g2⟩ h1
  · exact absurd ⟨g1, g2⟩ h1
  · exact absurd ⟨h1, h2⟩ g1
  · exact ⟨h4.trans g4.symm, h5.trans g5.symm⟩
  · omega
  · exact absurd ⟨h1, h2⟩ g1
  · omega
  · obtain rfl := h4.uniq g4
    exact ⟨h5.trans g5.symm, h6.trans g6.symm⟩
theorem code_of (w : World) (ad : Nat → Addr) (h : AllErrs w ad) (c : Nat) (h0 : c ≠ 0) (hc : c ≤ 11) :
    Calls Tryz.prog 52 #[evOf ad c] w fun e w' => e = .returned (.tuple #[.int .i64 (c : Int), .int .i64 (-1)]) ∧ Ext w w' := by
  have := code_err w ad h c hc
  unfold errv at this
  rw [if_neg h0] at this
  exact this
theorem code_at (w : World) (ad : Nat → Addr) (h : AllErrs w ad) (c : Nat) (h0 : c ≠ 0) (hc : c ≤ 11) (b : Nat) (i : Int) (hb : Blk w b #[.int .i64 i, evOf ad c] 138) :
    Calls Tryz.prog 52 #[.iface 134 (.pointer (some ⟨b, 0, none⟩))] w fun e w' => e = .returned (.tuple #[.int .i64 (c : Int), .int .i64 i]) ∧ Ext w w' := by
  have := code_fault w ad h b i c hc ((hb.cell 0).trans rfl) (IsAs.fault h c (by omega) b ((hb.cell 1).trans rfl))
  unfold codeV at this
  rw [if_neg h0] at this
  exact this
theorem code_edge {ad : Nat → Addr} {n : Int} {E : List (Int × Int)} {w : World} {v : Value} {c : Nat} {p : Int} (h : EdgeErr ad n E w v) (g : EdgeIs n E c p) (w1 : World) (x : Ext w w1) (hA : AllErrs w1 ad) :
    Calls Tryz.prog 52 #[v] w1 fun e w' => e = .returned (.tuple #[.int .i64 (c : Int), .int .i64 p]) ∧ Ext w1 w' := by
  rcases h with ⟨h1, rfl⟩ | ⟨h1, h2, rfl⟩ | ⟨h1, i, e, b, h2, h3, h4, rfl, h5⟩
  · obtain ⟨rfl, rfl⟩ := g.uniq (.inl ⟨h1, rfl, rfl⟩)
    exact code_of w1 ad hA 2 (by decide) (by decide)
  · obtain ⟨rfl, rfl⟩ := g.uniq (.inr (.inl ⟨h1, h2, rfl, rfl⟩))
    exact (code_nil w1).mono fun e w' ⟨he, hw⟩ => ⟨he, by rw [hw]; exact Ext.refl _⟩
  · obtain ⟨rfl, rfl⟩ := g.uniq (.inr (.inr ⟨h1, i, e, h2, h3, h4, rfl, rfl⟩))
    exact code_at w1 ad hA 2 (by decide) (by decide) b i (h5.ext x)
def cntG (G : List Int) (k : Nat) : Nat := ((List.range k).filter fun i : Nat => decide (G[i]? = some (i : Int))).length
theorem cntG_yes {G : List Int} {k : Nat} (h : G[k]? = some (k : Int)) : cntG G (k + 1) = cntG G k + 1 := by
  unfold cntG
  rw [List.range_succ, List.filter_append, List.length_append, List.filter_cons, decide_eq_true h]
  rfl
theorem cntG_no {G : List Int} {k : Nat} (h : G[k]? ≠ some (k : Int)) : cntG G (k + 1) = cntG G k := by
  unfold cntG
  rw [List.range_succ, List.filter_append, List.length_append, List.filter_cons, decide_eq_false h]
  rfl
theorem cntG_le (G : List Int) (k : Nat) : cntG G k ≤ k := by
  unfold cntG
  exact Nat.le_trans (List.length_filter_le _ _) (by simp)
theorem cntG_all {n : Nat} {E : List (Int × Int)} {G : List Int} (hG : GrpL n E G) (hn : n ≤ 1000) : cntG G n = (sset G).length := by
  rw [← leftL_all hG hn]
  unfold leftL cntG
  rw [List.length_map]
  congr 1
  refine List.filter_congr fun k hk => ?_
  have : (List.replicate n false).getD k false = false := by
    rw [List.getD_eq_getElem?_getD]
    cases h : (List.replicate n false)[k]? with
    | none => rfl
    | some b => exact (List.mem_replicate.1 (List.mem_of_getElem? h)).2
  rw [this]
  simp
theorem irow_ints {w : World} {base n cap : Nat} {a : Option Addr} {l : List Int} (h : IRow base w (.slice a n cap) l) (hb : ∀ x ∈ l, x < 1000) : Ints w a l.length l := h.ints fun i => by
  rw [List.getD_eq_getElem?_getD]
  cases hx : l[i]? with
  | none => simp
  | some x =>
    have := hb x (List.mem_of_getElem? hx)
    simp only [Option.getD_some]
    omega
theorem grp_ints {w : World} {base n cap : Nat} {a : Option Addr} {E : List (Int × Int)} {G : List Int} (h : w.ownsRow base 3 1 (.slice a n cap) n (icells G)) (hG : GrpL n E G) (hn : n ≤ 1000) : Ints w a n G := by
  have h1 : IRow base w (.slice a n cap) G := by
    unfold IRow
    rw [hG.len]
    exact h
  have h2 := irow_ints h1 fun x hx => (hG.inR hn x hx).2
  rw [hG.len] at h2
  exact h2
theorem setok_few {l : List Int} (h : chkE l = 0) (i : Nat) : l.getD i 0 ≤ 9223372036854775807 := by
  rw [List.getD_eq_getElem?_getD]
  cases hx : l[i]? with
  | none => exact (by decide : (0 : Int) ≤ 9223372036854775807)
  | some x =>
    have := (chkE_zero.1 h).1 x (List.mem_of_getElem? hx)
    show x ≤ _
    omega
set_option maxRecDepth 100000 in
set_option maxHeartbeats 1600000 in
theorem samesets_any (va vb : Value) (A B : List (List Int)) (w : World) (n0 : Nat) (ha : SetsR w n0 va A) (hb : SetsR w n0 vb B) (ka : ∀ l ∈ A, chkE l = 0) (kb : ∀ l ∈ B, chkE l = 0) :
    Calls Tryz.prog 41 #[va, vb] w fun e w' => e = .returned (.bool (decide (A = B))) ∧ Ext w w' := by
  have hal := ha.len
  have hbl := hb.len
  have HA := hid ha
  have HB := hid hb
  have HKa := hid ka
  have HKb := hid kb
  obtain ⟨aa, ca, rfl⟩ := ha.form
  obtain ⟨ab, cb, rfl⟩ := hb.form
  clear ha hb ka kb
  by_cases hl : A.length = B.length
  · have Hl := hid hl
    have e0 : ((A.length : Int) != (B.length : Int)) = false := by rw [hl]; simp
    clear hl
    go_enter Tryz.func41, Tryz.ntmps41
    go_wp2
    clear e0
    go_loopw [5] (fun t5 wr => ∃ k : Nat, t5 = .int .i64 (k : Int) ∧ k ≤ A.length ∧ (∀ j, j < k → A[j]? = B[j]?) ∧ Ext w wr) (fun t5 _ => A.length - (intOf t5).toNat)
    case atStart => exact ⟨0, rfl, Nat.zero_le _, fun j h => by omega, Ext.refl _⟩
    case round =>
      obtain ⟨k, rfl, hk, hp, hx⟩ := hrel
      have Hp := hid hp
      have Hx := hid hx
      clear hp hx
      by_cases hlt : k < A.length
      · have hlt2 : k < B.length := by rw [← Hl.out]; exact hlt
        obtain ⟨ya, l, bl, cl, hya, hpk, hcp, hI⟩ := (HA.out.ext Hx.out).at hlt
        subst hya
        obtain ⟨yb, m, bm, cm, hyb, hqk, hcq, hI'⟩ := (HB.out.ext Hx.out).at hlt2
        subst hyb
        have hll := hI.len
        have hml := hI'.len
        have HC := fun w1 (x : Ext wr w1) => hid (sameints_any bl bm l.length m.length cl cm l m w1 (IntsR.ints (hI.old (x.old _)) (setok_few (HKa.out l (List.mem_of_getElem? hpk)))) (IntsR.ints (hI'.old (x.old _)) (setok_few (HKb.out m (List.mem_of_getElem? hqk)))) hll hml)
        have c0 : ∀ w1, Keep (fun _ => False) wr w1 → w1.cell? (ya.add k) = some (.slice bl l.length cl) := fun w1 k => k.ext.cellx hcp
        have c1 : ∀ w1, Keep (fun _ => False) wr w1 → w1.cell? (yb.add k) = some (.slice bm m.length cm) := fun w1 k => k.ext.cellx hcq
        obtain ⟨d, hd⟩ : ∃ d, d = decide (l = m) := ⟨_, rfl⟩
        rw [← hd] at HC
        have Hd := hid hd
        have Hpk := hid hpk
        have Hqk := hid hqk
        clear hpk hqk hI hI' hd hcp hcq
        go_wp2
        refine wp_flowT (fun _ => False) (by kernel_rfl) (by kernel_rfl) ?_
        repeat (apply FlowT.d; (intro w1 hk; unfold does; go_simp; (try go_ints); (first | exact DetR.mk | (simp only [↓IntWalk.iteOmega, Oper.doesUpon_value]; exact DetR.mk) | (simp only [↓IntWalk.iteOmega]; go_simp; (try go_ints); exact DetR.mk))); simp only [Act.put, qS0, qS1, qS2])
        apply FlowT.d
        · intro w1 hk
          unfold does
          go_simp
          exact CallR.det ((HC w1 hk.ext).out)
        simp only [Act.put, qS0, qS1, qS2]
        repeat (apply FlowT.d; (intro w1 hk; unfold does; go_simp; (try go_ints); (first | exact DetR.mk | (simp only [↓IntWalk.iteOmega, Oper.doesUpon_value]; exact DetR.mk) | (simp only [↓IntWalk.iteOmega]; go_simp; (try go_ints); exact DetR.mk))); simp only [Act.put, qS0, qS1, qS2])
        refine FlowT.fin fun w1 hx1 hk1 => ?_
        have Hx1 := hid (Hx.out.trans hx1)
        clear HC hx1 hk1 c0 c1
        cases d with
        | true =>
          have He : Hid (l = m) := hid (of_decide_eq_true Hd.out.symm)
          go_wp2
          go_roundw
          case rel =>
            refine ⟨k + 1, by go_num, by omega, fun j hj => ?_, Hx1.out⟩
            by_cases hjk : j = k
            · subst hjk; rw [Hpk.out, Hqk.out, He.out]
            · exact Hp.out j (by omega)
          case measure => simp [intOf]; omega
        | false =>
          have Hne : Hid (decide (A = B) = false) := hid (decide_eq_false fun h => (of_decide_eq_false Hd.out.symm) (by
            have h1 := Hpk.out
            rw [h] at h1
            exact Option.some.inj (h1.symm.trans Hqk.out)))
          go_wp2
          go_ret
          exact ⟨by rw [Hne.out]; rfl, Hx1.out⟩
      · have Heq : Hid (decide (A = B) = true) := hid (decide_eq_true (ext_take Hl.out fun j hj => Hp.out j (by omega)))
        obtain rfl : k = A.length := by omega
        go_wp2
        go_ret
        exact ⟨by rw [Heq.out]; rfl, Hx.out⟩
  · have e0 : ((A.length : Int) != (B.length : Int)) = true := bne_iff_ne.2 (fun h => hl (Int.ofNat_inj.1 h))
    have Hne : Hid (decide (A = B) = false) := hid (decide_eq_false fun h => hl (by rw [h]))
    clear hl
    go_enter Tryz.func41, Tryz.ntmps41
    go_wp2
    go_ret
    exact ⟨by rw [Hne.out]; rfl, Ext.refl _⟩
def fixedP : PP := ⟨[⟨#[97]⟩, ⟨#[98]⟩], [], [⟨⟨#[97, 100, 100, 114]⟩, 0, 1, []⟩, ⟨⟨#[99, 111, 112, 121]⟩, 1, 0, []⟩]⟩
def fixedS : Array Value := #[.string ⟨#[97, 100, 100, 114]⟩, .int .i64 0, .int .i64 1, .slice none 0 0, .string ⟨#[99, 111, 112, 121]⟩, .int .i64 1, .int .i64 0, .slice none 0 0]
end Go.Proofs.YtihdpijgngooaaaGreatDoor
