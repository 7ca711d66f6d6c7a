/- Texts of one proof, put together: ZZE. -/
import Derived.Test.YtdppgcbekhabnaaGreatDoorSD30
import Derived.Test.YtdppgcbekhabnaaGreatDoorSD31

namespace Go.Proofs.YtdppgcbekhabnaaGreatDoor
set_option linter.unusedSimpArgs false
set_option linter.unusedVariables false
open Go Go.RowKit

structure SplitRows (W w : World) (base g : Nat) (v1 v2 fv lv : Value) (F L : List PS) (fs ls : List S2) : Prop where
  blk : Blk w g #[v1, v2, fv] 26
  frow : w.ownsRow base 65 4 fv F.length (fs.flatMap S2.cells)
  lrow : w.ownsRow base 65 4 lv L.length (ls.flatMap S2.cells)
  apart : ∀ b, fv.ownBlock = some b → ¬ lv.ownBlock = some b
  fe : fs.map S2.s = F
  le : ls.map S2.s = L
  args : ∀ x ∈ fs ++ ls, IntsR W W.heap.size x.v x.s.args
  ext : Ext W w
section
variable {W w w' : World} {base g : Nat} {v1 v2 fv lv : Value} {F L : List PS} {fs ls : List S2}
theorem SplitRows.more (h : SplitRows W w base g v1 v2 fv lv F L fs ls) (x : Ext w w') : SplitRows W w' base g v1 v2 fv lv F L fs ls :=
  ⟨h.blk.ext x, own_ext h.frow x, own_ext h.lrow x, h.apart, h.fe, h.le, h.args, h.ext.trans x⟩
theorem SplitRows.first (h : SplitRows W w base g v1 v2 fv lv F L fs ls) (hb : W.heap.size ≤ base) (hg : W.heap.size ≤ g) (k : Keep (fun q => fv.ownBlock = some q) w w') {fv' : Value} (x : S2) (hx : IntsR W W.heap.size x.v x.s.args) (hr : w'.ownsRow base 65 4 fv' (F.length + 1) (fs.flatMap S2.cells ++ x.cells)) (ho : ∀ b, fv'.ownBlock = some b → fv.ownBlock = some b ∨ w.heap.size ≤ b) :
    SplitRows W (w'.setCell ⟨g, 2, none⟩ fv') base g v1 v2 fv' lv (F ++ [x.s]) L (fs ++ [x]) ls := by
  have hbl : Blk w' g #[v1, v2, fv] 26 := h.blk.keep k fun e => by
    obtain ⟨c, hc⟩ := own_ty h.frow e
    exact Blk.ty_ne hc h.blk (by decide) rfl
  have k2 : Keep (fun q => q = g) w' (w'.setCell ⟨g, 2, none⟩ fv') := (Keep.refl (fun q => q = g) w').set rfl _
  have hoff : ∀ b, b = g → ¬ ∃ c, Blk w' b c 65 := fun b e => by rw [e]; exact off_of hbl (by decide)
  refine ⟨?_, ?_, ?_, fun b hb1 hb2 => ?_, by rw [List.map_append, h.fe]; rfl, h.le, fun y hy => ?_, ?_⟩
  · have := hbl.set 2 fv'
    exact this
  · rw [List.length_append, List.length_singleton, List.flatMap_append]
    refine own_off ?_ k2 hoff
    simpa using hr
  · exact own_off (row_keep h.lrow k fun b hb1 hb2 => h.apart b hb2 hb1) k2 hoff
  · rcases ho b hb1 with e | e
    · exact h.apart b e hb2
    · have := (World.ownsRow.lt h.lrow b hb2).2
      omega
  · rcases List.mem_append.1 hy with hy | hy
    · rcases List.mem_append.1 hy with hy | hy
      · exact h.args y (List.mem_append_left _ hy)
      · rw [List.mem_singleton.1 hy]; exact hx
    · exact h.args y (List.mem_append_right _ hy)
  · exact Keep.new h.ext ((k.mono (Y := fun q => q = g ∨ fv.ownBlock = some q) fun _ _ h => .inr h).set (.inl rfl) _) fun b e => by
      rcases e with rfl | e
      · exact hg
      · exact Nat.le_trans hb (World.ownsRow.lt h.frow b e).1
theorem SplitRows.later (h : SplitRows W w base g v1 v2 fv lv F L fs ls) (hb : W.heap.size ≤ base) (k : Keep (fun q => lv.ownBlock = some q) w w') {lv' : Value} (x : S2) (hx : IntsR W W.heap.size x.v x.s.args) (hr : w'.ownsRow base 65 4 lv' (L.length + 1) (ls.flatMap S2.cells ++ x.cells)) (ho : ∀ b, lv'.ownBlock = some b → lv.ownBlock = some b ∨ w.heap.size ≤ b) :
    SplitRows W w' base g v1 v2 fv lv' F (L ++ [x.s]) fs (ls ++ [x]) := by
  refine ⟨h.blk.keep k fun e => ?_, row_keep h.frow k fun b hb1 hb2 => h.apart b hb1 hb2, ?_, fun b hb1 hb2 => ?_, h.fe, by rw [List.map_append, h.le]; rfl, fun y hy => ?_, Keep.new h.ext k fun b e => Nat.le_trans hb (World.ownsRow.lt h.lrow b e).1⟩
  · obtain ⟨c, hc⟩ := own_ty h.lrow e
    exact Blk.ty_ne hc h.blk (by decide) rfl
  · rw [List.length_append, List.length_singleton, List.flatMap_append]
    simpa using hr
  · rcases ho b hb2 with e | e
    · exact h.apart b hb1 e
    · have := (World.ownsRow.lt h.frow b hb1).2
      omega
  · rcases List.mem_append.1 hy with hy | hy
    · exact h.args y (List.mem_append_left _ hy)
    · rcases List.mem_append.1 hy with hy | hy
      · exact h.args y (List.mem_append_right _ hy)
      · rw [List.mem_singleton.1 hy]; exact hx
end
set_option maxRecDepth 100000 in
set_option maxHeartbeats 12800000 in
theorem solveaddslaw_no (a1 a2 a3 : Option Addr) (c1 c2 c3 : Nat) (P : PP) (cut at_ : Int) (w : World) (ad : Nat → Addr) (hE : ErrsP w ad) (hS : ErrS w ad) (hP : ProgR w w.heap.size (.slice a1 P.vars.length c1) (.slice a2 P.funs.length c2) (.slice a3 P.stmts.length c3) P) (hw : ¬ P.Well) :
    Calls Tryz.prog 6 #[pval a1 a2 a3 c1 c2 c3 P, .int .i64 cut, .int .i64 at_] w fun e w' => e = .returned (.bool true) ∧ Ext w w' := by
  have Hw := hid hw
  clear hw
  have HE := hid hE
  have HS := hid hS
  have HP := hid hP
  obtain ⟨W1, hW1⟩ : ∃ W1, W1 = w.alloc (.cells (pcells a1 a2 a3 c1 c2 c3 P) 26) := ⟨_, rfl⟩
  have HX1 : Hid (Ext w W1) := hid (by rw [hW1]; exact (Ext.refl _).alloc _)
  have HB1 : Hid (Blk W1 w.heap.size (pcells a1 a2 a3 c1 c2 c3 P) 26) := hid (by rw [hW1]; exact Blk.new _ _ _)
  have HR := hid (solvedfact_any W1 ad (hE.ext HX1.out) (hS.ext HX1.out))
  have HW1 : Hid (W1 = w.alloc (.cells #[.slice a1 P.vars.length c1, .slice a2 P.funs.length c2, .slice a3 P.stmts.length c3] 26)) := hid (by rw [hW1]; rfl)
  unfold pval
  clear hE hS hP hW1
  go_enter Tryz.func6, Tryz.ntmps6
  go_wp2_with fail
  rw [← HW1.out]
  refine HR.out.mono ?_
  intro e w1 hx
  obtain ⟨rfl, hx1⟩ := hx
  have HL := hid (large_q a1 a2 a3 c1 c2 c3 25 (by omega) P w1 w.heap.size (HP.out.ext (HX1.out.trans hx1)))
  rw [show ((25 : Nat) : Int) = (25 : Int) from rfl] at HL
  unfold pval at HL
  have HX1' := hid (HX1.out.trans hx1)
  have HBp1 := hid (HB1.out.ext hx1)
  have p0 := HBp1.out.av 0 rfl
  have p1 := HBp1.out.av 1 rfl
  have p2 := HBp1.out.av 2 rfl
  simp only [pcells, List.getElem_toArray, List.getElem_cons_zero, List.getElem_cons_succ] at p0 p1 p2
  clear HR hx1
  go_wp2_with fail
  refine HL.out.mono ?_
  intro e w2 hx
  obtain ⟨r, rfl, hr, hsm, hx2⟩ := hx
  have HX2 := hid (HX1'.out.trans hx2)
  have HBp := hid (HBp1.out.ext hx2)
  clear HL hx2 p0 p1 p2
  rcases (by omega : r = 1 ∨ r = 0) with rfl | rfl
  · clear hsm hr
    go_wp2
    go_ret
    exact ⟨rfl, HX2.out⟩
  have HSm := hid (hsm rfl).1
  have HQl := hid (hsm rfl).2
  clear hsm hr
  by_cases hc0 : cut < 0
  case pos =>
    go_wp2
    go_ret
    exact ⟨rfl, HX2.out⟩
  by_cases hc1 : (P.stmts.length : Int) < cut
  case pos =>
    have p2 := HBp.out.av 2 rfl
    have hml : P.stmts.length ≤ 81 := HSm.out.sl
    simp only [pcells, List.getElem_toArray, List.getElem_cons_zero, List.getElem_cons_succ] at p2
    go_wp2
    go_ret
    exact ⟨rfl, HX2.out⟩
  have hml : P.stmts.length ≤ 81 := HSm.out.sl
  obtain ⟨w2', hw2'⟩ : ∃ w2', w2' = w2 := ⟨_, rfl⟩
  subst hw2'
  have HX2' := hid HX2.out
  have HBp' := hid HBp.out
  have hz1 : ∀ s ∈ P.vars, s.size ≤ 1000000 := fun s hs => by have := HSm.out.vs s hs; omega
  have hz2 : ∀ s ∈ P.names, s.size ≤ 1000000 := fun s hs => by
    obtain ⟨f, hf, rfl⟩ := List.mem_map.1 hs
    have := (HSm.out.fs f hf).1
    omega
  have Hz1 := hid hz1
  have Hz2 := hid hz2
  have HPS := hid (show PS0 w2' w2'.heap.size ad a1 a2 a3 c1 c2 c3 P from ⟨HE.out.ext HX2'.out, (HP.out.ext HX2'.out).lift HX2'.out.size, Hz1.out, Hz2.out⟩)
  clear hz1 hz2
  have HQ := hid (ownprogram_any a1 a2 a3 c1 c2 c3 P w2' HPS.out.prog HSm.out)
  have p0 := HBp'.out.av 0 rfl
  have p1 := HBp'.out.av 1 rfl
  have p2 := HBp'.out.av 2 rfl
  simp only [pcells, List.getElem_toArray, List.getElem_cons_zero, List.getElem_cons_succ] at p0 p1 p2
  unfold pval at HQ
  go_wp2_with fail
  refine HQ.out.mono ?_
  intro e w3 hx
  obtain ⟨hx3, b1, b2, b3, d1, d2, d3, rfl, hq⟩ := hx
  have HX3 := hid (HX2'.out.trans hx3)
  have Hx3 := hid hx3
  have Hq3 := hid hq
  clear HQ hx3 hq p0 p1 p2
  obtain ⟨W9, hW9⟩ : ∃ W9, W9 = w3.alloc (.cells (pcells b1 b2 b3 d1 d2 d3 P) 26) := ⟨_, rfl⟩
  have hx9 : Ext w3 W9 := by rw [hW9]; exact (Ext.refl _).alloc _
  have HXw := hid (HX3.out.trans hx9)
  have Hw9 := hid (Hx3.out.trans hx9)
  have HB6 : Hid (Blk W9 w3.heap.size (pcells b1 b2 b3 d1 d2 d3 P) 26) := hid (by rw [hW9]; exact Blk.new _ _ _)
  have HW9 : Hid (W9 = w3.alloc (.cells #[.slice b1 P.vars.length d1, .slice b2 P.funs.length d2, .slice b3 P.stmts.length d3] 26)) := hid (by rw [hW9]; rfl)
  have HPP9 := hid (show PS0 W9 W9.heap.size ad b1 b2 b3 d1 d2 d3 P from ⟨HE.out.ext HXw.out, (Hq3.out.ext hx9).lift hx9.size, Hz1.out, Hz2.out⟩)
  have HS9 := hid (HS.out.ext HXw.out)
  clear hx9 hW9
  have HK := hid (pcheck_any b1 b2 b3 d1 d2 d3 P W9 W9.heap.size ad HPP9.out.errs HPP9.out.prog Hz1.out Hz2.out (by have := HSm.out.vl; omega))
  unfold pval at HK
  go_wp2_with fail
  rw [← HW9.out]
  refine HK.out.mono ?_
  intro e w4 hx
  obtain ⟨v, rfl, hi, hx4⟩ := hx
  have HX4 := hid (HXw.out.trans hx4)
  rcases hi.form with ⟨_, hw1, hw2⟩ | ⟨⟨t, z, rfl⟩, _⟩
  · exact absurd ⟨hw1, hw2⟩ Hw.out
  · clear HK hi hx4
    go_wp2
    go_ret
    exact ⟨rfl, HX4.out⟩
theorem OwnR.moreL {w w' : World} {n1 : Nat} {vv fv sv sv' : Value} {P : PP} {fs : List F2} {ss : List S2} (h : OwnR w n1 vv fv sv P fs ss) (ls : List S2) (hx : ∀ x ∈ ls, IntsR w' w'.heap.size x.v x.s.args)
    (ho : w'.ownsRow n1 65 4 sv' (P.stmts.length + ls.length) (ss.flatMap S2.cells ++ ls.flatMap S2.cells)) {X : Nat → Prop} (k : Keep X w w') (hX : ∀ q, X q → ∃ c t, Blk w q c t ∧ t ≠ 9 ∧ t ≠ 74 ∧ t ≠ 3) :
    ProgR w' w'.heap.size vv fv sv' (P.withS (P.stmts ++ ls.map S2.s)) := by
  have hfl : fs.length = P.funs.length := by rw [← h.fm, List.length_map]
  have hsl : ss.length = P.stmts.length := by rw [← h.sm, List.length_map]
  have hni : ∀ b, X b → ¬ IsInt w b := fun b e => by
    obtain ⟨c, t, hc, _, _, h3⟩ := hX b e
    exact notInt hc h3
  have hrk : ∀ {base : Nat} {e : TypeId} {size : Nat} {v : Value} {n : Nat} {xs : List Value}, w.ownsRow base e size v n xs → (e = 9 ∨ e = 74) → w'.ownsRow base e size v n xs := fun hr hne => row_keep hr k fun i hi e => by
    obtain ⟨c, hc⟩ := own_ty hr hi
    obtain ⟨c', t, hc', h1, h2, _⟩ := hX i e
    refine Blk.ty_ne hc hc' (fun e => ?_) rfl
    rcases hne with h | h
    · exact h1 (e.symm.trans h)
    · exact h2 (e.symm.trans h)
  refine ⟨StrsR.own (hrk h.vars (.inl rfl)) (Nat.le_refl _), FunsR.own (by rw [hfl]; exact hrk h.funs (.inr rfl)) h.fm fun x hx => (h.fi x hx).keep k hni, ?_⟩
  refine StmtsR.own2 (base := n1) (ss := ss ++ ls) ?_ ?_ ?_
  · rw [List.flatMap_append, List.length_append, hsl]
    exact ho
  · rw [List.map_append, h.sm]; rfl
  · intro y hy
    rcases List.mem_append.1 hy with hy | hy
    · exact ((h.si y hy).keep k hni).1
    · exact hx y hy
theorem s2_one (ls : List S2) (h : ∀ x ∈ ls, ∃ a n c, x.v = .slice a n c) : ∀ u ∈ ls.flatMap S2.cells, u.oneCell' = true := fun u hu => by
  obtain ⟨x, hx, hux⟩ := List.mem_flatMap.1 hu
  obtain ⟨a, n, c, e⟩ := h x hx
  obtain ⟨s, v⟩ := x
  simp only at e
  subst e
  simp only [S2.cells, List.mem_cons, List.not_mem_nil, or_false] at hux
  rcases hux with rfl | rfl | rfl | rfl <;> rfl
set_option maxRecDepth 100000 in
set_option maxHeartbeats 12800000 in
theorem solveaddslaw_yes (a1 a2 a3 : Option Addr) (c1 c2 c3 : Nat) (P : PP) (cut at_ : Int) (w : World) (ad : Nat → Addr) (hE : ErrsP w ad) (hA : AllErrs w ad) (hS : ErrS w ad) (hP : ProgR w w.heap.size (.slice a1 P.vars.length c1) (.slice a2 P.funs.length c2) (.slice a3 P.stmts.length c3) P) (hw : P.Well) :
    Calls Tryz.prog 6 #[pval a1 a2 a3 c1 c2 c3 P, .int .i64 cut, .int .i64 at_] w fun e w' => e = .returned (.bool true) ∧ Ext w w' := by
  have HAA := hid hA
  have Hw := hid hw
  clear hw hA
  have HE := hid hE
  have HS := hid hS
  have HP := hid hP
  obtain ⟨W1, hW1⟩ : ∃ W1, W1 = w.alloc (.cells (pcells a1 a2 a3 c1 c2 c3 P) 26) := ⟨_, rfl⟩
  have HX1 : Hid (Ext w W1) := hid (by rw [hW1]; exact (Ext.refl _).alloc _)
  have HB1 : Hid (Blk W1 w.heap.size (pcells a1 a2 a3 c1 c2 c3 P) 26) := hid (by rw [hW1]; exact Blk.new _ _ _)
  have HR := hid (solvedfact_any W1 ad (hE.ext HX1.out) (hS.ext HX1.out))
  have HW1 : Hid (W1 = w.alloc (.cells #[.slice a1 P.vars.length c1, .slice a2 P.funs.length c2, .slice a3 P.stmts.length c3] 26)) := hid (by rw [hW1]; rfl)
  unfold pval
  clear hE hS hP hW1
  go_enter Tryz.func6, Tryz.ntmps6
  go_wp2_with fail
  rw [← HW1.out]
  refine HR.out.mono ?_
  intro e w1 hx
  obtain ⟨rfl, hx1⟩ := hx
  have HL := hid (large_q a1 a2 a3 c1 c2 c3 25 (by omega) P w1 w.heap.size (HP.out.ext (HX1.out.trans hx1)))
  rw [show ((25 : Nat) : Int) = (25 : Int) from rfl] at HL
  unfold pval at HL
  have HX1' := hid (HX1.out.trans hx1)
  have HBp1 := hid (HB1.out.ext hx1)
  have p0 := HBp1.out.av 0 rfl
  have p1 := HBp1.out.av 1 rfl
  have p2 := HBp1.out.av 2 rfl
  simp only [pcells, List.getElem_toArray, List.getElem_cons_zero, List.getElem_cons_succ] at p0 p1 p2
  clear HR hx1
  go_wp2_with fail
  refine HL.out.mono ?_
  intro e w2 hx
  obtain ⟨r, rfl, hr, hsm, hx2⟩ := hx
  have HX2 := hid (HX1'.out.trans hx2)
  have HBp := hid (HBp1.out.ext hx2)
  clear HL hx2 p0 p1 p2
  rcases (by omega : r = 1 ∨ r = 0) with rfl | rfl
  · clear hsm hr
    go_wp2
    go_ret
    exact ⟨rfl, HX2.out⟩
  have HSm := hid (hsm rfl).1
  have HQl := hid (hsm rfl).2
  clear hsm hr
  by_cases hc0 : cut < 0
  case pos =>
    go_wp2
    go_ret
    exact ⟨rfl, HX2.out⟩
  by_cases hc1 : (P.stmts.length : Int) < cut
  case pos =>
    have p2 := HBp.out.av 2 rfl
    have hml : P.stmts.length ≤ 81 := HSm.out.sl
    simp only [pcells, List.getElem_toArray, List.getElem_cons_zero, List.getElem_cons_succ] at p2
    go_wp2
    go_ret
    exact ⟨rfl, HX2.out⟩
  have hml : P.stmts.length ≤ 81 := HSm.out.sl
  obtain ⟨w2', hw2'⟩ : ∃ w2', w2' = w2 := ⟨_, rfl⟩
  subst hw2'
  have HX2' := hid HX2.out
  have HBp' := hid HBp.out
  have hz1 : ∀ s ∈ P.vars, s.size ≤ 1000000 := fun s hs => by have := HSm.out.vs s hs; omega
  have hz2 : ∀ s ∈ P.names, s.size ≤ 1000000 := fun s hs => by
    obtain ⟨f, hf, rfl⟩ := List.mem_map.1 hs
    have := (HSm.out.fs f hf).1
    omega
  have Hz1 := hid hz1
  have Hz2 := hid hz2
  have HPS := hid (show PS0 w2' w2'.heap.size ad a1 a2 a3 c1 c2 c3 P from ⟨HE.out.ext HX2'.out, (HP.out.ext HX2'.out).lift HX2'.out.size, Hz1.out, Hz2.out⟩)
  clear hz1 hz2
  have HQ := hid (ownprogram_any a1 a2 a3 c1 c2 c3 P w2' HPS.out.prog HSm.out)
  have p0 := HBp'.out.av 0 rfl
  have p1 := HBp'.out.av 1 rfl
  have p2 := HBp'.out.av 2 rfl
  simp only [pcells, List.getElem_toArray, List.getElem_cons_zero, List.getElem_cons_succ] at p0 p1 p2
  unfold pval at HQ
  go_wp2_with fail
  refine HQ.out.mono ?_
  intro e w3 hx
  obtain ⟨hx3, b1, b2, b3, d1, d2, d3, rfl, hq⟩ := hx
  have HX3 := hid (HX2'.out.trans hx3)
  have Hx3 := hid hx3
  have Hq3 := hid hq
  clear HQ hx3 hq p0 p1 p2
  obtain ⟨W9, hW9⟩ : ∃ W9, W9 = w3.alloc (.cells (pcells b1 b2 b3 d1 d2 d3 P) 26) := ⟨_, rfl⟩
  have hx9 : Ext w3 W9 := by rw [hW9]; exact (Ext.refl _).alloc _
  have HXw := hid (HX3.out.trans hx9)
  have Hw9 := hid (Hx3.out.trans hx9)
  have HB6 : Hid (Blk W9 w3.heap.size (pcells b1 b2 b3 d1 d2 d3 P) 26) := hid (by rw [hW9]; exact Blk.new _ _ _)
  have HW9 : Hid (W9 = w3.alloc (.cells #[.slice b1 P.vars.length d1, .slice b2 P.funs.length d2, .slice b3 P.stmts.length d3] 26)) := hid (by rw [hW9]; rfl)
  have HPP9 := hid (show PS0 W9 W9.heap.size ad b1 b2 b3 d1 d2 d3 P from ⟨HE.out.ext HXw.out, (Hq3.out.ext hx9).lift hx9.size, Hz1.out, Hz2.out⟩)
  have HS9 := hid (HS.out.ext HXw.out)
  clear hx9 hW9
  have hst80 := Hw.out.few.2.2
  have hst25 : P.stmts.length ≤ 25 := by rcases HQl.out with g | g <;> omega
  have HK := hid (check_well HPP9.out.errs HPP9.out.prog Hz1.out Hz2.out Hw.out)
  unfold pval at HK
  go_wp2_with fail
  rw [← HW9.out]
  refine HK.out.mono ?_
  intro e w4 hx
  obtain ⟨rfl, hx4⟩ := hx
  have HX4 := hid (HXw.out.trans hx4)
  have HPq := hid (HPP9.out.on (Nat.le_refl _) hx4).prog
  have HBq := hid (HB6.out.ext hx4)
  have g0 := (HB6.out.ext hx4).av 0 rfl
  have g1 := (HB6.out.ext hx4).av 1 rfl
  have g2 := (HB6.out.ext hx4).av 2 rfl
  simp only [pcells, List.getElem_toArray, List.getElem_cons_zero, List.getElem_cons_succ] at g0 g1 g2
  obtain ⟨Wf, hWf⟩ : ∃ Wf, Wf = w4.alloc (.cells #[.slice b1 P.vars.length d1, .slice b2 P.funs.length d2, .slice none 0 0] 26) := ⟨_, rfl⟩
  have HT0 : Hid (SplitRows w4 Wf w4.heap.size w4.heap.size (.slice b1 P.vars.length d1) (.slice b2 P.funs.length d2) (.slice none 0 0) (.slice none 0 0) (P.firstUp cut 0) (P.laterUp cut 0) [] []) := hid
    ⟨by rw [hWf]; exact Blk.new _ _ _, World.ownsRow_nil _ _ _ _, World.ownsRow_nil _ _ _ _, fun _ h => by (cases h), rfl, rfl, fun _ h => by (cases h), by rw [hWf]; exact (Ext.refl _).alloc _⟩
  have HWf := hid hWf
  clear HK hx4 hWf
  go_wp2
  rw [← HWf.out]
  clear g0 g1 g2
  go_loopw [10, 11] (fun t10 t11 wr => ∃ (k : Nat) (fv : Value) (fs ls : List S2), t11 = .int .i64 (k : Int) ∧ k ≤ P.stmts.length ∧ SplitRows w4 wr w4.heap.size w4.heap.size (.slice b1 P.vars.length d1) (.slice b2 P.funs.length d2) fv t10 (P.firstUp cut k) (P.laterUp cut k) fs ls) (fun _ t11 _ => P.stmts.length - (intOf t11).toNat)
  case atStart => exact ⟨0, _, [], [], rfl, Nat.zero_le _, HT0.out⟩
  case round =>
    clear HT0
    obtain ⟨k, fv, fs, ls, rfl, hk, hT⟩ := hrel
    obtain ⟨af, cf, rfl⟩ := row_form hT.frow
    obtain ⟨al, cl, rfl⟩ := row_form hT.lrow
    have HT := hid hT
    have hul := up_len P cut k
    have HBr := hid (HBq.out.ext hT.ext)
    clear hT
    by_cases hlt : k < P.stmts.length
    · obtain ⟨y, x0, av, cv, hy, hq, e0, e1, e2, e3, hI⟩ := (HPq.out.old (HT.out.ext.old _)).stmts.at hlt
      subst hy
      obtain rfl : P.stAt k = x0 := Option.some.inj ((stAt_some hlt).symm.trans hq)
      obtain ⟨x, hx⟩ : ∃ x, x = P.stAt k := ⟨_, rfl⟩
      rw [← hx] at e0 e1 e2 e3 hI
      have Hxe := hid hx
      have HIx : Hid (IntsR w4 w4.heap.size (.slice av x.args.length cv) x.args) := hid (by
        obtain ⟨y', x1, av', cv', hy', hq', _, _, _, e3', hI'⟩ := HPq.out.stmts.at hlt
        obtain rfl := Option.some.inj hy'
        obtain rfl : P.stAt k = x1 := Option.some.inj ((stAt_some hlt).symm.trans hq')
        rw [← hx] at e3' hI'
        have := HT.out.ext.cellx e3'
        rw [this] at e3
        obtain ⟨rfl, -, rfl⟩ : av' = av ∧ True ∧ cv' = cv := by simpa using e3
        exact hI')
      have hxl := hI.len
      have hyb : y.block < w4.heap.size := by
        obtain ⟨_, _, g1, _, _, _, g5⟩ := HPq.out.stmts
        simp only [Value.slice.injEq] at g1
        exact (g5 y g1.1.symm (by omega)).1
      obtain ⟨F, hF⟩ : ∃ F, F = P.firstUp cut k := ⟨_, rfl⟩
      obtain ⟨L, hL⟩ : ∃ L, L = P.laterUp cut k := ⟨_, rfl⟩
      have HFe := hid hF
      have HLe := hid hL
      rw [← hF] at HT hul
      rw [← hL] at HT hul
      rw [← hL]
      have Hdef : Hid (P.isFirst cut k = (x.isK kNew || decide ((k : Int) < cut))) := hid (by unfold PP.isFirst; rw [← Hxe.out])
      clear hF hL hx
      cases hkn : (x.kind.toList == [110, 101, 119]) with
      | true =>
        have Hfst : Hid (P.isFirst cut k = true) := hid (by rw [Hdef.out, show x.isK kNew = true from hkn]; rfl)
        have hXo : ∀ b, (Value.slice af F.length cf).ownBlock = some b → w4.heap.size ≤ b := fun b hb => (World.ownsRow.lt HT.out.frow b hb).1
        have c2 := HBr.out.kc (X := fun q => (Value.slice af F.length cf).ownBlock = some q) (fun hb => by have h1 := hXo _ hb; have h2 := HBq.out.lt; omega) 2 rfl
        have dd2 := HT.out.blk.kc (X := fun q => (Value.slice af F.length cf).ownBlock = some q) (fun hb => by
          obtain ⟨c, hc⟩ := own_ty HT.out.frow hb
          exact Blk.ty_ne hc HT.out.blk (by decide) rfl) 2 rfl
        simp only [pcells, List.getElem_toArray, List.getElem_cons_zero, List.getElem_cons_succ] at c2 dd2
        have g0 : ∀ w1, Keep (fun q => (Value.slice af F.length cf).ownBlock = some q) wr w1 → w1.cell? (y.add (k * 4)) = some (.string x.kind) := fun w1 kk => kk.cellx e0 (by simp only [add_block]; exact fun hb => by have := hXo _ hb; omega)
        have g1 : ∀ w1, Keep (fun q => (Value.slice af F.length cf).ownBlock = some q) wr w1 → w1.cell? ⟨(y.add (k * 4)).block, (y.add (k * 4)).off + 1, none⟩ = some (.int .i64 x.x) := fun w1 kk => kk.cellx e1 (by simp only [add_block]; exact fun hb => by have := hXo _ hb; omega)
        have g2 : ∀ w1, Keep (fun q => (Value.slice af F.length cf).ownBlock = some q) wr w1 → w1.cell? ⟨(y.add (k * 4)).block, (y.add (k * 4)).off + 2, none⟩ = some (.int .i64 x.y) := fun w1 kk => kk.cellx e2 (by simp only [add_block]; exact fun hb => by have := hXo _ hb; omega)
        have g3 : ∀ w1, Keep (fun q => (Value.slice af F.length cf).ownBlock = some q) wr w1 → w1.cell? ⟨(y.add (k * 4)).block, (y.add (k * 4)).off + 3, none⟩ = some (.slice av x.args.length cv) := fun w1 kk => kk.cellx e3 (by simp only [add_block]; exact fun hb => by have := hXo _ hb; omega)
        have hb2 := HBr.out.av 2 rfl
        simp only [pcells, List.getElem_toArray, List.getElem_cons_zero, List.getElem_cons_succ] at hb2
        have Hbs : Hid (w4.heap.size ≤ wr.heap.size) := hid HT.out.ext.size
        clear hXo hI hyb hq
        go_wp2
        clear hb2 e0 e1 e2 e3
        refine wp_flowT (fun q => (Value.slice af F.length cf).ownBlock = some q) (by kernel_rfl) (by kernel_rfl) ?_
        repeat (apply FlowT.d; (intro w1 hk; unfold does; go_simp; (try go_ints); (first | exact DetR.mk | (simp only [↓IntWalk.iteOmega, Oper.doesUpon_value]; exact DetR.mk) | (simp only [↓IntWalk.iteOmega]; go_simp; (try go_ints); exact DetR.mk))); simp only [Act.put, List.setIfInBounds_toArray, List.set_cons_zero, List.set_cons_succ])
        refine FlowT.s (fun v' w' => ∃ q, v' = .slice (some ⟨q, 0, none⟩) 1 1 ∧ Blk w' q #[.string x.kind, .int .i64 x.x, .int .i64 x.y, .slice av x.args.length cv] 65 ∧ Ext wr w') 7 rfl (by kernel_rfl) (fun _ _ _ ⟨q, h1, h2, h3⟩ he => ⟨q, h1, h2.ext he, h3.trans he⟩) (fun w5 hC hk => ?_) ?_
        · unfold does
          go_simp
          exact ⟨hk.alloc _, _, rfl, Blk.new _ _ _, hC.alloc _⟩
        rintro _ ⟨_, q3, rfl, _, _⟩
        simp only [Act.put, List.setIfInBounds_toArray, List.set_cons_zero, List.set_cons_succ]
        refine FlowT.s (fun v' w' => (∃ a c, v' = .slice a (F.length + 1) c) ∧ w'.ownsRow w4.heap.size 65 4 v' (F.length + 1) (fs.flatMap S2.cells ++ S2.cells ⟨x, .slice av x.args.length cv⟩) ∧ ∀ b, v'.ownBlock = some b → (Value.slice af F.length cf).ownBlock = some b ∨ wr.heap.size ≤ b) 8 rfl (by kernel_rfl) (fun _ _ _ ⟨h1, h2, h3⟩ he => ⟨h1, own_ext h2 he, h3⟩) (fun w5 hC hk => ?_) ?_
        · obtain ⟨q', e, hg, hE⟩ := hC
          obtain rfl : q3 = q' := by simpa using e
          exact does_append_el w4.heap.size (Nat.le_trans Hbs.out hE.size) 24 65 (.agg #[.string ⟨#[]⟩, .int .i64 0, .int .i64 0, .slice none 0 0]) 4 56 Tryz.underlying24 stmt_info rfl (by omega) (by omega) rfl _ _ rfl _ _ _ rfl (own_ext HT.out.frow hE) q3 (S2.cells ⟨x, .slice av x.args.length cv⟩) rfl (by simp [S2.cells, Value.oneCell']) rfl hg (by omega) fun v' w' h1 h2 h3 => ⟨hk.trans h2, row_form h1, h1, fun b hb => by
            rcases h3 with k | k
            · exact .inl (k ▸ hb)
            · rw [k] at hb
              obtain rfl := Option.some.inj hb
              exact .inr hE.size⟩
        rintro _ ⟨_, ⟨a9, c9, rfl⟩, _, _⟩
        simp only [Act.put, List.setIfInBounds_toArray, List.set_cons_zero, List.set_cons_succ]
        repeat (apply FlowT.d; (intro w1 hk; unfold does; go_simp; (try go_ints); (first | exact DetR.mk | (simp only [↓IntWalk.iteOmega, Oper.doesUpon_value]; exact DetR.mk) | (simp only [↓IntWalk.iteOmega]; go_simp; (try go_ints); exact DetR.mk))); simp only [Act.put, List.setIfInBounds_toArray, List.set_cons_zero, List.set_cons_succ])
        refine FlowT.last (fun _ w' => SplitRows w4 w' w4.heap.size w4.heap.size (.slice b1 P.vars.length d1) (.slice b2 P.funs.length d2) (.slice a9 (F.length + 1) c9) (.slice al L.length cl) (F ++ [x]) L (fs ++ [⟨x, .slice av x.args.length cv⟩]) ls) 10 rfl (by kernel_rfl) (by kernel_rfl) (fun w5 hC hk => ?_) (fun _ w6 hR => ?_)
        · obtain ⟨_, hr, hob⟩ := hC
          have q8 := dd2 w5 hk
          have f8 := (HT.out.blk.keep hk fun hb => by
            obtain ⟨c, hc⟩ := own_ty HT.out.frow hb
            exact Blk.ty_ne hc HT.out.blk (by decide) rfl).free 2
          unfold does
          go_simp
          exact HT.out.first (Nat.le_refl _) (Nat.le_refl _) hk ⟨x, .slice av x.args.length cv⟩ HIx.out hr hob
        simp only [Act.put]
        have HT6 := hid hR
        clear hR c2 dd2 g0 g1 g2 g3
        go_wp2
        go_roundw
        case rel =>
          refine ⟨k + 1, .slice a9 (F.length + 1) c9, fs ++ [⟨x, .slice av x.args.length cv⟩], ls, by go_num, by omega, ?_⟩
          rw [firstUp_succ, laterUp_succ, Hfst.out, if_pos rfl, if_pos rfl, List.append_nil, ← HFe.out, ← HLe.out, ← Hxe.out]
          exact HT6.out
        case measure => simp [intOf]; omega
      | false =>
        by_cases hcut : (k : Int) < cut
        · have Hfst : Hid (P.isFirst cut k = true) := hid (by rw [Hdef.out, decide_eq_true hcut, Bool.or_true])
          have hXo : ∀ b, (Value.slice af F.length cf).ownBlock = some b → w4.heap.size ≤ b := fun b hb => (World.ownsRow.lt HT.out.frow b hb).1
          have c2 := HBr.out.kc (X := fun q => (Value.slice af F.length cf).ownBlock = some q) (fun hb => by have h1 := hXo _ hb; have h2 := HBq.out.lt; omega) 2 rfl
          have dd2 := HT.out.blk.kc (X := fun q => (Value.slice af F.length cf).ownBlock = some q) (fun hb => by
            obtain ⟨c, hc⟩ := own_ty HT.out.frow hb
            exact Blk.ty_ne hc HT.out.blk (by decide) rfl) 2 rfl
          simp only [pcells, List.getElem_toArray, List.getElem_cons_zero, List.getElem_cons_succ] at c2 dd2
          have g0 : ∀ w1, Keep (fun q => (Value.slice af F.length cf).ownBlock = some q) wr w1 → w1.cell? (y.add (k * 4)) = some (.string x.kind) := fun w1 kk => kk.cellx e0 (by simp only [add_block]; exact fun hb => by have := hXo _ hb; omega)
          have g1 : ∀ w1, Keep (fun q => (Value.slice af F.length cf).ownBlock = some q) wr w1 → w1.cell? ⟨(y.add (k * 4)).block, (y.add (k * 4)).off + 1, none⟩ = some (.int .i64 x.x) := fun w1 kk => kk.cellx e1 (by simp only [add_block]; exact fun hb => by have := hXo _ hb; omega)
          have g2 : ∀ w1, Keep (fun q => (Value.slice af F.length cf).ownBlock = some q) wr w1 → w1.cell? ⟨(y.add (k * 4)).block, (y.add (k * 4)).off + 2, none⟩ = some (.int .i64 x.y) := fun w1 kk => kk.cellx e2 (by simp only [add_block]; exact fun hb => by have := hXo _ hb; omega)
          have g3 : ∀ w1, Keep (fun q => (Value.slice af F.length cf).ownBlock = some q) wr w1 → w1.cell? ⟨(y.add (k * 4)).block, (y.add (k * 4)).off + 3, none⟩ = some (.slice av x.args.length cv) := fun w1 kk => kk.cellx e3 (by simp only [add_block]; exact fun hb => by have := hXo _ hb; omega)
          have hb2 := HBr.out.av 2 rfl
          simp only [pcells, List.getElem_toArray, List.getElem_cons_zero, List.getElem_cons_succ] at hb2
          have Hbs : Hid (w4.heap.size ≤ wr.heap.size) := hid HT.out.ext.size
          clear hXo hI hyb hq
          go_wp2
          clear hb2 e0 e1 e2 e3
          refine wp_flowT (fun q => (Value.slice af F.length cf).ownBlock = some q) (by kernel_rfl) (by kernel_rfl) ?_
          repeat (apply FlowT.d; (intro w1 hk; unfold does; go_simp; (try go_ints); (first | exact DetR.mk | (simp only [↓IntWalk.iteOmega, Oper.doesUpon_value]; exact DetR.mk) | (simp only [↓IntWalk.iteOmega]; go_simp; (try go_ints); exact DetR.mk))); simp only [Act.put, List.setIfInBounds_toArray, List.set_cons_zero, List.set_cons_succ])
          refine FlowT.s (fun v' w' => ∃ q, v' = .slice (some ⟨q, 0, none⟩) 1 1 ∧ Blk w' q #[.string x.kind, .int .i64 x.x, .int .i64 x.y, .slice av x.args.length cv] 65 ∧ Ext wr w') 7 rfl (by kernel_rfl) (fun _ _ _ ⟨q, h1, h2, h3⟩ he => ⟨q, h1, h2.ext he, h3.trans he⟩) (fun w5 hC hk => ?_) ?_
          · unfold does
            go_simp
            exact ⟨hk.alloc _, _, rfl, Blk.new _ _ _, hC.alloc _⟩
          rintro _ ⟨_, q3, rfl, _, _⟩
          simp only [Act.put, List.setIfInBounds_toArray, List.set_cons_zero, List.set_cons_succ]
          refine FlowT.s (fun v' w' => (∃ a c, v' = .slice a (F.length + 1) c) ∧ w'.ownsRow w4.heap.size 65 4 v' (F.length + 1) (fs.flatMap S2.cells ++ S2.cells ⟨x, .slice av x.args.length cv⟩) ∧ ∀ b, v'.ownBlock = some b → (Value.slice af F.length cf).ownBlock = some b ∨ wr.heap.size ≤ b) 8 rfl (by kernel_rfl) (fun _ _ _ ⟨h1, h2, h3⟩ he => ⟨h1, own_ext h2 he, h3⟩) (fun w5 hC hk => ?_) ?_
          · obtain ⟨q', e, hg, hE⟩ := hC
            obtain rfl : q3 = q' := by simpa using e
            exact does_append_el w4.heap.size (Nat.le_trans Hbs.out hE.size) 24 65 (.agg #[.string ⟨#[]⟩, .int .i64 0, .int .i64 0, .slice none 0 0]) 4 56 Tryz.underlying24 stmt_info rfl (by omega) (by omega) rfl _ _ rfl _ _ _ rfl (own_ext HT.out.frow hE) q3 (S2.cells ⟨x, .slice av x.args.length cv⟩) rfl (by simp [S2.cells, Value.oneCell']) rfl hg (by omega) fun v' w' h1 h2 h3 => ⟨hk.trans h2, row_form h1, h1, fun b hb => by
              rcases h3 with k | k
              · exact .inl (k ▸ hb)
              · rw [k] at hb
                obtain rfl := Option.some.inj hb
                exact .inr hE.size⟩
          rintro _ ⟨_, ⟨a9, c9, rfl⟩, _, _⟩
          simp only [Act.put, List.setIfInBounds_toArray, List.set_cons_zero, List.set_cons_succ]
          repeat (apply FlowT.d; (intro w1 hk; unfold does; go_simp; (try go_ints); (first | exact DetR.mk | (simp only [↓IntWalk.iteOmega, Oper.doesUpon_value]; exact DetR.mk) | (simp only [↓IntWalk.iteOmega]; go_simp; (try go_ints); exact DetR.mk))); simp only [Act.put, List.setIfInBounds_toArray, List.set_cons_zero, List.set_cons_succ])
          refine FlowT.last (fun _ w' => SplitRows w4 w' w4.heap.size w4.heap.size (.slice b1 P.vars.length d1) (.slice b2 P.funs.length d2) (.slice a9 (F.length + 1) c9) (.slice al L.length cl) (F ++ [x]) L (fs ++ [⟨x, .slice av x.args.length cv⟩]) ls) 10 rfl (by kernel_rfl) (by kernel_rfl) (fun w5 hC hk => ?_) (fun _ w6 hR => ?_)
          · obtain ⟨_, hr, hob⟩ := hC
            have q8 := dd2 w5 hk
            have f8 := (HT.out.blk.keep hk fun hb => by
              obtain ⟨c, hc⟩ := own_ty HT.out.frow hb
              exact Blk.ty_ne hc HT.out.blk (by decide) rfl).free 2
            unfold does
            go_simp
            exact HT.out.first (Nat.le_refl _) (Nat.le_refl _) hk ⟨x, .slice av x.args.length cv⟩ HIx.out hr hob
          simp only [Act.put]
          have HT6 := hid hR
          clear hR c2 dd2 g0 g1 g2 g3
          go_wp2
          go_roundw
          case rel =>
            refine ⟨k + 1, .slice a9 (F.length + 1) c9, fs ++ [⟨x, .slice av x.args.length cv⟩], ls, by go_num, by omega, ?_⟩
            rw [firstUp_succ, laterUp_succ, Hfst.out, if_pos rfl, if_pos rfl, List.append_nil, ← HFe.out, ← HLe.out, ← Hxe.out]
            exact HT6.out
          case measure => simp [intOf]; omega
        · have Hfst : Hid (P.isFirst cut k = false) := hid (by rw [Hdef.out, show x.isK kNew = false from hkn, decide_eq_false hcut]; rfl)
          have hb2 := HBr.out.av 2 rfl
          simp only [pcells, List.getElem_toArray, List.getElem_cons_zero, List.getElem_cons_succ] at hb2
          have hxa := (Ext.refl wr).alloc (.cells #[.string x.kind, .int .i64 x.x, .int .i64 x.y, .slice av x.args.length cv] 65)
          have HTa := hid (HT.out.more hxa)
          have Hbs : Hid (w4.heap.size ≤ (wr.alloc (.cells #[.string x.kind, .int .i64 x.x, .int .i64 x.y, .slice av x.args.length cv] 65)).heap.size) := hid (Nat.le_trans HT.out.ext.size hxa.size)
          clear hI hyb hq hxa
          go_wp2_with (at_builtin; refine wpList_append_el w4.heap.size Hbs.out 24 65 (.agg #[.string ⟨#[]⟩, .int .i64 0, .int .i64 0, .slice none 0 0]) 4 56 Tryz.underlying24 stmt_info rfl (by omega) (by omega) rfl _ _ rfl (.slice al L.length cl) L.length (ls.flatMap S2.cells) rfl HTa.out.lrow wr.heap.size (S2.cells ⟨x, .slice av x.args.length cv⟩) rfl (by simp [S2.cells, Value.oneCell']) rfl (Blk.new _ _ _) (by omega) ?_; intro v' w' h1 h2 h4; obtain ⟨a', c', rfl⟩ := row_form h1; have hT6 := hid (HTa.out.later (Nat.le_refl _) h2 ⟨x, .slice av x.args.length cv⟩ HIx.out h1 (fun b hb => by rcases h4 with k | k; (exact .inl (k ▸ hb)); (rw [k] at hb; obtain rfl := Option.some.inj hb; exact .inr (Nat.le_refl _)))); clear h1 h2 h4)
          go_roundw
          case rel =>
            refine ⟨k + 1, .slice af F.length cf, fs, ls ++ [⟨x, .slice av x.args.length cv⟩], by go_num, by omega, ?_⟩
            rw [firstUp_succ, laterUp_succ, Hfst.out, if_neg (by decide), if_neg (by decide), List.append_nil, ← HFe.out, ← HLe.out, ← Hxe.out]
            exact hT6.out
          case measure => simp [intOf]; omega
    · obtain rfl : k = P.stmts.length := by omega
      have hFm := firstUp_mem (cut := cut) (Nat.le_refl P.stmts.length)
      have hLm := laterUp_mem (cut := cut) (Nat.le_refl P.stmts.length)
      obtain ⟨F, hF⟩ : ∃ F, F = P.firstUp cut P.stmts.length := ⟨_, rfl⟩
      obtain ⟨L, hL⟩ : ∃ L, L = P.laterUp cut P.stmts.length := ⟨_, rfl⟩
      rw [← hF] at HT hul hFm
      rw [← hL] at HT hul hLm
      rw [← hL]
      have HFm := hid hFm
      have HLm := hid hLm
      -- the chain of programs
      have hwJ : ∀ j, j ≤ L.length → (P.atJ F L j).Well := fun j hj => well_sub (fun x hx => by
        rcases List.mem_append.1 hx with hx | hx
        · exact hFm x hx
        · exact (hLm x (List.mem_of_mem_take hx)).1) (by rw [List.length_append, List.length_take]; omega) Hw.out
      obtain ⟨m, S, hLS⟩ := least_exists (hwJ L.length (Nat.le_refl _))
      have HCh := hid (chain_of (fun x hx => (hLm x hx).2) hwJ hLS)
      have HLS := hid hLS
      have HSm0 : Hid (∀ j, j ≤ L.length → (P.atJ F L j).Small) := hid fun j hj => small_sub (fun x hx => by
        rcases List.mem_append.1 hx with hx | hx
        · exact hFm x hx
        · exact (hLm x (List.mem_of_mem_take hx)).1) (by rw [List.length_append, List.length_take]; omega) HSm.out
      have hfl : fs.length = F.length := by rw [← HT.out.fe, List.length_map]
      have hll : ls.length = L.length := by rw [← HT.out.le, List.length_map]
      have HPF : Hid (ProgR wr wr.heap.size (.slice b1 P.vars.length d1) (.slice b2 P.funs.length d2) (.slice af F.length cf) (P.withS F)) := hid (by
        have h0 := (HPq.out.old (HT.out.ext.old _)).lift HT.out.ext.size
        refine ⟨h0.vars, h0.funs, StmtsR.own2 (base := w4.heap.size) (ss := fs) ?_ HT.out.fe fun x hx => (HT.out.args x (List.mem_append_left _ hx) |>.old (HT.out.ext.old _)).lift HT.out.ext.size⟩
        rw [hfl]
        exact HT.out.frow)
      have HQ2 := hid (ownprogram_own b1 b2 af d1 d2 cf (P.withS F) wr HPF.out (by have := HSm0.out 0 (Nat.zero_le _); rw [atJ_zero] at this; exact this))
      unfold pval at HQ2
      rw [show (P.withS F).vars.length = P.vars.length from rfl, show (P.withS F).funs.length = P.funs.length from rfl, show (P.withS F).stmts.length = F.length from rfl] at HQ2
      have c0 := HT.out.blk.av 0 rfl
      have c1' := HT.out.blk.av 1 rfl
      have c2' := HT.out.blk.av 2 rfl
      have hb2 := HBr.out.av 2 rfl
      simp only [pcells, List.getElem_toArray, List.getElem_cons_zero, List.getElem_cons_succ] at c0 c1' c2' hb2
      have Hsl := hid (And.intro hfl hll)
      have Hul := hid hul
      have hF25 : F.length ≤ 25 := by omega
      have hL25 : L.length ≤ 25 := by omega
      clear hF hL hFm hLm hwJ hLS hfl hll hul
      go_wp2_with fail
      refine HQ2.out.mono ?_
      intro e w15 hx
      obtain ⟨hx15, n1, o1, o2, o3, q1, q2, q3, fsW, ssW, rfl, hn1, hn2, hO⟩ := hx
      obtain ⟨W15, hW15⟩ : ∃ W15, W15 = w15.alloc (.cells #[.slice o1 P.vars.length q1, .slice o2 P.funs.length q2, .slice o3 F.length q3] 26) := ⟨_, rfl⟩
      have hxa : Ext w15 W15 := by rw [hW15]; exact (Ext.refl _).alloc _
      have HW15 := hid hW15
      have HXa := hid (hx15.trans hxa)
      have HBw : Hid (Blk W15 w15.heap.size #[.slice o1 P.vars.length q1, .slice o2 P.funs.length q2, .slice o3 F.length q3] 26) := hid (by rw [hW15]; exact Blk.new _ _ _)
      have HOw := hid (hO.ext hxa)
      have HTa := hid (HT.out.more (hx15.trans hxa))
      have Hn2 := hid (Nat.le_trans hn2 hxa.size)
      have Hn1 := hid hn1
      have Hw15 := hid hx15.size
      have Hsrc : Hid (Src W15 al L.length 4 (ls.flatMap S2.cells)) := hid (own_src HTa.out.lrow (s2_one ls fun x hx => by
        obtain ⟨a, c, h1, _⟩ := HT.out.args x (List.mem_append_right _ hx)
        exact ⟨a, _, c, h1⟩))
      have hfl2 : F.length + L.length ≤ 1000000 := by omega
      have h2w := HBw.out.av 2 rfl
      simp only [List.getElem_toArray, List.getElem_cons_zero, List.getElem_cons_succ] at h2w
      rw [HW15.out] at h2w
      clear HQ2 hx15 hn1 hn2 hO hxa hW15 c0 c1' c2' hb2
      go_wp2_with (at_builtin; rw [← HW15.out]; refine wpList_append_src n1 Hn2.out 24 65 (.agg #[.string ⟨#[]⟩, .int .i64 0, .int .i64 0, .slice none 0 0]) 4 56 Tryz.underlying24 stmt_info rfl (by omega) (by omega) rfl _ _ rfl (.slice o3 F.length q3) F.length (ssW.flatMap S2.cells) rfl HOw.out.stmts al L.length cl (ls.flatMap S2.cells) rfl Hsrc.out hfl2 ?_; intro v9 w9 ho9 hk9 hl9; obtain ⟨a9, c9, rfl⟩ := row_form ho9; have hb9 := HBw.out.keep hk9 (fun e => by obtain ⟨c, hc⟩ := own_ty HOw.out.stmts e; exact Blk.ty_ne hc HBw.out (by decide) rfl); have hX9 : Keep (fun q => q = w15.heap.size ∨ (Value.slice o3 F.length q3).ownBlock = some q) W15 (w9.setCell ⟨w15.heap.size, 2, none⟩ (.slice a9 (F.length + L.length) c9)) := (hk9.mono fun _ _ h => .inr h).set (.inl rfl) _; have hx16 := Keep.new HXa.out hX9 (fun q e => by rcases e with rfl | e; (exact Hw15.out); (exact Nat.le_trans Hn1.out (World.ownsRow.lt HOw.out.stmts q e).1)); have s1 := hb9.av 2 rfl; have t1 := hb9.free 2; have hx9 : Ext wr w9 := Keep.new HXa.out hk9 (fun q e => Nat.le_trans Hn1.out (World.ownsRow.lt HOw.out.stmts q e).1); have r0 := (HT.out.blk.ext hx9).av 0 rfl; have r1 := (HT.out.blk.ext hx9).av 1 rfl; have r2 := (HT.out.blk.ext hx9).av 2 rfl; have hlt4 := HT.out.blk.lt; have hne1 : w15.heap.size ≠ w4.heap.size := (by have := Hw15.out; omega); have hne2 : w4.heap.size ≠ w15.heap.size := (by have := Hw15.out; omega); simp only [List.getElem_toArray, List.getElem_cons_zero, List.getElem_cons_succ] at s1 r0 r1 r2; have HX16 := hid hx16; have HK9 := hid hX9; have Ho9 := hid ho9; have Hb9 := hid hb9; clear hb9 hx16 hX9 ho9 hk9 hl9 hx9 hlt4)
      obtain ⟨W16, hW16⟩ : ∃ W16, W16 = w9.setCell ⟨w15.heap.size, 2, none⟩ (.slice a9 (F.length + L.length) c9) := ⟨_, rfl⟩
      rw [← hW16] at HX16 HK9 ⊢
      have HBw16 : Hid (Blk W16 w15.heap.size #[.slice o1 P.vars.length q1, .slice o2 P.funs.length q2, .slice a9 (F.length + L.length) c9] 26) := hid (by rw [hW16]; exact Hb9.out.set 2 _)
      have HT16 := hid (HT.out.more HX16.out)
      have HPW16 : Hid (ProgR W16 W16.heap.size (.slice o1 P.vars.length q1) (.slice o2 P.funs.length q2) (.slice a9 (F.length + L.length) c9) (P.withS (F ++ L))) := hid (by
        have := OwnR.moreL HOw.out ls (w' := W16) (sv' := .slice a9 (F.length + L.length) c9) (fun x hx => ((HT.out.args x (List.mem_append_right _ hx)).old (HT16.out.ext.old _)).lift HT16.out.ext.size) (by
          rw [Hsl.out.2, hW16]
          exact row_keep Ho9.out ((Keep.refl (fun q => q = w15.heap.size) w9).set rfl _) fun b hb e => by
            have e' : b = w15.heap.size := e
            subst e'
            obtain ⟨c, hc⟩ := own_ty Ho9.out hb
            exact Blk.ty_ne hc Hb9.out (by decide) rfl) HK9.out fun q e => by
          rcases e with rfl | e
          · exact ⟨_, _, HBw.out, by decide, by decide, by decide⟩
          · obtain ⟨c, hc⟩ := own_ty HOw.out.stmts e
            exact ⟨_, _, hc, by decide, by decide, by decide⟩
        rw [HT.out.le] at this
        exact this)
      have HXw16 := hid (HX4.out.trans (HT16.out.ext))
      have HE16 := hid (HE.out.ext HXw16.out)
      have HN := hid (solvenew_yes b1 b2 af d1 d2 cf (P.withS F) S W16 W16.heap.size ad ⟨HE16.out, by
        have h0 := (HPF.out.old (HX16.out.old _)).lift HX16.out.size
        exact h0, Hz1.out, Hz2.out, by have := HCh.out.well 0 (Nat.zero_le _); rw [atJ_zero] at this; exact this⟩ (Nat.le_refl _) (by have := HSm0.out 0 (Nat.zero_le _); rw [atJ_zero] at this; exact this) (by have := HCh.out.good 0 (Nat.zero_le _); rw [atJ_zero] at this; exact this) (by have := HCh.out.closed 0 (Nat.zero_le _); rw [atJ_zero] at this; exact this))
      unfold pval at HN
      rw [show (P.withS F).vars.length = P.vars.length from rfl, show (P.withS F).funs.length = P.funs.length from rfl, show (P.withS F).stmts.length = F.length from rfl] at HN
      refine HN.out.mono ?_
      intro e w18 hx
      obtain ⟨g, G, FF, vr, vh, rs, hs, rfl, hFF, hS18, hx18⟩ := hx
      have HFF := hid hFF
      have HS18 := hid (show SolvAt w18 G FF g ad (P.atJ F L 0) vr rs vh hs (SV.start (P.withS F)) by rw [atJ_zero]; exact hS18)
      have Hx18 := hid hx18
      have HO18 : Hid (SolvOk (P.atJ F L 0) S (SV.start (P.withS F)) ∧ (SV.start (P.withS F)).rules = (P.atJ F L 0).rulesV) := hid (by
        obtain ⟨k1, k2, _⟩ := start_ok (HCh.out.good 0 (Nat.zero_le _)) (HCh.out.closed 0 (Nat.zero_le _))
        rw [atJ_zero] at k1 k2 ⊢
        exact ⟨k1, k2⟩)
      generalize hs0 : SV.start (P.withS F) = s0 at *
      have HSt := hid (solvestep_any (P.atJ F L 0) S s0 at_ w18 G FF g ad HS18.out HO18.out.1 (HCh.out.good 0 (Nat.zero_le _)) (HCh.out.closed 0 (Nat.zero_le _)))
      have HOk1 := hid ((HO18.out.1.step (HCh.out.good 0 (Nat.zero_le _)) (HCh.out.closed 0 (Nat.zero_le _)) at_))
      clear HN hFF hS18 hx18 r0 r1 r2 hW16 hs0 hne1 hne2
      go_wp2_with fail
      refine HSt.out.mono ?_
      intro e w20 hx
      obtain ⟨rfl, hS20, hK20⟩ := hx
      have HS20 := hid hS20
      have Hx20 : Hid (Ext W16 w20) := hid (Keep.new Hx18.out hK20 fun b hb => Nat.le_of_not_lt fun h => hb (HFF.out b h))
      have HO20 : Hid (SolvOk (P.atJ F L 0) S (s0.step (P.atJ F L 0) at_).1 ∧ (s0.step (P.atJ F L 0) at_).1.rules = (P.atJ F L 0).rulesV) := hid ⟨HOk1.out.1, HOk1.out.2.2.1.trans HO18.out.2⟩
      generalize (s0.step (P.atJ F L 0) at_).1 = s1 at *
      clear HSt hS20 hK20 HOk1
      go_wp2
      go_loopw [15] (fun t15 wr => ∃ (j : Nat) (s : SV) (G' F' : Nat → Prop) (vr' : Value) (rs' : List R2), t15 = .int .i64 (j : Int) ∧ j ≤ L.length ∧ (∀ b, b < W16.heap.size → F' b) ∧ SolvAt wr G' F' g ad (P.atJ F L j) vr' rs' vh hs s ∧ SolvOk (P.atJ F L j) S s ∧ s.rules = (P.atJ F L j).rulesV ∧ Ext W16 wr) (fun t15 _ => L.length - (intOf t15).toNat)
      case atStart => exact ⟨0, s1, G, FF, vr, rs, rfl, Nat.zero_le _, HFF.out, HS20.out, HO20.out.1, HO20.out.2, Hx20.out⟩
      case round =>
        clear HS18 HO18 HS20 HO20 Hx18 Hx20 HFF HBr HPq HBq
        obtain ⟨j, s, G', F', vr', rs', rfl, hj, hF', hS, hO, hru, hx⟩ := hrel
        have HF' := hid hF'
        have HSj := hid hS
        have HOj := hid hO
        have Hru := hid hru
        have Hxj := hid hx
        clear hF' hS hO hru hx
        by_cases hlt : j < L.length
        · have hlr := own_ext HT16.out.lrow Hxj.out
          obtain ⟨gl, cl', hge⟩ := own_some hlr (by omega)
          simp only [Value.slice.injEq] at hge
          obtain ⟨rfl, -, rfl⟩ := hge
          obtain ⟨x2, hx2⟩ : ∃ x2, ls[j]? = some x2 := ⟨_, List.getElem?_eq_getElem (by rw [Hsl.out.2]; exact hlt)⟩
          have hc : ∀ i v, x2.cells[i]? = some v → i < 4 → wr.cell? ⟨gl, j * 4 + i, none⟩ = some v := fun i v hv hi => own_get hlr _ ((fm_get S2.cells 4 S2.cells_len ls j i x2 hx2 hi).trans hv)
          have hIx := HT16.out.args x2 (List.mem_append_right _ (List.mem_of_getElem? hx2))
          obtain ⟨av, cv, hav, -⟩ := id hIx
          have hLj : L[j]? = some x2.s := by rw [← HT16.out.le, List.getElem?_map, hx2]; rfl
          obtain ⟨x, xv⟩ := x2
          simp only at hav hLj hIx hc
          subst hav
          have q0 := hc 0 _ rfl (by omega)
          have q1' := hc 1 _ rfl (by omega)
          have q2' := hc 2 _ rfl (by omega)
          have q3' := hc 3 _ rfl (by omega)
          simp only [Nat.add_zero] at q0
          have hLx := HLm.out x (List.mem_of_getElem? hLj)
          have hm := hLx.2
          have hal := (HSm.out.ss x hLx.1).2
          have e := atJ_succ (P := P) (fs := F) hLj
          have hw' := HCh.out.well (j + 1) hlt
          have hg' := HCh.out.good (j + 1) hlt
          have hc' := HCh.out.closed (j + 1) hlt
          rw [e] at hw' hg' hc'
          have HAd := hid (solveadd_yes (P.atJ F L j) S s x av cv wr G' F' g ad HSj.out HOj.out hm hw' hg' hc' (HSm0.out j hj) hal Hru.out ((hIx.old ((HT16.out.ext.trans Hxj.out).old _)).lift (HT16.out.ext.trans Hxj.out).size))
          have hrm : ((P.atJ F L j).plus x).ruleV (P.atJ F L j).stmts.length x ∈ ((P.atJ F L j).plus x).rulesV := by rw [rulesV_plus hm]; exact List.mem_append_right _ (List.mem_singleton.2 rfl)
          have h80 : s.rules.length < 80 := by
            rw [Hru.out, show (P.atJ F L j).rulesV.length = (P.atJ F L j).stmts.length from (P.atJ F L j).rulesUp_len _]
            show (F ++ L.take j).length < 80
            rw [List.length_append, List.length_take]
            omega
          have hOk2 := (ok_plus hm HOj.out).add hg' hc' hrm h80
          have hru2 : (s.add ((P.atJ F L j).plus x) (((P.atJ F L j).plus x).ruleV (P.atJ F L j).stmts.length x)).rules = ((P.atJ F L j).plus x).rulesV := by
            rw [((ok_plus hm HOj.out).full.added hg' hc' hrm).2.2, Hru.out, rulesV_plus hm]
          obtain ⟨s2, hs2⟩ : ∃ s2, s2 = s.add ((P.atJ F L j).plus x) (((P.atJ F L j).plus x).ruleV (P.atJ F L j).stmts.length x) := ⟨_, rfl⟩
          rw [← hs2] at HAd hOk2 hru2
          rw [← e] at HAd hOk2 hru2
          have HOk2 := hid hOk2
          have Hru2 := hid hru2
          have hal2 : (x.args.length : Int) ≤ 9223372036854775807 := by omega
          unfold sval at HAd
          clear hlr hx2 hc hIx hLj hLx hm e hw' hg' hc' hrm h80 hOk2 hru2 hs2
          by_cases hj1 : (j : Int) = 1
          · have hjb : ((j : Int) == 1) = true := by simpa using hj1
            clear hj1
            go_wp2_with fail
            refine HAd.out.mono ?_
            intro z w22 hx
            obtain ⟨rfl, ⟨G2, F2, vr2, rs2, hF2, hS22⟩, hK22⟩ := hx
            have HF2 := hid hF2
            have Hx22 : Hid (Ext W16 w22) := hid (Keep.new Hxj.out hK22 fun b hb => Nat.le_of_not_lt fun h => hb (HF'.out b h))
            have HSt2 := hid (solvestep_any (P.atJ F L (j + 1)) S s2 at_ w22 G2 F2 g ad hS22 HOk2.out (HCh.out.good _ hlt) (HCh.out.closed _ hlt))
            have HOk3 := hid (HOk2.out.step (HCh.out.good _ hlt) (HCh.out.closed _ hlt) at_)
            clear HAd hF2 hS22 hK22 q0 q1' q2' q3'
            go_wp2_with fail
            refine HSt2.out.mono ?_
            intro z w23 hx
            obtain ⟨rfl, hS23, hK23⟩ := hx
            have HS23 := hid hS23
            have Hx23 : Hid (Ext W16 w23) := hid (Keep.new Hx22.out hK23 fun b hb => Nat.le_of_not_lt fun h => hb (HF2.out b (HF'.out b h)))
            clear HSt2 hS23 hK23
            go_wp2
            go_roundw
            case rel => exact ⟨j + 1, _, G2, F2, vr2, rs2, by go_num, by omega, fun b hb => HF2.out b (HF'.out b hb), HS23.out, HOk3.out.1, HOk3.out.2.2.1.trans Hru2.out, Hx23.out⟩
            case measure => simp [intOf]; omega
          · have hjb : ((j : Int) == 1) = false := by simpa using hj1
            clear hj1
            go_wp2_with fail
            refine HAd.out.mono ?_
            intro z w22 hx
            obtain ⟨rfl, ⟨G2, F2, vr2, rs2, hF2, hS22⟩, hK22⟩ := hx
            have HF2 := hid hF2
            have HS22 := hid hS22
            have Hx22 : Hid (Ext W16 w22) := hid (Keep.new Hxj.out hK22 fun b hb => Nat.le_of_not_lt fun h => hb (HF'.out b h))
            clear HAd hF2 hS22 hK22 q0 q1' q2' q3'
            go_wp2
            go_roundw
            case rel => exact ⟨j + 1, s2, G2, F2, vr2, rs2, by go_num, by omega, fun b hb => HF2.out b (HF'.out b hb), HS22.out, HOk2.out, Hru2.out, Hx22.out⟩
            case measure => simp [intOf]; omega
        · obtain rfl : j = L.length := by omega
          have Hwq := hid (HCh.out.well _ (Nat.le_refl _))
          have HGq := hid (HCh.out.good _ (Nat.le_refl _))
          have HCq := hid (HCh.out.closed _ (Nat.le_refl _))
          have HRun := hid (solverun_any (P.atJ F L L.length) S s wr G' F' g ad HSj.out HOj.out HGq.out HCq.out)
          obtain ⟨r1, r2, r3, r4, r5, r6, r7⟩ := run_end HLS.out Hwq.out HOj.out Hru.out
          obtain ⟨T, hT⟩ : ∃ T, T = (s.step (P.atJ F L L.length) 9223372036854775807).1 := ⟨_, rfl⟩
          rw [← hT] at HRun r1 r2 r3 r7
          have HR := hid (And.intro r1 (And.intro r2 (And.intro r3 r7)))
          clear r1 r2 r3 r4 r5 r6 r7 hT
          go_wp2_with fail
          refine HRun.out.mono ?_
          intro e w28 hx
          obtain ⟨rfl, hS28, hK28⟩ := hx
          have HS28 := hid hS28
          have Hx28 : Hid (Ext W16 w28) := hid (Keep.new Hxj.out hK28 fun b hb => Nat.le_of_not_lt fun h => hb (HF'.out b h))
          have HXw28 := hid (HXw16.out.trans Hx28.out)
          have HPq28 : Hid (PW w28 w28.heap.size ad o1 o2 a9 q1 q2 c9 (P.atJ F L L.length)) := hid (by
            rw [atJ_all]
            have hp := (HPW16.out.old (Hx28.out.old _)).lift Hx28.out.size
            have hw := Hwq.out
            rw [atJ_all] at hw
            exact ⟨HE.out.ext HXw28.out, ⟨hp.vars, hp.funs, by rw [show (P.withS (F ++ L)).stmts.length = F.length + L.length from List.length_append]; exact hp.stmts⟩, Hz1.out, Hz2.out, hw⟩)
          have hlq : (P.atJ F L L.length).stmts.length = F.length + L.length := by rw [atJ_all]; exact List.length_append
          have HLq := hid (fixleast_ok o1 o2 a9 q1 q2 c9 (P.atJ F L L.length) w28 ad HPq28.out (HS.out.ext HXw28.out) m S HLS.out)
          have hm12 := HLS.out.few Hwq.out
          have HSl := hid HGq.out.2.1
          rw [← HSl.out] at HLq
          have hsl120 : S.length ≤ 120 := by rw [HSl.out]; exact Hwq.out.nodes.1
          unfold pval at HLq
          rw [hlq, show (P.atJ F L L.length).vars.length = P.vars.length from rfl, show (P.atJ F L L.length).funs.length = P.funs.length from rfl] at HLq
          have t0 := (HBw16.out.ext Hx28.out).av 0 rfl
          have t1' := (HBw16.out.ext Hx28.out).av 1 rfl
          have t2' := (HBw16.out.ext Hx28.out).av 2 rfl
          simp only [List.getElem_toArray, List.getElem_cons_zero, List.getElem_cons_succ] at t0 t1' t2'
          clear HRun hS28 hK28
          go_wp2_with fail
          refine HLq.out.mono ?_
          intro e w29 hx
          obtain ⟨ah, ch, rfl, hs29, hx29⟩ := hx
          have Hs29 := hid hs29
          have hhl := hs29.len
          have HS29 := hid (HS28.out.ext hx29)
          have Hx29 := hid (Hx28.out.trans hx29)
          have HXw29 := hid (HXw28.out.trans hx29)
          have HPq29 := hid (HPq28.out.ext hx29)
          have Hsz := hid hx29.size
          have HAd1 := fun w1 (x : Ext w29 w1) => hid (show Calls Tryz.prog 30 #[.pointer (some ⟨g, 0, none⟩), .agg #[.string ⟨#[110, 101, 119]⟩, .int .i64 0, .int .i64 0, .slice none 0 0]] w1 (fun e w' => e = .returned (evOf ad 4) ∧ Ext w1 w') from solveadd_new ⟨⟨#[110, 101, 119]⟩, 0, 0, []⟩ none 0 w1 g ad (by decide +kernel) (HE.out.ext (HXw29.out.trans x)))
          have hni : ∀ w1 : World, IntsR w1 w1.heap.size (.slice none 0 0) [] := fun w1 => ⟨none, 0, rfl, Nat.le_refl _, by decide, fun h => absurd h (by decide), fun y hy => by cases hy⟩
          have h80q : (P.atJ F L L.length).stmts.length + 1 ≤ 80 := by rw [hlq]; omega
          have HAd2 := fun w1 (x : Ext w29 w1) => hid (show Calls Tryz.prog 30 #[.pointer (some ⟨g, 0, none⟩), .agg #[.string ⟨#[]⟩, .int .i64 0, .int .i64 0, .slice none 0 0]] w1 (fun e w' => e = .returned (evOf ad 4) ∧ Ext w1 w') from by
            have := solveadd_no (P.atJ F L L.length) T ⟨⟨#[]⟩, 0, 0, []⟩ none 0 w1 G' F' g ad (HS29.out.ext x) (by decide +kernel) (by rw [stmtErr_kind]; decide) h80q (HSm0.out _ (Nat.le_refl _)) (by decide) (hni w1)
            rw [stmtErr_kind] at this
            exact this)
          have HAd3 := fun w1 (x : Ext w29 w1) => hid (show Calls Tryz.prog 30 #[.pointer (some ⟨g, 0, none⟩), .agg #[.string ⟨#[99, 111, 112, 121]⟩, .int .i64 (-1), .int .i64 0, .slice none 0 0]] w1 (fun e w' => e = .returned (evOf ad 2) ∧ Ext w1 w') from by
            have := solveadd_no (P.atJ F L L.length) T ⟨⟨#[99, 111, 112, 121]⟩, -1, 0, []⟩ none 0 w1 G' F' g ad (HS29.out.ext x) (by decide +kernel) (by rw [stmtErr_low]; decide) h80q (HSm0.out _ (Nat.le_refl _)) (by decide) (hni w1)
            rw [stmtErr_low] at this
            exact this)
          have HAe := fun w1 (x : Ext w29 w1) => hid (show Calls Tryz.prog 31 #[.agg #[.slice o1 P.vars.length q1, .slice o2 P.funs.length q2, .slice a9 (F.length + L.length) c9], .agg #[.string ⟨#[99, 111, 112, 121]⟩, .int .i64 (-1), .int .i64 0, .slice none 0 0]] w1 (fun e w' => e = .returned (.int .i64 2) ∧ Ext w1 w') from by
            have := adderror_any o1 o2 a9 q1 q2 c9 (P.atJ F L L.length) ⟨⟨#[99, 111, 112, 121]⟩, -1, 0, []⟩ none 0 w1 ad ((HPq29.out.ext x).lift (Nat.le_trans Hsz.out x.size)) (HSm0.out _ (Nat.le_refl _)) (by rw [stmtErr_low]; decide) h80q (hni w1)
            rw [stmtErr_low] at this
            unfold pval at this
            rw [hlq] at this
            exact this)
          have HCo := fun w1 (c : Nat) (h0 : c ≠ 0) (hc : c ≤ 11) (x : Ext w29 w1) => hid (coded2_any w1 (evOf ad c) (c : Int) (code_of w1 ad (HAA.out.ext (HXw29.out.trans x)) c h0 hc))
          have u0 := (HBw16.out.ext Hx29.out).kc (X := fun _ => False) (fun e => e) 0 rfl
          have u1 := (HBw16.out.ext Hx29.out).kc (X := fun _ => False) (fun e => e) 1 rfl
          have u2 := (HBw16.out.ext Hx29.out).kc (X := fun _ => False) (fun e => e) 2 rfl
          simp only [List.getElem_toArray, List.getElem_cons_zero, List.getElem_cons_succ] at u0 u1 u2
          unfold evOf at HAd1 HAd2 HAd3 HCo
          clear HLq hs29 hx29 t0 t1' t2'
          go_wp2
          refine wp_flowT (fun _ => False) (by kernel_rfl) (by kernel_rfl) ?_
          repeat (apply FlowT.d; (intro w1 hk; unfold does; go_simp; (try go_ints); (first | exact DetR.mk | (simp only [↓IntWalk.iteOmega, Oper.doesUpon_value]; exact DetR.mk) | (simp only [↓IntWalk.iteOmega]; go_simp; (try go_ints); exact DetR.mk))); simp only [Act.put, List.setIfInBounds_toArray, List.set_cons_zero, List.set_cons_succ])
          apply FlowT.d
          · intro w1 hk
            unfold does
            go_simp
            exact CallR.det ((HAd1 w1 hk.ext).out)
          simp only [Act.put, List.setIfInBounds_toArray, List.set_cons_zero, List.set_cons_succ]
          apply FlowT.d
          · intro w1 hk
            unfold does
            go_simp
            exact CallR.det ((HCo w1 4 (by decide) (by decide) hk.ext).out)
          simp only [Act.put, List.setIfInBounds_toArray, List.set_cons_zero, List.set_cons_succ]
          repeat (apply FlowT.d; (intro w1 hk; unfold does; go_simp; (try go_ints); (first | exact DetR.mk | (simp only [↓IntWalk.iteOmega, Oper.doesUpon_value]; exact DetR.mk) | (simp only [↓IntWalk.iteOmega]; go_simp; (try go_ints); exact DetR.mk))); simp only [Act.put, List.setIfInBounds_toArray, List.set_cons_zero, List.set_cons_succ])
          apply FlowT.d
          · intro w1 hk
            unfold does
            go_simp
            exact CallR.det ((HAd2 w1 hk.ext).out)
          simp only [Act.put, List.setIfInBounds_toArray, List.set_cons_zero, List.set_cons_succ]
          apply FlowT.d
          · intro w1 hk
            unfold does
            go_simp
            exact CallR.det ((HCo w1 4 (by decide) (by decide) hk.ext).out)
          simp only [Act.put, List.setIfInBounds_toArray, List.set_cons_zero, List.set_cons_succ]
          repeat (apply FlowT.d; (intro w1 hk; unfold does; go_simp; (try go_ints); (first | exact DetR.mk | (simp only [↓IntWalk.iteOmega, Oper.doesUpon_value]; exact DetR.mk) | (simp only [↓IntWalk.iteOmega]; go_simp; (try go_ints); exact DetR.mk))); simp only [Act.put, List.setIfInBounds_toArray, List.set_cons_zero, List.set_cons_succ])
          apply FlowT.d
          · intro w1 hk
            unfold does
            go_simp
            exact CallR.det ((HAd3 w1 hk.ext).out)
          simp only [Act.put, List.setIfInBounds_toArray, List.set_cons_zero, List.set_cons_succ]
          repeat (apply FlowT.d; (intro w1 hk; unfold does; go_simp; (try go_ints); (first | exact DetR.mk | (simp only [↓IntWalk.iteOmega, Oper.doesUpon_value]; exact DetR.mk) | (simp only [↓IntWalk.iteOmega]; go_simp; (try go_ints); exact DetR.mk))); simp only [Act.put, List.setIfInBounds_toArray, List.set_cons_zero, List.set_cons_succ])
          apply FlowT.d
          · intro w1 hk
            unfold does
            go_simp
            exact CallR.det ((HAe w1 hk.ext).out)
          simp only [Act.put, List.setIfInBounds_toArray, List.set_cons_zero, List.set_cons_succ]
          apply FlowT.d
          · intro w1 hk
            unfold does
            go_simp
            exact CallR.det ((HCo w1 2 (by decide) (by decide) hk.ext).out)
          simp only [Act.put, List.setIfInBounds_toArray, List.set_cons_zero, List.set_cons_succ]
          repeat (apply FlowT.d; (intro w1 hk; unfold does; go_simp; (try go_ints); (first | exact DetR.mk | (simp only [↓IntWalk.iteOmega, Oper.doesUpon_value]; exact DetR.mk) | (simp only [↓IntWalk.iteOmega]; go_simp; (try go_ints); exact DetR.mk))); simp only [Act.put, List.setIfInBounds_toArray, List.set_cons_zero, List.set_cons_succ])
          refine FlowT.fin fun w30 hx30 hk30 => ?_
          have HS30 := hid (HS29.out.ext hx30)
          have Hs30 := hid ((Hs29.out.ext hx30))
          have HXw30 := hid (HXw29.out.trans hx30)
          clear hx30 hk30 u0 u1 u2 HAd1 HAd2 HAd3 HAe HCo hni
          go_wp2
          go_loopw [18] (fun t18 wr => ∃ k : Nat, t18 = .int .i64 (k : Int) ∧ k ≤ S.length ∧ SolvAt wr G' F' g ad (P.atJ F L L.length) vr' rs' vh hs T ∧ Ext w30 wr) (fun t18 _ => S.length - (intOf t18).toNat)
          case atStart => exact ⟨0, rfl, Nat.zero_le _, HS30.out, Ext.refl _⟩
          case round =>
            clear HS30
            obtain ⟨k, rfl, hk, hS8, hx8⟩ := hrel
            have HS8 := hid hS8
            have Hx8 := hid hx8
            clear hS8 hx8
            by_cases hlt : k < S.length
            · obtain ⟨y, l, bl, cl2, hy, hl, hc, hI⟩ := (Hs30.out.ext Hx8.out).at hlt
              subst hy
              have hll := hI.len
              have hlg : S.getD k [] = l := by rw [List.getD_eq_getElem?_getD, hl]; rfl
              have hob : T.hasL (P.atJ F L L.length) (k : Int) = l := by
                unfold SV.hasL
                rw [if_neg (by have := HSl.out; omega), HR.out.2.2.2 k (by rw [← HSl.out]; exact hlt), hlg]
              have HHa := fun w1 (hS1 : SolvAt w1 G' F' g ad (P.atJ F L L.length) vr' rs' vh hs T) => hid (solvehas_any (P.atJ F L L.length) S T (k : Int) w1 G' F' g ad hS1 HR.out.1.full.core)
              rw [hob] at HHa
              have hsm : ∀ x ∈ l, x ≤ 126 := by rw [← hlg]; exact good_small HGq.out k
              have Hsmx := hid hsm
              have HI := hid hI
              have h6 : ∀ w1, Keep (fun _ => False) wr w1 → w1.cell? (y.add k) = some (.slice bl l.length cl2) := fun w1 x => x.ext.cellx hc
              clear hl hI hlg hob hsm hc
              go_wp2
              refine wp_flow (fun _ => False) (by kernel_rfl) (by kernel_rfl) ?_
              apply Flow.d 0 _ rfl (by simp) (by kernel_rfl)
              · intro w1 hk; unfold does; go_simp; (try go_ints); exact DetR.mk
              simp only [List.getElem_toArray, List.getElem_cons_zero, List.getElem_cons_succ, Act.put, List.setIfInBounds_toArray, List.set_cons_zero, List.set_cons_succ]
              apply Flow.d 1 _ rfl (by simp) (by kernel_rfl)
              · intro w1 hk; unfold does; go_simp; (try go_ints); exact DetR.mk
              simp only [List.getElem_toArray, List.getElem_cons_zero, List.getElem_cons_succ, Act.put, List.setIfInBounds_toArray, List.set_cons_zero, List.set_cons_succ]
              apply Flow.d 3 _ rfl (by simp) (by kernel_rfl)
              · intro w1 hk; unfold does; go_simp; (try go_ints); exact DetR.mk
              simp only [List.getElem_toArray, List.getElem_cons_zero, List.getElem_cons_succ, Act.put, List.setIfInBounds_toArray, List.set_cons_zero, List.set_cons_succ]
              apply Flow.d 4 _ rfl (by simp) (by kernel_rfl)
              · intro w1 hk; unfold does; go_simp; (try go_ints); exact DetR.mk
              simp only [List.getElem_toArray, List.getElem_cons_zero, List.getElem_cons_succ, Act.put, List.setIfInBounds_toArray, List.set_cons_zero, List.set_cons_succ]
              apply Flow.d 5 _ rfl (by simp) (by kernel_rfl)
              · intro w1 hk; unfold does; go_simp; (try go_ints); exact DetR.mk
              simp only [List.getElem_toArray, List.getElem_cons_zero, List.getElem_cons_succ, Act.put, List.setIfInBounds_toArray, List.set_cons_zero, List.set_cons_succ]
              apply Flow.d 6 _ rfl (by simp) (by kernel_rfl)
              · intro w1 hk; unfold does; go_simp; (try go_ints); exact DetR.mk
              simp only [List.getElem_toArray, List.getElem_cons_zero, List.getElem_cons_succ, Act.put, List.setIfInBounds_toArray, List.set_cons_zero, List.set_cons_succ]
              refine Flow.one 2 _ rfl (by kernel_rfl) (fun v' w' => (∃ a c, v' = .slice a l.length c) ∧ IntsR w' w'.heap.size v' l ∧ SolvAt w' G' F' g ad (P.atJ F L L.length) vr' rs' vh hs T ∧ Ext wr w') (fun _ _ _ ⟨h1, h2, h3, h4⟩ he => ⟨h1, (h2.old (he.old _)).lift he.size, h3.ext he, h4.trans he⟩) (fun w9 hC hk9 => ?_) ?_
              · unfold does
                go_simp
                refine CallR.act ((HHa w9 (HS8.out.ext hC)).out.mono ?_)
                rintro e w10 ⟨v, rfl, hr, hS10, hx10⟩
                exact ⟨v, rfl, hk9.trans (hx10.keep _), hr.form, IntsR.own hr (Nat.le_refl _), hS10, hC.trans hx10⟩
              rintro _ ⟨_, ⟨a8, c8, rfl⟩, _, _, _⟩
              simp only [List.getElem_toArray, List.getElem_cons_zero, List.getElem_cons_succ, Act.put, List.setIfInBounds_toArray, List.set_cons_zero, List.set_cons_succ]
              refine Flow.one 7 _ rfl (by kernel_rfl) (fun v' w' => v' = .bool true ∧ SolvAt w' G' F' g ad (P.atJ F L L.length) vr' rs' vh hs T ∧ Ext wr w') (fun _ _ _ ⟨h1, h3, h4⟩ he => ⟨h1, h3.ext he, h4.trans he⟩) (fun w9 hC hk9 => ?_) ?_
              · obtain ⟨_, hI8, hS9, hx9⟩ := hC
                have HSa := sameints_any a8 bl l.length l.length c8 cl2 l l w9 (IntsR.ints hI8 (getD_most (by decide) fun x hx => by have := Hsmx.out x hx; omega)) (IntsR.ints (HI.out.old (hx9.old _)) (getD_most (by decide) fun x hx => by have := Hsmx.out x hx; omega)) (by omega) (by omega)
                rw [decide_eq_true (rfl : l = l)] at HSa
                unfold does
                go_simp
                refine CallR.act (HSa.mono ?_)
                rintro e w10 ⟨rfl, hx10⟩
                exact ⟨_, rfl, hk9.trans (hx10.keep _), rfl, hS9.ext hx10, hx9.trans hx10⟩
              rintro _ ⟨_, rfl, _, _⟩
              simp only [List.getElem_toArray, List.getElem_cons_zero, List.getElem_cons_succ, Act.put, List.setIfInBounds_toArray, List.set_cons_zero, List.set_cons_succ]
              apply Flow.d 8 _ rfl (by simp) (by kernel_rfl)
              · intro w1 hk; unfold does; go_simp; (try go_ints); exact DetR.mk
              simp only [List.getElem_toArray, List.getElem_cons_zero, List.getElem_cons_succ, Act.put, List.setIfInBounds_toArray, List.set_cons_zero, List.set_cons_succ]
              refine Flow.fin (by kernel_rfl) fun w11 hC11 hk11 => ?_
              obtain ⟨_, hS11, hx11⟩ := hC11
              have HS11 := hid hS11
              have Hx11 := hid (Hx8.out.trans hx11)
              clear hS11 hx11 hk11 h6 HHa
              go_wp2
              go_roundw
              case rel => exact ⟨k + 1, by go_num, by omega, HS11.out, Hx11.out⟩
              case measure => simp [intOf]; omega
            · obtain rfl : k = S.length := by omega
              have HDo := hid (solvedone_any (P.atJ F L L.length) S T wr G' F' g ad HS8.out HR.out.1.full.core HGq.out)
              rw [HR.out.2.2.1, HR.out.2.1, decide_eq_true rfl] at HDo
              have Hlt : Hid (∀ b, b < w.heap.size → F' b) := hid fun b hb => HF'.out b (Nat.lt_of_lt_of_le hb HXw16.out.size)
              go_wp2_with fail
              refine HDo.out.mono ?_
              intro e w9 hx
              obtain ⟨rfl, hS9, hK9⟩ := hx
              have HX9 := hid (Keep.new (HXw30.out.trans Hx8.out) hK9 fun b hb => Nat.le_of_not_lt fun h => hb (Hlt.out b h))
              clear HDo hS9 hK9
              go_wp2
              go_ret
              exact ⟨rfl, HX9.out⟩
theorem solveaddslaw_any (a1 a2 a3 : Option Addr) (c1 c2 c3 : Nat) (P : PP) (cut at_ : Int) (w : World) (ad : Nat → Addr) (hE : ErrsP w ad) (hA : AllErrs w ad) (hS : ErrS w ad) (hP : ProgR w w.heap.size (.slice a1 P.vars.length c1) (.slice a2 P.funs.length c2) (.slice a3 P.stmts.length c3) P) :
    Calls Tryz.prog 6 #[pval a1 a2 a3 c1 c2 c3 P, .int .i64 cut, .int .i64 at_] w fun e w' => e = .returned (.bool true) ∧ Ext w w' := by
  by_cases hw : P.Well
  · exact solveaddslaw_yes a1 a2 a3 c1 c2 c3 P cut at_ w ad hE hA hS hP hw
  · exact solveaddslaw_no a1 a2 a3 c1 c2 c3 P cut at_ w ad hE hS hP hw
end Go.Proofs.YtdppgcbekhabnaaGreatDoor

