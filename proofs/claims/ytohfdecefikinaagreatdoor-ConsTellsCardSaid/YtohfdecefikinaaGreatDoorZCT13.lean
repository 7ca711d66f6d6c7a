/- Texts of one proof, put together: YT T3 T4 T2 YH. -/
import Derived.Test.YtohfdecefikinaaGreatDoorZCT05
import Derived.Test.YtohfdecefikinaaGreatDoorZCT10
import Derived.Test.YtohfdecefikinaaGreatDoorZCT11
import Derived.Test.YtohfdecefikinaaGreatDoorZCT12

/- Edges, plainly, as the document's answer finds them: pair by pair. -/
namespace Go.Proofs.YtohfdecefikinaaGreatDoor
set_option linter.unusedSimpArgs false
set_option linter.unusedVariables false
open Go Go.RowKit

/-- Does a call of this function take what a has to b? -/
def fEdge (f : PF) (r : RV) (a b : Int) : Bool := decide (f.params.length = r.args.length) && ((decide (a = f.ret) && decide (b = r.b)) || (List.range f.params.length).any fun i => decide (a = r.args.getD i 0) && decide (b = f.params.getD i 0))
/-- Does a rule take what a has to b? -/
def PP.isE (P : PP) (r : RV) (has : List (List Int)) (a b : Int) : Bool :=
  bif r.kind.toList == kCopy then decide (a = r.a) && decide (b = r.b) else
  bif r.kind.toList == kLoad then decide (b = r.b) && (decide (a < (P.nodesV : Int)) && decide (a ∈ has.getD r.a.toNat [])) else
  bif r.kind.toList == kStore then decide (a = r.a) && (decide (b < (P.nodesV : Int)) && decide (b ∈ has.getD r.b.toNat [])) else
  bif r.kind.toList == kCall then (List.range P.funs.length).any fun f => decide ((P.nodesV : Int) + f ∈ has.getD r.a.toNat []) && fEdge (P.funs.getD f ⟨⟨#[]⟩, [], 0⟩) r a b else false
theorem fEdge_iff (f : PF) (r : RV) (a b : Int) : fEdge f r a b = true ↔ (a, b) ∈ calledV f r := by
  unfold fEdge calledV
  by_cases hl : f.params.length = r.args.length
  · rw [decide_eq_true hl, Bool.true_and, if_pos hl, List.mem_cons, Bool.or_eq_true, Bool.and_eq_true, decide_eq_true_iff, decide_eq_true_iff, Prod.mk.injEq]
    refine or_congr Iff.rfl ?_
    rw [List.any_eq_true]
    constructor
    · rintro ⟨i, hi, h⟩
      have hi := List.mem_range.1 hi
      rw [Bool.and_eq_true, decide_eq_true_iff, decide_eq_true_iff] at h
      refine List.mem_iff_getElem?.2 ⟨i, List.getElem?_zip_eq_some.2 ⟨?_, ?_⟩⟩
      · rw [h.1, List.getD_eq_getElem?_getD, List.getElem?_eq_getElem (show i < r.args.length by omega)]; rfl
      · rw [h.2, List.getD_eq_getElem?_getD, List.getElem?_eq_getElem hi]; rfl
    · intro h
      obtain ⟨i, hi⟩ := List.mem_iff_getElem?.1 h
      obtain ⟨h1, h2⟩ := List.getElem?_zip_eq_some.1 hi
      have hil : i < f.params.length := by
        rcases Nat.lt_or_ge i f.params.length with g | g
        · exact g
        · rw [List.getElem?_eq_none g] at h2; cases h2
      refine ⟨i, List.mem_range.2 hil, ?_⟩
      rw [List.getD_eq_getElem?_getD, List.getD_eq_getElem?_getD, h1, h2]
      simp
  · rw [decide_eq_false hl, Bool.false_and, if_neg hl]
    simp
theorem isE_iff {P : PP} (r : RV) (has : List (List Int)) (a b : Int) : P.isE r has a b = true ↔ (a, b) ∈ P.redges r has := by
  unfold PP.isE PP.redges
  cases r.kind.toList == kCopy
  · cases r.kind.toList == kLoad
    · cases r.kind.toList == kStore
      · cases r.kind.toList == kCall
        · simp
        · simp only [cond_true, cond_false]
          rw [List.any_eq_true, List.mem_flatMap]
          constructor
          · rintro ⟨f, hf, h⟩
            have hf := List.mem_range.1 hf
            rw [Bool.and_eq_true, decide_eq_true_iff, fEdge_iff] at h
            refine ⟨_, h.1, ?_⟩
            unfold PP.callsOf
            have e : P.funV ((P.nodesV : Int) + f) = (f : Int) := by unfold PP.funV; rw [if_pos (by omega)]; omega
            rw [e, if_pos (by omega)]
            exact h.2
          · rintro ⟨o, ho, h⟩
            unfold PP.callsOf at h
            by_cases hF : 0 ≤ P.funV o
            · rw [if_pos hF] at h
              have hlt := funV_lt hF
              refine ⟨(P.funV o).toNat, List.mem_range.2 (by omega), ?_⟩
              rw [Bool.and_eq_true, decide_eq_true_iff, fEdge_iff]
              refine ⟨?_, h⟩
              have e : (P.nodesV : Int) + ((P.funV o).toNat : Nat) = o := by
                rw [Int.toNat_of_nonneg hF]
                unfold PP.funV at hF ⊢
                by_cases hc : 0 ≤ o - (P.nodesV : Int) ∧ o - (P.nodesV : Int) < P.funs.length
                · rw [if_pos hc]; omega
                · rw [if_neg hc] at hF; omega
              rw [e]
              exact ho
            · rw [if_neg hF] at h
              cases h
      · simp only [cond_true, cond_false]
        rw [List.mem_map]
        constructor
        · intro h
          simp only [Bool.and_eq_true, decide_eq_true_iff] at h
          refine ⟨b, ?_, by rw [h.1]⟩
          unfold PP.nodesOf
          exact List.mem_filter.2 ⟨h.2.2, by simp; exact h.2.1⟩
        · rintro ⟨o, ho, h⟩
          unfold PP.nodesOf at ho
          obtain ⟨h1, h2⟩ := List.mem_filter.1 ho
          simp only [Prod.mk.injEq] at h
          obtain ⟨rfl, rfl⟩ := h
          simp at h2
          exact Bool.and_eq_true_iff.2 ⟨decide_eq_true rfl, Bool.and_eq_true_iff.2 ⟨decide_eq_true h2, decide_eq_true h1⟩⟩
    · simp only [cond_true, cond_false]
      rw [List.mem_map]
      constructor
      · intro h
        simp only [Bool.and_eq_true, decide_eq_true_iff] at h
        refine ⟨a, ?_, by rw [h.1]⟩
        unfold PP.nodesOf
        exact List.mem_filter.2 ⟨h.2.2, by simp; exact h.2.1⟩
      · rintro ⟨o, ho, h⟩
        unfold PP.nodesOf at ho
        obtain ⟨h1, h2⟩ := List.mem_filter.1 ho
        simp only [Prod.mk.injEq] at h
        obtain ⟨rfl, rfl⟩ := h
        simp at h2
        exact Bool.and_eq_true_iff.2 ⟨decide_eq_true rfl, Bool.and_eq_true_iff.2 ⟨decide_eq_true h2, decide_eq_true h1⟩⟩
  · simp only [cond_true, List.mem_singleton, Prod.mk.injEq, Bool.and_eq_true, decide_eq_true_iff]
/-- The rules that make edges. -/
def PP.rulesE (P : PP) : List RV := P.rulesV.filter fun r => !(r.kind.toList == bBase.toList)
/-- Is there an edge? -/
def PP.edgeB (P : PP) (has : List (List Int)) (a b : Int) : Bool := decide (a ≠ b) && P.rulesE.any fun r => P.isE r has a b
theorem edgeB_iff {P : PP} {has : List (List Int)} {a b : Int} : P.edgeB has a b = true ↔ (a, b) ∈ P.edges0 has ∧ a ≠ b := by
  unfold PP.edgeB PP.rulesE PP.edges0
  rw [Bool.and_eq_true, decide_eq_true_iff, List.any_eq_true, List.mem_flatMap, and_comm]
  refine and_congr ⟨fun ⟨r, hr, h⟩ => ⟨r, (List.mem_filter.1 hr).1, (isE_iff r has a b).1 h⟩, fun ⟨r, hr, h⟩ => ⟨r, List.mem_filter.2 ⟨hr, ?_⟩, (isE_iff r has a b).2 h⟩⟩ Iff.rfl
  cases hb : r.kind.toList == bBase.toList with
  | false => rfl
  | true =>
    have e := eq_of_beq hb
    have hn : P.redges r has = [] := by
      have e2 := eq_of_beq bBase_list
      unfold PP.redges kCopy kLoad kStore kCall
      rw [e, e2]; rfl
    rw [hn] at h
    cases h
/-- The pairs of one node, and of all. -/
def PP.rowE (P : PP) (has : List (List Int)) (a n : Nat) : List (Int × Int) := ((List.range n).filter fun b : Nat => P.edgeB has (a : Int) (b : Int)).map fun b : Nat => ((a : Int), (b : Int))
def PP.refE (P : PP) (has : List (List Int)) (n : Nat) : List (Int × Int) := (List.range n).flatMap fun a => P.rowE has a P.nodesV
theorem mem_rowE {P : PP} {has : List (List Int)} {a n : Nat} {e : Int × Int} : e ∈ P.rowE has a n ↔ ∃ b : Nat, b < n ∧ e = ((a : Int), (b : Int)) ∧ P.edgeB has a b = true := by
  unfold PP.rowE
  rw [List.mem_map]
  constructor
  · rintro ⟨b, hb, rfl⟩
    obtain ⟨h1, h2⟩ := List.mem_filter.1 hb
    exact ⟨b, List.mem_range.1 h1, rfl, h2⟩
  · rintro ⟨b, hb, rfl, h⟩
    exact ⟨b, List.mem_filter.2 ⟨List.mem_range.2 hb, h⟩, rfl⟩
theorem rowE_srt (P : PP) (has : List (List Int)) (a n : Nat) : SrtP (P.rowE has a n) := by
  unfold PP.rowE SrtP
  rw [List.pairwise_map]
  refine List.Pairwise.imp (R := (· < ·)) (fun h => .inr ⟨rfl, by simp only; omega⟩) ?_
  exact List.Pairwise.sublist List.filter_sublist List.pairwise_lt_range
theorem refE_srt (P : PP) (has : List (List Int)) : ∀ n, SrtP (P.refE has n)
  | 0 => List.Pairwise.nil
  | n + 1 => by
    unfold PP.refE
    rw [List.range_succ, List.flatMap_append]
    refine List.pairwise_append.2 ⟨refE_srt P has n, by simpa using rowE_srt P has n P.nodesV, fun x hx y hy => ?_⟩
    obtain ⟨a, ha, hxa⟩ := List.mem_flatMap.1 hx
    obtain ⟨b, _, rfl, _⟩ := mem_rowE.1 hxa
    have hy' : y ∈ P.rowE has n P.nodesV := by simpa using hy
    obtain ⟨c, _, rfl, _⟩ := mem_rowE.1 hy'
    have := List.mem_range.1 ha
    exact .inl (by show (a : Int) < n; omega)
theorem refE_are {P : PP} (hw : P.Well) {has : List (List Int)} (hs : SetsOk P has) : EdgesAre P has (P.refE has P.nodesV) := by
  refine ⟨refE_srt P has _, fun e => ?_⟩
  obtain ⟨x, y⟩ := e
  unfold PP.refE
  rw [List.mem_flatMap]
  constructor
  · rintro ⟨a, _, h⟩
    obtain ⟨b, _, e, h2⟩ := mem_rowE.1 h
    simp only [Prod.mk.injEq] at e
    obtain ⟨rfl, rfl⟩ := e
    exact edgeB_iff.1 h2
  · rintro ⟨h, hne⟩
    obtain ⟨h1, h2, h3, h4⟩ := edges0_in hw hs _ h
    obtain ⟨a, rfl⟩ := Int.eq_ofNat_of_zero_le h1
    obtain ⟨b, rfl⟩ := Int.eq_ofNat_of_zero_le h3
    exact ⟨a, List.mem_range.2 (by simp only at h2; omega), mem_rowE.2 ⟨b, by simp only at h4; omega, rfl, edgeB_iff.2 ⟨h, hne⟩⟩⟩
end Go.Proofs.YtohfdecefikinaaGreatDoor


/- The reference: does a rule make an edge (IsEdge): copies, loads, stores. -/
namespace Go.Proofs.YtohfdecefikinaaGreatDoor
set_option linter.unusedSimpArgs false
set_option linter.unusedVariables false
open Go Go.RowKit

set_option maxRecDepth 100000 in
set_option maxHeartbeats 3200000 in
theorem risedge_copy (a1 a2 a3 : Option Addr) (c1 c2 c3 : Nat) (P : PP) (r : RV) (av hv : Value) (has : List (List Int)) (p q : Int) (w : World) (n0 : Nat) (h : ProgR w n0 (.slice a1 P.vars.length c1) (.slice a2 P.funs.length c2) (.slice a3 P.stmts.length c3) P) (hf1 : P.vars.length ≤ 1000) (hf3 : P.stmts.length ≤ 1000) (ha : IntsR w n0 av r.args) (hh : SetsR w n0 hv has) (hkd : (r.kind.toList == [99, 111, 112, 121]) = true) :
    Calls Tryz.prog 48 #[pval a1 a2 a3 c1 c2 c3 P, r.val av, hv, .int .i64 p, .int .i64 q] w fun e w' => e = .returned (.bool (P.isE r has p q)) ∧ Ext w w' := by
  obtain ⟨aa, ca, rfl, _⟩ := id ha
  obtain ⟨ah, ch, rfl⟩ := hh.form
  have hhl := hh.len
  have hal := ha.len
  obtain ⟨W1, hW1⟩ : ∃ W1, W1 = w.alloc (.cells (pcells a1 a2 a3 c1 c2 c3 P) 26) := ⟨_, rfl⟩
  have hx1 : Ext w W1 := by rw [hW1]; exact (Ext.refl _).alloc _
  obtain ⟨W, hW⟩ : ∃ W, W = W1.alloc (.cells #[.string r.kind, .int .i64 r.a, .int .i64 r.b, .int .i64 r.k, .slice aa r.args.length ca] 44) := ⟨_, rfl⟩
  have hx2 : Ext W1 W := by rw [hW]; exact (Ext.refl _).alloc _
  have s1 : W1.heap.size = w.heap.size + 1 := by rw [hW1, heap_size_alloc]
  have HX := hid (hx1.trans hx2)
  have HB0 : Hid (Blk W w.heap.size (pcells a1 a2 a3 c1 c2 c3 P) 26) := hid (by
    have : Blk W1 w.heap.size (pcells a1 a2 a3 c1 c2 c3 P) 26 := by rw [hW1]; exact Blk.new _ _ _
    exact this.ext hx2)
  have HB1 : Hid (Blk W (w.heap.size + 1) #[.string r.kind, .int .i64 r.a, .int .i64 r.b, .int .i64 r.k, .slice aa r.args.length ca] 44) := hid (by rw [← s1, hW]; exact Blk.new _ _ _)
  have HWe : Hid (W = (w.alloc (.cells #[.slice a1 P.vars.length c1, .slice a2 P.funs.length c2, .slice a3 P.stmts.length c3] 26)).alloc (.cells #[.string r.kind, .int .i64 r.a, .int .i64 r.b, .int .i64 r.k, .slice aa r.args.length ca] 44)) := hid (by rw [hW, hW1]; rfl)
  have HP := hid (h.ext HX.out)
  have HH := hid (hh.ext HX.out)
  have HA := hid (ha.old (HX.out.old n0))
  have hnl := P.nodesV_le2
  have HNo := hid (rnodesof_any a1 a2 a3 c1 c2 c3 P W n0 (h.ext HX.out) hf1 hf3)
  obtain ⟨N, hN⟩ : ∃ N, N = P.nodesV := ⟨_, rfl⟩
  rw [← hN] at HNo hnl
  have HN := hid hN
  have d0 := HB0.out.av 0 rfl
  have d1 := HB0.out.av 1 rfl
  have d2 := HB0.out.av 2 rfl
  simp only [pcells, List.getElem_toArray, List.getElem_cons_zero, List.getElem_cons_succ] at d0 d1 d2
  rw [HWe.out] at d0 d1 d2
  unfold RV.val
  unfold pval at HNo ⊢
  clear h ha hh hW1 hW hx1 hx2 s1 hN
  have Hr : Hid (P.isE r has p q = (decide (p = r.a) && decide (q = r.b))) := hid (by unfold PP.isE kCopy; rw [hkd]; rfl)
  obtain ⟨ra, hra⟩ : ∃ x, x = r.a := ⟨_, rfl⟩
  obtain ⟨rb, hrb⟩ : ∃ x, x = r.b := ⟨_, rfl⟩
  go_enter Tryz.func48, Tryz.ntmps48
  go_wp2_with fail
  rw [← HWe.out]
  refine HNo.out.mono ?_
  intro e w1 hx
  obtain ⟨rfl, hx1⟩ := hx
  have Hx1 := hid hx1
  have m0 := (HB1.out.ext hx1).av 0 rfl
  have m1 := (HB1.out.ext hx1).av 1 rfl
  have m2 := (HB1.out.ext hx1).av 2 rfl
  have m3 := (HB1.out.ext hx1).av 3 rfl
  have m4 := (HB1.out.ext hx1).av 4 rfl
  simp only [List.getElem_toArray, List.getElem_cons_zero, List.getElem_cons_succ] at m0 m1 m2 m3 m4
  clear HNo hx1 d0 d1 d2
  rw [← hra] at m1 Hr
  rw [← hrb] at m2 Hr
  clear hra hrb
  by_cases h1 : p = ra
  · subst h1
    by_cases h2 : q = rb
    · subst h2
      go_wp2
      go_ret
      exact ⟨by rw [Hr.out]; simp, HX.out.trans Hx1.out⟩
    · have h2' : (q == rb) = false := beq_eq_false_iff_ne.2 h2
      have Hr2 : Hid (P.isE r has p q = false) := hid (by rw [Hr.out, decide_eq_false h2, Bool.and_false])
      go_wp2
      go_ret
      exact ⟨by rw [Hr2.out]; rfl, HX.out.trans Hx1.out⟩
  · have h1' : (p == ra) = false := beq_eq_false_iff_ne.2 h1
    have Hr2 : Hid (P.isE r has p q = false) := hid (by rw [Hr.out, decide_eq_false h1, Bool.false_and])
    go_wp2
    go_ret
    exact ⟨by rw [Hr2.out]; rfl, HX.out.trans Hx1.out⟩
set_option maxRecDepth 100000 in
set_option maxHeartbeats 3200000 in
theorem risedge_load (a1 a2 a3 : Option Addr) (c1 c2 c3 : Nat) (P : PP) (r : RV) (av hv : Value) (has : List (List Int)) (p q : Int) (w : World) (n0 : Nat) (h : ProgR w n0 (.slice a1 P.vars.length c1) (.slice a2 P.funs.length c2) (.slice a3 P.stmts.length c3) P) (hf1 : P.vars.length ≤ 1000) (hf3 : P.stmts.length ≤ 1000) (ha : IntsR w n0 av r.args) (hh : SetsR w n0 hv has) (hkd : (r.kind.toList == [108, 111, 97, 100]) = true) (hidx : 0 ≤ r.a ∧ r.a < has.length) :
    Calls Tryz.prog 48 #[pval a1 a2 a3 c1 c2 c3 P, r.val av, hv, .int .i64 p, .int .i64 q] w fun e w' => e = .returned (.bool (P.isE r has p q)) ∧ Ext w w' := by
  obtain ⟨aa, ca, rfl, _⟩ := id ha
  obtain ⟨ah, ch, rfl⟩ := hh.form
  have hhl := hh.len
  have hal := ha.len
  obtain ⟨W1, hW1⟩ : ∃ W1, W1 = w.alloc (.cells (pcells a1 a2 a3 c1 c2 c3 P) 26) := ⟨_, rfl⟩
  have hx1 : Ext w W1 := by rw [hW1]; exact (Ext.refl _).alloc _
  obtain ⟨W, hW⟩ : ∃ W, W = W1.alloc (.cells #[.string r.kind, .int .i64 r.a, .int .i64 r.b, .int .i64 r.k, .slice aa r.args.length ca] 44) := ⟨_, rfl⟩
  have hx2 : Ext W1 W := by rw [hW]; exact (Ext.refl _).alloc _
  have s1 : W1.heap.size = w.heap.size + 1 := by rw [hW1, heap_size_alloc]
  have HX := hid (hx1.trans hx2)
  have HB0 : Hid (Blk W w.heap.size (pcells a1 a2 a3 c1 c2 c3 P) 26) := hid (by
    have : Blk W1 w.heap.size (pcells a1 a2 a3 c1 c2 c3 P) 26 := by rw [hW1]; exact Blk.new _ _ _
    exact this.ext hx2)
  have HB1 : Hid (Blk W (w.heap.size + 1) #[.string r.kind, .int .i64 r.a, .int .i64 r.b, .int .i64 r.k, .slice aa r.args.length ca] 44) := hid (by rw [← s1, hW]; exact Blk.new _ _ _)
  have HWe : Hid (W = (w.alloc (.cells #[.slice a1 P.vars.length c1, .slice a2 P.funs.length c2, .slice a3 P.stmts.length c3] 26)).alloc (.cells #[.string r.kind, .int .i64 r.a, .int .i64 r.b, .int .i64 r.k, .slice aa r.args.length ca] 44)) := hid (by rw [hW, hW1]; rfl)
  have HP := hid (h.ext HX.out)
  have HH := hid (hh.ext HX.out)
  have HA := hid (ha.old (HX.out.old n0))
  have hnl := P.nodesV_le2
  have HNo := hid (rnodesof_any a1 a2 a3 c1 c2 c3 P W n0 (h.ext HX.out) hf1 hf3)
  obtain ⟨N, hN⟩ : ∃ N, N = P.nodesV := ⟨_, rfl⟩
  rw [← hN] at HNo hnl
  have HN := hid hN
  have d0 := HB0.out.av 0 rfl
  have d1 := HB0.out.av 1 rfl
  have d2 := HB0.out.av 2 rfl
  simp only [pcells, List.getElem_toArray, List.getElem_cons_zero, List.getElem_cons_succ] at d0 d1 d2
  rw [HWe.out] at d0 d1 d2
  unfold RV.val
  unfold pval at HNo ⊢
  clear h ha hh hW1 hW hx1 hx2 s1 hN
  have hk0 : (r.kind.toList == [99, 111, 112, 121]) = false := by rw [eq_of_beq hkd]; rfl
  have Hr : Hid (P.isE r has p q = (decide (q = r.b) && (decide (p < (P.nodesV : Int)) && decide (p ∈ has.getD r.a.toNat [])))) := hid (by unfold PP.isE kCopy kLoad; rw [hk0, hkd]; rfl)
  obtain ⟨K, hK⟩ := Int.eq_ofNat_of_zero_le hidx.1
  have hKl : K < has.length := by omega
  obtain ⟨y, l, bl, cl, hya, hl, hc, hI⟩ := HH.out.at hKl
  subst hya
  have Hl : Hid (has.getD (r.a).toNat [] = l) := hid (by rw [hK, List.getD_eq_getElem?_getD]; show (has[K]?).getD [] = l; rw [hl]; rfl)
  have HC := fun w1 (x : Ext W w1) => hid (rhas_any (.slice bl l.length cl) l p w1 n0 (hI.old (x.old n0)))
  have Hc := hid hc
  have HK := hid hK
  clear hl hI hidx hc hK
  go_enter Tryz.func48, Tryz.ntmps48
  go_wp2_with fail
  rw [← HWe.out]
  refine HNo.out.mono ?_
  intro e w1 hx
  obtain ⟨rfl, hx1⟩ := hx
  have Hx1 := hid hx1
  have m0 := (HB1.out.ext hx1).av 0 rfl
  have m1 := (HB1.out.ext hx1).av 1 rfl
  have m2 := (HB1.out.ext hx1).av 2 rfl
  have m3 := (HB1.out.ext hx1).av 3 rfl
  have m4 := (HB1.out.ext hx1).av 4 rfl
  simp only [List.getElem_toArray, List.getElem_cons_zero, List.getElem_cons_succ] at m0 m1 m2 m3 m4
  clear HNo hx1 d0 d1 d2
  have c0 := Hx1.out.cellx Hc.out
  have HC1 := HC w1 Hx1.out
  rw [Hl.out, ← HN.out] at Hr
  obtain ⟨rb, hrb⟩ : ∃ x, x = r.b := ⟨_, rfl⟩
  rw [← hrb] at m2 Hr
  rw [HK.out] at m1
  clear hrb HC
  by_cases h1 : q = rb
  · subst h1
    by_cases h2 : p < (N : Int)
    · obtain ⟨d, hd⟩ : ∃ d, d = decide (p ∈ l) := ⟨_, rfl⟩
      rw [← hd] at HC1
      have Hr2 : Hid (P.isE r has p q = d) := hid (by rw [Hr.out, decide_eq_true rfl, decide_eq_true h2, ← hd]; rfl)
      clear hd
      go_wp2_with fail
      refine HC1.out.mono ?_
      intro e w2 hx
      obtain ⟨rfl, rfl⟩ := hx
      clear HC1
      go_wp2
      go_ret
      exact ⟨by rw [Hr2.out]; rfl, HX.out.trans Hx1.out⟩
    · have Hr2 : Hid (P.isE r has p q = false) := hid (by rw [Hr.out, decide_eq_false h2, Bool.false_and, Bool.and_false])
      go_wp2
      go_ret
      exact ⟨by rw [Hr2.out]; rfl, HX.out.trans Hx1.out⟩
  · have h1' : (q == rb) = false := beq_eq_false_iff_ne.2 h1
    have Hr2 : Hid (P.isE r has p q = false) := hid (by rw [Hr.out, decide_eq_false h1, Bool.false_and])
    go_wp2
    go_ret
    exact ⟨by rw [Hr2.out]; rfl, HX.out.trans Hx1.out⟩
set_option maxRecDepth 100000 in
set_option maxHeartbeats 3200000 in
theorem risedge_store (a1 a2 a3 : Option Addr) (c1 c2 c3 : Nat) (P : PP) (r : RV) (av hv : Value) (has : List (List Int)) (p q : Int) (w : World) (n0 : Nat) (h : ProgR w n0 (.slice a1 P.vars.length c1) (.slice a2 P.funs.length c2) (.slice a3 P.stmts.length c3) P) (hf1 : P.vars.length ≤ 1000) (hf3 : P.stmts.length ≤ 1000) (ha : IntsR w n0 av r.args) (hh : SetsR w n0 hv has) (hkd : (r.kind.toList == [115, 116, 111, 114, 101]) = true) (hidx : 0 ≤ r.b ∧ r.b < has.length) :
    Calls Tryz.prog 48 #[pval a1 a2 a3 c1 c2 c3 P, r.val av, hv, .int .i64 p, .int .i64 q] w fun e w' => e = .returned (.bool (P.isE r has p q)) ∧ Ext w w' := by
  obtain ⟨aa, ca, rfl, _⟩ := id ha
  obtain ⟨ah, ch, rfl⟩ := hh.form
  have hhl := hh.len
  have hal := ha.len
  obtain ⟨W1, hW1⟩ : ∃ W1, W1 = w.alloc (.cells (pcells a1 a2 a3 c1 c2 c3 P) 26) := ⟨_, rfl⟩
  have hx1 : Ext w W1 := by rw [hW1]; exact (Ext.refl _).alloc _
  obtain ⟨W, hW⟩ : ∃ W, W = W1.alloc (.cells #[.string r.kind, .int .i64 r.a, .int .i64 r.b, .int .i64 r.k, .slice aa r.args.length ca] 44) := ⟨_, rfl⟩
  have hx2 : Ext W1 W := by rw [hW]; exact (Ext.refl _).alloc _
  have s1 : W1.heap.size = w.heap.size + 1 := by rw [hW1, heap_size_alloc]
  have HX := hid (hx1.trans hx2)
  have HB0 : Hid (Blk W w.heap.size (pcells a1 a2 a3 c1 c2 c3 P) 26) := hid (by
    have : Blk W1 w.heap.size (pcells a1 a2 a3 c1 c2 c3 P) 26 := by rw [hW1]; exact Blk.new _ _ _
    exact this.ext hx2)
  have HB1 : Hid (Blk W (w.heap.size + 1) #[.string r.kind, .int .i64 r.a, .int .i64 r.b, .int .i64 r.k, .slice aa r.args.length ca] 44) := hid (by rw [← s1, hW]; exact Blk.new _ _ _)
  have HWe : Hid (W = (w.alloc (.cells #[.slice a1 P.vars.length c1, .slice a2 P.funs.length c2, .slice a3 P.stmts.length c3] 26)).alloc (.cells #[.string r.kind, .int .i64 r.a, .int .i64 r.b, .int .i64 r.k, .slice aa r.args.length ca] 44)) := hid (by rw [hW, hW1]; rfl)
  have HP := hid (h.ext HX.out)
  have HH := hid (hh.ext HX.out)
  have HA := hid (ha.old (HX.out.old n0))
  have hnl := P.nodesV_le2
  have HNo := hid (rnodesof_any a1 a2 a3 c1 c2 c3 P W n0 (h.ext HX.out) hf1 hf3)
  obtain ⟨N, hN⟩ : ∃ N, N = P.nodesV := ⟨_, rfl⟩
  rw [← hN] at HNo hnl
  have HN := hid hN
  have d0 := HB0.out.av 0 rfl
  have d1 := HB0.out.av 1 rfl
  have d2 := HB0.out.av 2 rfl
  simp only [pcells, List.getElem_toArray, List.getElem_cons_zero, List.getElem_cons_succ] at d0 d1 d2
  rw [HWe.out] at d0 d1 d2
  unfold RV.val
  unfold pval at HNo ⊢
  clear h ha hh hW1 hW hx1 hx2 s1 hN
  have hk0 : (r.kind.toList == [99, 111, 112, 121]) = false := by rw [eq_of_beq hkd]; rfl
  have hk1 : (r.kind.toList == [108, 111, 97, 100]) = false := by rw [eq_of_beq hkd]; rfl
  have Hr : Hid (P.isE r has p q = (decide (p = r.a) && (decide (q < (P.nodesV : Int)) && decide (q ∈ has.getD r.b.toNat [])))) := hid (by unfold PP.isE kCopy kLoad kStore; rw [hk0, hk1, hkd]; rfl)
  obtain ⟨K, hK⟩ := Int.eq_ofNat_of_zero_le hidx.1
  have hKl : K < has.length := by omega
  obtain ⟨y, l, bl, cl, hya, hl, hc, hI⟩ := HH.out.at hKl
  subst hya
  have Hl : Hid (has.getD (r.b).toNat [] = l) := hid (by rw [hK, List.getD_eq_getElem?_getD]; show (has[K]?).getD [] = l; rw [hl]; rfl)
  have HC := fun w1 (x : Ext W w1) => hid (rhas_any (.slice bl l.length cl) l q w1 n0 (hI.old (x.old n0)))
  have Hc := hid hc
  have HK := hid hK
  clear hl hI hidx hc hK
  go_enter Tryz.func48, Tryz.ntmps48
  go_wp2_with fail
  rw [← HWe.out]
  refine HNo.out.mono ?_
  intro e w1 hx
  obtain ⟨rfl, hx1⟩ := hx
  have Hx1 := hid hx1
  have m0 := (HB1.out.ext hx1).av 0 rfl
  have m1 := (HB1.out.ext hx1).av 1 rfl
  have m2 := (HB1.out.ext hx1).av 2 rfl
  have m3 := (HB1.out.ext hx1).av 3 rfl
  have m4 := (HB1.out.ext hx1).av 4 rfl
  simp only [List.getElem_toArray, List.getElem_cons_zero, List.getElem_cons_succ] at m0 m1 m2 m3 m4
  clear HNo hx1 d0 d1 d2
  have c0 := Hx1.out.cellx Hc.out
  have HC1 := HC w1 Hx1.out
  rw [Hl.out, ← HN.out] at Hr
  obtain ⟨rb, hrb⟩ : ∃ x, x = r.a := ⟨_, rfl⟩
  rw [← hrb] at m1 Hr
  rw [HK.out] at m2
  clear hrb HC
  by_cases h1 : p = rb
  · subst h1
    by_cases h2 : q < (N : Int)
    · obtain ⟨d, hd⟩ : ∃ d, d = decide (q ∈ l) := ⟨_, rfl⟩
      rw [← hd] at HC1
      have Hr2 : Hid (P.isE r has p q = d) := hid (by rw [Hr.out, decide_eq_true rfl, decide_eq_true h2, ← hd]; rfl)
      clear hd
      go_wp2_with fail
      refine HC1.out.mono ?_
      intro e w2 hx
      obtain ⟨rfl, rfl⟩ := hx
      clear HC1
      go_wp2
      go_ret
      exact ⟨by rw [Hr2.out]; rfl, HX.out.trans Hx1.out⟩
    · have Hr2 : Hid (P.isE r has p q = false) := hid (by rw [Hr.out, decide_eq_false h2, Bool.false_and, Bool.and_false])
      go_wp2
      go_ret
      exact ⟨by rw [Hr2.out]; rfl, HX.out.trans Hx1.out⟩
  · have h1' : (p == rb) = false := beq_eq_false_iff_ne.2 h1
    have Hr2 : Hid (P.isE r has p q = false) := hid (by rw [Hr.out, decide_eq_false h1, Bool.false_and])
    go_wp2
    go_ret
    exact ⟨by rw [Hr2.out]; rfl, HX.out.trans Hx1.out⟩
end Go.Proofs.YtohfdecefikinaaGreatDoor


/- The reference: does a rule make an edge (IsEdge): calls; any rule. -/
namespace Go.Proofs.YtohfdecefikinaaGreatDoor
set_option linter.unusedSimpArgs false
set_option linter.unusedVariables false
open Go Go.RowKit

theorem any_range_true {n : Nat} {g : Nat → Bool} {k : Nat} (hk : k < n) (h : g k = true) : (List.range n).any g = true := List.any_eq_true.2 ⟨k, List.mem_range.2 hk, h⟩
theorem any_range_false {n : Nat} {g : Nat → Bool} (h : ∀ j, j < n → g j = false) : (List.range n).any g = false := List.any_eq_false.2 fun x hx => by rw [h x (List.mem_range.1 hx)]; simp
theorem fEdge_len {f : PF} {r : RV} {p q : Int} (h : f.params.length ≠ r.args.length) : fEdge f r p q = false := by
  unfold fEdge
  rw [decide_eq_false h, Bool.false_and]
theorem fEdge_ret {f : PF} {r : RV} {p q : Int} (h : f.params.length = r.args.length) (h1 : p = f.ret) (h2 : q = r.b) : fEdge f r p q = true := by
  unfold fEdge
  rw [decide_eq_true h, decide_eq_true h1, decide_eq_true h2]
  rfl
theorem fEdge_arg {f : PF} {r : RV} {p q : Int} (h : f.params.length = r.args.length) {i : Nat} (hi : i < f.params.length) (h1 : r.args[i]? = some p) (h2 : f.params[i]? = some q) : fEdge f r p q = true := by
  unfold fEdge
  rw [decide_eq_true h, any_range_true hi, Bool.or_true]
  · rfl
  · rw [List.getD_eq_getElem?_getD, List.getD_eq_getElem?_getD, h1, h2]; simp
theorem fEdge_no {f : PF} {r : RV} {p q : Int} (h1 : ¬ (p = f.ret ∧ q = r.b)) (h2 : ∀ i, i < f.params.length → ¬ (p = r.args.getD i 0 ∧ q = f.params.getD i 0)) : fEdge f r p q = false := by
  unfold fEdge
  rw [any_range_false fun j hj => by
    rw [← Bool.decide_and]
    exact decide_eq_false (h2 j hj), ← Bool.decide_and, decide_eq_false h1]
  simp

set_option maxRecDepth 100000 in
set_option maxHeartbeats 3200000 in
theorem risedge_call (a1 a2 a3 : Option Addr) (c1 c2 c3 : Nat) (P : PP) (r : RV) (av hv : Value) (has : List (List Int)) (p q : Int) (w : World) (n0 : Nat) (h : ProgR w n0 (.slice a1 P.vars.length c1) (.slice a2 P.funs.length c2) (.slice a3 P.stmts.length c3) P) (hf1 : P.vars.length ≤ 1000) (hf3 : P.stmts.length ≤ 1000) (ha : IntsR w n0 av r.args) (hh : SetsR w n0 hv has) (hkd : (r.kind.toList == [99, 97, 108, 108]) = true) (hidx : 0 ≤ r.a ∧ r.a < has.length) (hfl : P.funs.length ≤ 1000) :
    Calls Tryz.prog 48 #[pval a1 a2 a3 c1 c2 c3 P, r.val av, hv, .int .i64 p, .int .i64 q] w fun e w' => e = .returned (.bool (P.isE r has p q)) ∧ Ext w w' := by
  obtain ⟨aa, ca, rfl, _⟩ := id ha
  obtain ⟨ah, ch, rfl⟩ := hh.form
  have hhl := hh.len
  have hal := ha.len
  obtain ⟨W1, hW1⟩ : ∃ W1, W1 = w.alloc (.cells (pcells a1 a2 a3 c1 c2 c3 P) 26) := ⟨_, rfl⟩
  have hx1 : Ext w W1 := by rw [hW1]; exact (Ext.refl _).alloc _
  obtain ⟨W, hW⟩ : ∃ W, W = W1.alloc (.cells #[.string r.kind, .int .i64 r.a, .int .i64 r.b, .int .i64 r.k, .slice aa r.args.length ca] 44) := ⟨_, rfl⟩
  have hx2 : Ext W1 W := by rw [hW]; exact (Ext.refl _).alloc _
  have s1 : W1.heap.size = w.heap.size + 1 := by rw [hW1, heap_size_alloc]
  have HX := hid (hx1.trans hx2)
  have HB0 : Hid (Blk W w.heap.size (pcells a1 a2 a3 c1 c2 c3 P) 26) := hid (by
    have : Blk W1 w.heap.size (pcells a1 a2 a3 c1 c2 c3 P) 26 := by rw [hW1]; exact Blk.new _ _ _
    exact this.ext hx2)
  have HB1 : Hid (Blk W (w.heap.size + 1) #[.string r.kind, .int .i64 r.a, .int .i64 r.b, .int .i64 r.k, .slice aa r.args.length ca] 44) := hid (by rw [← s1, hW]; exact Blk.new _ _ _)
  have HWe : Hid (W = (w.alloc (.cells #[.slice a1 P.vars.length c1, .slice a2 P.funs.length c2, .slice a3 P.stmts.length c3] 26)).alloc (.cells #[.string r.kind, .int .i64 r.a, .int .i64 r.b, .int .i64 r.k, .slice aa r.args.length ca] 44)) := hid (by rw [hW, hW1]; rfl)
  have HP := hid (h.ext HX.out)
  have HH := hid (hh.ext HX.out)
  have HA := hid (ha.old (HX.out.old n0))
  have hnl := P.nodesV_le2
  have HNo := hid (rnodesof_any a1 a2 a3 c1 c2 c3 P W n0 (h.ext HX.out) hf1 hf3)
  obtain ⟨N, hN⟩ : ∃ N, N = P.nodesV := ⟨_, rfl⟩
  rw [← hN] at HNo hnl
  have HN := hid hN
  have d0 := HB0.out.av 0 rfl
  have d1 := HB0.out.av 1 rfl
  have d2 := HB0.out.av 2 rfl
  simp only [pcells, List.getElem_toArray, List.getElem_cons_zero, List.getElem_cons_succ] at d0 d1 d2
  rw [HWe.out] at d0 d1 d2
  unfold RV.val
  unfold pval at HNo ⊢
  clear h ha hh hW1 hW hx1 hx2 s1 hN
  have hk0 : (r.kind.toList == [99, 111, 112, 121]) = false := by rw [eq_of_beq hkd]; rfl
  have hk1 : (r.kind.toList == [108, 111, 97, 100]) = false := by rw [eq_of_beq hkd]; rfl
  have hk2 : (r.kind.toList == [115, 116, 111, 114, 101]) = false := by rw [eq_of_beq hkd]; rfl
  obtain ⟨G, hG⟩ : ∃ G : Nat → Bool, G = fun f : Nat => decide ((P.nodesV : Int) + (f : Int) ∈ has.getD r.a.toNat []) && fEdge (P.funs.getD f ⟨⟨#[]⟩, [], 0⟩) r p q := ⟨_, rfl⟩
  have Hr : Hid (P.isE r has p q = (List.range P.funs.length).any G) := hid (by unfold PP.isE kCopy kLoad kStore kCall; rw [hk0, hk1, hk2, hkd, hG]; rfl)
  obtain ⟨K, hK⟩ := Int.eq_ofNat_of_zero_le hidx.1
  have hKl : K < has.length := by omega
  obtain ⟨y, l, bl, cl, hya, hl, hc, hI⟩ := HH.out.at hKl
  subst hya
  have HG : Hid (∀ k f, P.funs[k]? = some f → G k = (decide ((N : Int) + (k : Int) ∈ l) && fEdge f r p q)) := hid (fun k f hf => by
    rw [hG, HN.out]
    simp only
    rw [hK, Int.toNat_natCast, List.getD_eq_getElem?_getD, hl, List.getD_eq_getElem?_getD, hf]
    rfl)
  have HC := fun x w1 (e : Ext W w1) => hid (rhas_any (.slice bl l.length cl) l x w1 n0 (hI.old (e.old n0)))
  have Hc := hid hc
  have HK := hid hK
  clear hl hI hidx hc hG hK
  go_enter Tryz.func48, Tryz.ntmps48
  go_wp2_with fail
  rw [← HWe.out]
  refine HNo.out.mono ?_
  intro e w1 hx
  obtain ⟨rfl, hx1⟩ := hx
  have Hx1 := hid hx1
  have m0 := (HB1.out.ext hx1).av 0 rfl
  have m1 := (HB1.out.ext hx1).av 1 rfl
  have m2 := (HB1.out.ext hx1).av 2 rfl
  have m3 := (HB1.out.ext hx1).av 3 rfl
  have m4 := (HB1.out.ext hx1).av 4 rfl
  simp only [List.getElem_toArray, List.getElem_cons_zero, List.getElem_cons_succ] at m0 m1 m2 m3 m4
  clear HNo hx1 d0 d1 d2
  have c0 := Hx1.out.cellx Hc.out
  have d0 := (HB0.out.ext Hx1.out).av 0 rfl
  have d1 := (HB0.out.ext Hx1.out).av 1 rfl
  have d2 := (HB0.out.ext Hx1.out).av 2 rfl
  simp only [pcells, List.getElem_toArray, List.getElem_cons_zero, List.getElem_cons_succ] at d0 d1 d2
  rw [HK.out] at m1
  go_wp2
  go_loop [12] (fun t12 => ∃ k : Nat, t12 = .int .i64 (k : Int) ∧ k ≤ P.funs.length ∧ ∀ j, j < k → G j = false) (fun t12 => P.funs.length - (intOf t12).toNat)
  case atStart => exact ⟨0, rfl, Nat.zero_le _, fun j h => by omega⟩
  case round =>
    obtain ⟨k, rfl, hk, hp⟩ := hrel
    have Hp := hid hp
    clear hp
    by_cases hlt : k < P.funs.length
    · obtain ⟨yf, f, afp, cfp, hyf, hfk, e0, e1, e2, hIp⟩ := HP.out.funs.at hlt
      subst hyf
      have e1 := Hx1.out.cellx e1
      have e2 := Hx1.out.cellx e2
      have HIp := hid hIp
      have hpl := hIp.len
      have HGk0 := hid (HG.out k f hfk)
      have HC1 := HC ((N : Int) + (k : Int)) w1 Hx1.out
      obtain ⟨d, hd⟩ : ∃ d, d = decide ((N : Int) + (k : Int) ∈ l) := ⟨_, rfl⟩
      rw [← hd] at HC1 HGk0
      clear e0 hfk hIp hd
      go_wp2_with fail
      refine HC1.out.mono ?_
      intro e w2 hx
      obtain ⟨rfl, rfl⟩ := hx
      clear HC1 HC
      cases d with
      | false =>
        have Hgk : Hid (G k = false) := hid (by rw [HGk0.out]; rfl)
        go_wp2
        refine ⟨⟨k + 1, by go_num, by omega, fun j hj => ?_⟩, by simp [intOf]; omega⟩
        by_cases hjk : j = k
        · subst hjk; exact Hgk.out
        · exact Hp.out j (by omega)
      | true =>
        have HGk : Hid (G k = (true && fEdge f r p q)) := HGk0
        by_cases hlen : f.params.length = r.args.length
        · have Hlen := hid hlen
          have hl1 : ((f.params.length : Int) != (r.args.length : Int)) = false := by rw [hlen]; simp
          obtain ⟨fr, hfr⟩ : ∃ x, x = f.ret := ⟨_, rfl⟩
          obtain ⟨rb, hrb⟩ : ∃ x, x = r.b := ⟨_, rfl⟩
          rw [← hfr] at e2
          rw [← hrb] at m2
          have Hfr := hid hfr
          have Hrb := hid hrb
          clear hfr hrb
          by_cases h1 : p = fr
          · by_cases h2 : q = rb
            · have Hgk : Hid (G k = true) := hid (by rw [HGk.out, fEdge_ret Hlen.out (h1.trans Hfr.out) (h2.trans Hrb.out)]; rfl)
              subst h1 h2
              clear hlen
              have Hr2 : Hid (P.isE r has p q = true) := hid (by rw [Hr.out]; exact any_range_true hlt Hgk.out)
              go_wp2
              go_ret
              exact ⟨by rw [Hr2.out]; rfl, HX.out.trans Hx1.out⟩
            · have h2' : (q == rb) = false := beq_eq_false_iff_ne.2 h2
              have Hnr : Hid (¬ (p = f.ret ∧ q = r.b)) := hid fun h => h2 (h.2.trans Hrb.out.symm)
              subst h1
              have hlen2 := Hlen.out
              clear hlen
              go_wp2
              go_loop [14] (fun t14 => ∃ i : Nat, t14 = .int .i64 (i : Int) ∧ i ≤ f.params.length ∧ ∀ j, j < i → ¬ (p = r.args.getD j 0 ∧ q = f.params.getD j 0)) (fun t14 => f.params.length - (intOf t14).toNat)
              case atStart => exact ⟨0, rfl, Nat.zero_le _, fun j h => by omega⟩
              case round =>
                obtain ⟨i, rfl, hi, hq⟩ := hrel
                have Hq := hid hq
                clear hq
                by_cases hil : i < f.params.length
                · have hil2 : i < r.args.length := by rw [← Hlen.out]; exact hil
                  obtain ⟨ya, o, hya, ho, hco⟩ := (HA.out.old (Hx1.out.old n0)).at hil2
                  subst hya
                  obtain ⟨yp, u, hyp, hu, hcu⟩ := (HIp.out.old (Hx1.out.old n0)).at hil
                  subst hyp
                  have Ho := hid ho
                  have Hu := hid hu
                  clear ho hu
                  by_cases g1 : p = o
                  · by_cases g2 : q = u
                    · subst g1 g2
                      have Hgk : Hid (G k = true) := hid (by rw [HGk.out, fEdge_arg Hlen.out hil Ho.out Hu.out]; rfl)
                      have Hr2 : Hid (P.isE r has p q = true) := hid (by rw [Hr.out]; exact any_range_true hlt Hgk.out)
                      go_wp2
                      go_ret
                      exact ⟨by rw [Hr2.out]; rfl, HX.out.trans Hx1.out⟩
                    · have g2' : (q == u) = false := beq_eq_false_iff_ne.2 g2
                      have Hn : Hid (¬ (p = r.args.getD i 0 ∧ q = f.params.getD i 0)) := hid (by rw [List.getD_eq_getElem?_getD, List.getD_eq_getElem?_getD, Ho.out, Hu.out]; exact fun h => g2 h.2)
                      subst g1
                      go_wp2
                      refine ⟨⟨i + 1, by go_num, by omega, fun j hj => ?_⟩, by simp [intOf]; omega⟩
                      by_cases hji : j = i
                      · subst hji; exact Hn.out
                      · exact Hq.out j (by omega)
                  · have g1' : (p == o) = false := beq_eq_false_iff_ne.2 g1
                    have Hn : Hid (¬ (p = r.args.getD i 0 ∧ q = f.params.getD i 0)) := hid (by rw [List.getD_eq_getElem?_getD, List.getD_eq_getElem?_getD, Ho.out, Hu.out]; exact fun h => g1 h.1)
                    go_wp2
                    refine ⟨⟨i + 1, by go_num, by omega, fun j hj => ?_⟩, by simp [intOf]; omega⟩
                    by_cases hji : j = i
                    · subst hji; exact Hn.out
                    · exact Hq.out j (by omega)
                · obtain rfl : i = f.params.length := by omega
                  have Hgk : Hid (G k = false) := hid (by rw [HGk.out, fEdge_no Hnr.out Hq.out]; rfl)
                  go_wp2
                  refine ⟨⟨k + 1, by go_num, by omega, fun j hj => ?_⟩, by simp [intOf]; omega⟩
                  by_cases hjk : j = k
                  · subst hjk; exact Hgk.out
                  · exact Hp.out j (by omega)
          · have h1' : (p == fr) = false := beq_eq_false_iff_ne.2 h1
            have Hnr : Hid (¬ (p = f.ret ∧ q = r.b)) := hid fun h => h1 (h.1.trans Hfr.out.symm)
            clear hlen
            go_wp2
            go_loop [14] (fun t14 => ∃ i : Nat, t14 = .int .i64 (i : Int) ∧ i ≤ f.params.length ∧ ∀ j, j < i → ¬ (p = r.args.getD j 0 ∧ q = f.params.getD j 0)) (fun t14 => f.params.length - (intOf t14).toNat)
            case atStart => exact ⟨0, rfl, Nat.zero_le _, fun j h => by omega⟩
            case round =>
              obtain ⟨i, rfl, hi, hq⟩ := hrel
              have Hq := hid hq
              clear hq
              by_cases hil : i < f.params.length
              · have hil2 : i < r.args.length := by rw [← Hlen.out]; exact hil
                obtain ⟨ya, o, hya, ho, hco⟩ := (HA.out.old (Hx1.out.old n0)).at hil2
                subst hya
                obtain ⟨yp, u, hyp, hu, hcu⟩ := (HIp.out.old (Hx1.out.old n0)).at hil
                subst hyp
                have Ho := hid ho
                have Hu := hid hu
                clear ho hu
                by_cases g1 : p = o
                · by_cases g2 : q = u
                  · subst g1 g2
                    have Hgk : Hid (G k = true) := hid (by rw [HGk.out, fEdge_arg Hlen.out hil Ho.out Hu.out]; rfl)
                    have Hr2 : Hid (P.isE r has p q = true) := hid (by rw [Hr.out]; exact any_range_true hlt Hgk.out)
                    go_wp2
                    go_ret
                    exact ⟨by rw [Hr2.out]; rfl, HX.out.trans Hx1.out⟩
                  · have g2' : (q == u) = false := beq_eq_false_iff_ne.2 g2
                    have Hn : Hid (¬ (p = r.args.getD i 0 ∧ q = f.params.getD i 0)) := hid (by rw [List.getD_eq_getElem?_getD, List.getD_eq_getElem?_getD, Ho.out, Hu.out]; exact fun h => g2 h.2)
                    subst g1
                    go_wp2
                    refine ⟨⟨i + 1, by go_num, by omega, fun j hj => ?_⟩, by simp [intOf]; omega⟩
                    by_cases hji : j = i
                    · subst hji; exact Hn.out
                    · exact Hq.out j (by omega)
                · have g1' : (p == o) = false := beq_eq_false_iff_ne.2 g1
                  have Hn : Hid (¬ (p = r.args.getD i 0 ∧ q = f.params.getD i 0)) := hid (by rw [List.getD_eq_getElem?_getD, List.getD_eq_getElem?_getD, Ho.out, Hu.out]; exact fun h => g1 h.1)
                  go_wp2
                  refine ⟨⟨i + 1, by go_num, by omega, fun j hj => ?_⟩, by simp [intOf]; omega⟩
                  by_cases hji : j = i
                  · subst hji; exact Hn.out
                  · exact Hq.out j (by omega)
              · obtain rfl : i = f.params.length := by omega
                have Hgk : Hid (G k = false) := hid (by rw [HGk.out, fEdge_no Hnr.out Hq.out]; rfl)
                go_wp2
                refine ⟨⟨k + 1, by go_num, by omega, fun j hj => ?_⟩, by simp [intOf]; omega⟩
                by_cases hjk : j = k
                · subst hjk; exact Hgk.out
                · exact Hp.out j (by omega)
        · have hl1 : ((f.params.length : Int) != (r.args.length : Int)) = true := bne_iff_ne.2 (fun h => hlen (Int.ofNat_inj.1 h))
          have Hgk : Hid (G k = false) := hid (by rw [HGk.out, fEdge_len hlen]; rfl)
          clear hlen
          go_wp2
          refine ⟨⟨k + 1, by go_num, by omega, fun j hj => ?_⟩, by simp [intOf]; omega⟩
          by_cases hjk : j = k
          · subst hjk; exact Hgk.out
          · exact Hp.out j (by omega)
    · obtain rfl : k = P.funs.length := by omega
      have Hr2 : Hid (P.isE r has p q = false) := hid (by rw [Hr.out]; exact any_range_false Hp.out)
      go_wp2
      go_ret
      exact ⟨by rw [Hr2.out]; rfl, HX.out.trans Hx1.out⟩
end Go.Proofs.YtohfdecefikinaaGreatDoor


/- The reference: the rule of a statement (RuleOf). -/
namespace Go.Proofs.YtohfdecefikinaaGreatDoor
set_option linter.unusedSimpArgs false
set_option linter.unusedVariables false
open Go Go.RowKit

/-- The rule of a statement as the reference tells it. -/
def PP.ruleR (P : PP) (k : Nat) (x : PS) : RV :=
  bif x.isK kAddr then ⟨bBase, x.x, x.y, k, []⟩ else
  bif x.isK kNew then ⟨bBase, x.x, P.placeV k, k, []⟩ else
  bif x.isK kFun then ⟨bBase, x.x, (P.nodesV : Int) + x.y, k, []⟩ else ⟨x.kind, x.y, x.x, k, x.args⟩
theorem noArgs {P : PP} {x : PS} (h0 : P.stmtErr x = 0) (h : x.isK kCall = false) : x.args = [] := by
  unfold PP.stmtErr at h0
  cases h1 : memB x.kind kindsS with
  | false => rw [h1] at h0; simp at h0
  | true =>
    cases h2 : P.bound x with
    | false => rw [h1, h2] at h0; simp at h0
    | true =>
      rw [h1, h2, h] at h0
      cases ha : x.args with
      | nil => rfl
      | cons a r => rw [ha] at h0; simp at h0
/-- Both rules are one, but for how the kind's text lies. -/
theorem rule_same {P : PP} {x : PS} (h0 : P.stmtErr x = 0) (k : Nat) : (P.ruleR k x).kind.toList = (P.ruleV k x).kind.toList ∧ (P.ruleR k x).a = (P.ruleV k x).a ∧ (P.ruleR k x).b = (P.ruleV k x).b ∧ (P.ruleR k x).k = k ∧ (P.ruleV k x).k = k ∧ (P.ruleR k x).args = (P.ruleV k x).args := by
  unfold PP.ruleR PP.ruleV
  cases h1 : x.isK kAddr with
  | true => exact ⟨rfl, rfl, rfl, rfl, rfl, rfl⟩
  | false =>
    cases h2 : x.isK kNew with
    | true => exact ⟨rfl, rfl, rfl, rfl, rfl, rfl⟩
    | false =>
      cases h3 : x.isK kFun with
      | true => exact ⟨rfl, rfl, rfl, rfl, rfl, rfl⟩
      | false =>
        cases h4 : x.isK kCall with
        | true =>
          refine ⟨?_, rfl, rfl, rfl, rfl, rfl⟩
          have : x.kind.toList = kCall := eq_of_beq h4
          exact this.trans (show kCall = bCall.toList by decide +kernel)
        | false => exact ⟨rfl, rfl, rfl, rfl, rfl, noArgs h0 h4⟩

theorem intsR_nil (w : World) (n0 : Nat) : IntsR w n0 (.slice none 0 0) [] := ⟨none, 0, rfl, Nat.le_refl _, by decide, fun h => absurd h (by decide), fun y hy => by cases hy⟩
set_option maxRecDepth 100000 in
set_option maxHeartbeats 6400000 in
theorem rruleof_addr (a1 a2 a3 : Option Addr) (c1 c2 c3 : Nat) (P : PP) (k : Nat) (x : PS) (hxk : P.stmts[k]? = some x) (w : World) (n0 : Nat) (h : ProgR w n0 (.slice a1 P.vars.length c1) (.slice a2 P.funs.length c2) (.slice a3 P.stmts.length c3) P) (hf1 : P.vars.length ≤ 1000) (hf3 : P.stmts.length ≤ 1000) (hkx : x.isK kAddr = true)  :
    Calls Tryz.prog 13 #[pval a1 a2 a3 c1 c2 c3 P, .int .i64 (k : Int)] w fun e w' => ∃ av, e = .returned ((P.ruleR k x).val av) ∧ IntsR w n0 av (P.ruleR k x).args ∧ Ext w w' := by
  obtain ⟨W1, hW1⟩ : ∃ W1, W1 = w.alloc (.cells (pcells a1 a2 a3 c1 c2 c3 P) 26) := ⟨_, rfl⟩
  have hx1 : Ext w W1 := by rw [hW1]; exact (Ext.refl _).alloc _
  obtain ⟨W2, hW2⟩ : ∃ W2, W2 = W1.alloc (.cells #[.string ⟨#[]⟩, .int .i64 0, .int .i64 0, .int .i64 0, .slice none 0 0] 44) := ⟨_, rfl⟩
  have hx2 : Ext W1 W2 := by rw [hW2]; exact (Ext.refl _).alloc _
  have hk : k < P.stmts.length := by
    rcases Nat.lt_or_ge k P.stmts.length with h | h
    · exact h
    · rw [List.getElem?_eq_none h] at hxk; cases hxk
  have hml := h.stmts.len
  obtain ⟨y, x', av, cv, rfl, hxk', e0, e1, e2, e3, hI⟩ := (h.ext (hx1.trans hx2)).stmts.at hk
  obtain rfl := Option.some.inj (hxk.symm.trans hxk')
  obtain ⟨W3, hW3⟩ : ∃ W3, W3 = W2.alloc (.cells (scells x av cv) 65) := ⟨_, rfl⟩
  have hx3 : Ext W2 W3 := by rw [hW3]; exact (Ext.refl _).alloc _
  obtain ⟨W4, hW4⟩ : ∃ W4, W4 = W3.alloc (.cells #[.string x.kind, .int .i64 x.y, .int .i64 x.x, .int .i64 (k : Int), .slice av x.args.length cv] 44) := ⟨_, rfl⟩
  have hx4 : Ext W3 W4 := by rw [hW4]; exact (Ext.refl _).alloc _
  have s1 : W1.heap.size = w.heap.size + 1 := by rw [hW1, heap_size_alloc]
  have s2 : W2.heap.size = w.heap.size + 1 + 1 := by rw [hW2, heap_size_alloc, s1]
  have s3 : W3.heap.size = w.heap.size + 1 + 1 + 1 := by rw [hW3, heap_size_alloc, s2]
  have HX := hid (((hx1.trans hx2).trans hx3).trans hx4)
  have HB0 : Hid (Blk W4 w.heap.size (pcells a1 a2 (some y) c1 c2 c3 P) 26) := hid (by
    have : Blk W1 w.heap.size (pcells a1 a2 (some y) c1 c2 c3 P) 26 := by rw [hW1]; exact Blk.new _ _ _
    exact this.ext ((hx2.trans hx3).trans hx4))
  have HB1 : Hid (Blk W4 (w.heap.size + 1) #[.string ⟨#[]⟩, .int .i64 0, .int .i64 0, .int .i64 0, .slice none 0 0] 44) := hid (by
    have : Blk W2 (w.heap.size + 1) #[.string ⟨#[]⟩, .int .i64 0, .int .i64 0, .int .i64 0, .slice none 0 0] 44 := by rw [← s1, hW2]; exact Blk.new _ _ _
    exact this.ext (hx3.trans hx4))
  have HB2 : Hid (Blk W4 (w.heap.size + 1 + 1) (scells x av cv) 65) := hid (by
    have : Blk W3 (w.heap.size + 1 + 1) (scells x av cv) 65 := by rw [← s2, hW3]; exact Blk.new _ _ _
    exact this.ext hx4)
  have HB3 : Hid (Blk W4 (w.heap.size + 1 + 1 + 1) #[.string x.kind, .int .i64 x.y, .int .i64 x.x, .int .i64 (k : Int), .slice av x.args.length cv] 44) := hid (by rw [← s3, hW4]; exact Blk.new _ _ _)
  have HI := hid hI
  have HP := hid h
  rw [hW2, hW1] at e0 e1 e2 e3
  unfold pcells at e0 e1 e2 e3
  have HWe : Hid (W4 = (((w.alloc (.cells #[.slice a1 P.vars.length c1, .slice a2 P.funs.length c2, .slice (some y) P.stmts.length c3] 26)).alloc (.cells #[.string ⟨#[]⟩, .int .i64 0, .int .i64 0, .int .i64 0, .slice none 0 0] 44)).alloc (.cells #[.string x.kind, .int .i64 x.x, .int .i64 x.y, .slice av x.args.length cv] 65)).alloc (.cells #[.string x.kind, .int .i64 x.y, .int .i64 x.x, .int .i64 (k : Int), .slice av x.args.length cv] 44)) := hid (by rw [hW4, hW3, hW2, hW1]; rfl)
  have HI0 : Hid (IntsR w n0 (.slice av x.args.length cv) x.args) := hid (by
    obtain ⟨y', x', av', cv', hy', hxk2, f0, f1, f2, f3, hI'⟩ := HP.out.stmts.at hk
    obtain rfl := Option.some.inj hy'
    obtain rfl := Option.some.inj (hxk.symm.trans hxk2)
    have g3 := (hx1.trans hx2).cellx f3
    rw [hW2, hW1] at g3
    unfold pcells at g3
    rw [e3] at g3
    obtain ⟨rfl, rfl⟩ : av = av' ∧ cv = cv' := by simpa using g3
    exact hI')
  clear hW1 hW2 hW3 hW4 hx1 hx2 hx3 hx4 s1 s2 s3 hxk hxk' hI h
  unfold pval
  have Hr : Hid (P.ruleR k x = ⟨bBase, x.x, x.y, k, []⟩) := hid (by unfold PP.ruleR; rw [hkx]; rfl)
  have hkk := hkx
  unfold PS.isK kAddr at hkk
  clear hkx
  clear HWe
  go_enter Tryz.func13, Tryz.ntmps13
  go_wp2
  obtain ⟨V, hV⟩ : ∃ V, V = (((w.alloc (.cells #[.slice a1 P.vars.length c1, .slice a2 P.funs.length c2, .slice (some y) P.stmts.length c3] 26)).alloc (.cells #[.string ⟨#[98, 97, 115, 101]⟩, .int .i64 x.x, .int .i64 x.y, .int .i64 (k : Int), .slice none 0 0] 44)).alloc (.cells #[.string x.kind, .int .i64 x.x, .int .i64 x.y, .slice av x.args.length cv] 65)).alloc (.cells #[.string ⟨#[98, 97, 115, 101]⟩, .int .i64 x.x, .int .i64 x.y, .int .i64 (k : Int), .slice none 0 0] 44) := ⟨_, rfl⟩
  have hxV : Ext w V := by rw [hV]; exact ((((Ext.refl _).alloc _).alloc _).alloc _).alloc _
  have HB9 : Blk V (w.heap.size + 1) #[.string ⟨#[98, 97, 115, 101]⟩, .int .i64 x.x, .int .i64 x.y, .int .i64 (k : Int), .slice none 0 0] 44 := by
    rw [hV]
    have := ((Blk.new (w.alloc (.cells #[.slice a1 P.vars.length c1, .slice a2 P.funs.length c2, .slice (some y) P.stmts.length c3] 26)) #[.string ⟨#[98, 97, 115, 101]⟩, .int .i64 x.x, .int .i64 x.y, .int .i64 (k : Int), .slice none 0 0] 44).alloc (.cells #[.string x.kind, .int .i64 x.x, .int .i64 x.y, .slice av x.args.length cv] 65)).alloc (.cells #[.string ⟨#[98, 97, 115, 101]⟩, .int .i64 x.x, .int .i64 x.y, .int .i64 (k : Int), .slice none 0 0] 44)
    rwa [heap_size_alloc] at this
  rw [← hV]
  exact bodyPost_ret (v := .agg #[.string ⟨#[98, 97, 115, 101]⟩, .int .i64 x.x, .int .i64 x.y, .int .i64 (k : Int), .slice none 0 0]) (by simp [results, Tryz.results13, go_sem, HB9.av 0 rfl, HB9.av 1 rfl, HB9.av 2 rfl, HB9.av 3 rfl, HB9.av 4 rfl]) rfl ⟨_, by rw [Hr.out]; rfl, by rw [Hr.out]; exact intsR_nil _ _, hxV⟩
set_option maxRecDepth 100000 in
set_option maxHeartbeats 6400000 in
theorem rruleof_rest (a1 a2 a3 : Option Addr) (c1 c2 c3 : Nat) (P : PP) (k : Nat) (x : PS) (hxk : P.stmts[k]? = some x) (w : World) (n0 : Nat) (h : ProgR w n0 (.slice a1 P.vars.length c1) (.slice a2 P.funs.length c2) (.slice a3 P.stmts.length c3) P) (hf1 : P.vars.length ≤ 1000) (hf3 : P.stmts.length ≤ 1000) (hkx : x.isK kAddr = false ∧ x.isK kNew = false ∧ x.isK kFun = false)  :
    Calls Tryz.prog 13 #[pval a1 a2 a3 c1 c2 c3 P, .int .i64 (k : Int)] w fun e w' => ∃ av, e = .returned ((P.ruleR k x).val av) ∧ IntsR w n0 av (P.ruleR k x).args ∧ Ext w w' := by
  obtain ⟨W1, hW1⟩ : ∃ W1, W1 = w.alloc (.cells (pcells a1 a2 a3 c1 c2 c3 P) 26) := ⟨_, rfl⟩
  have hx1 : Ext w W1 := by rw [hW1]; exact (Ext.refl _).alloc _
  obtain ⟨W2, hW2⟩ : ∃ W2, W2 = W1.alloc (.cells #[.string ⟨#[]⟩, .int .i64 0, .int .i64 0, .int .i64 0, .slice none 0 0] 44) := ⟨_, rfl⟩
  have hx2 : Ext W1 W2 := by rw [hW2]; exact (Ext.refl _).alloc _
  have hk : k < P.stmts.length := by
    rcases Nat.lt_or_ge k P.stmts.length with h | h
    · exact h
    · rw [List.getElem?_eq_none h] at hxk; cases hxk
  have hml := h.stmts.len
  obtain ⟨y, x', av, cv, rfl, hxk', e0, e1, e2, e3, hI⟩ := (h.ext (hx1.trans hx2)).stmts.at hk
  obtain rfl := Option.some.inj (hxk.symm.trans hxk')
  obtain ⟨W3, hW3⟩ : ∃ W3, W3 = W2.alloc (.cells (scells x av cv) 65) := ⟨_, rfl⟩
  have hx3 : Ext W2 W3 := by rw [hW3]; exact (Ext.refl _).alloc _
  obtain ⟨W4, hW4⟩ : ∃ W4, W4 = W3.alloc (.cells #[.string x.kind, .int .i64 x.y, .int .i64 x.x, .int .i64 (k : Int), .slice av x.args.length cv] 44) := ⟨_, rfl⟩
  have hx4 : Ext W3 W4 := by rw [hW4]; exact (Ext.refl _).alloc _
  have s1 : W1.heap.size = w.heap.size + 1 := by rw [hW1, heap_size_alloc]
  have s2 : W2.heap.size = w.heap.size + 1 + 1 := by rw [hW2, heap_size_alloc, s1]
  have s3 : W3.heap.size = w.heap.size + 1 + 1 + 1 := by rw [hW3, heap_size_alloc, s2]
  have HX := hid (((hx1.trans hx2).trans hx3).trans hx4)
  have HB0 : Hid (Blk W4 w.heap.size (pcells a1 a2 (some y) c1 c2 c3 P) 26) := hid (by
    have : Blk W1 w.heap.size (pcells a1 a2 (some y) c1 c2 c3 P) 26 := by rw [hW1]; exact Blk.new _ _ _
    exact this.ext ((hx2.trans hx3).trans hx4))
  have HB1 : Hid (Blk W4 (w.heap.size + 1) #[.string ⟨#[]⟩, .int .i64 0, .int .i64 0, .int .i64 0, .slice none 0 0] 44) := hid (by
    have : Blk W2 (w.heap.size + 1) #[.string ⟨#[]⟩, .int .i64 0, .int .i64 0, .int .i64 0, .slice none 0 0] 44 := by rw [← s1, hW2]; exact Blk.new _ _ _
    exact this.ext (hx3.trans hx4))
  have HB2 : Hid (Blk W4 (w.heap.size + 1 + 1) (scells x av cv) 65) := hid (by
    have : Blk W3 (w.heap.size + 1 + 1) (scells x av cv) 65 := by rw [← s2, hW3]; exact Blk.new _ _ _
    exact this.ext hx4)
  have HB3 : Hid (Blk W4 (w.heap.size + 1 + 1 + 1) #[.string x.kind, .int .i64 x.y, .int .i64 x.x, .int .i64 (k : Int), .slice av x.args.length cv] 44) := hid (by rw [← s3, hW4]; exact Blk.new _ _ _)
  have HI := hid hI
  have HP := hid h
  rw [hW2, hW1] at e0 e1 e2 e3
  unfold pcells at e0 e1 e2 e3
  have HWe : Hid (W4 = (((w.alloc (.cells #[.slice a1 P.vars.length c1, .slice a2 P.funs.length c2, .slice (some y) P.stmts.length c3] 26)).alloc (.cells #[.string ⟨#[]⟩, .int .i64 0, .int .i64 0, .int .i64 0, .slice none 0 0] 44)).alloc (.cells #[.string x.kind, .int .i64 x.x, .int .i64 x.y, .slice av x.args.length cv] 65)).alloc (.cells #[.string x.kind, .int .i64 x.y, .int .i64 x.x, .int .i64 (k : Int), .slice av x.args.length cv] 44)) := hid (by rw [hW4, hW3, hW2, hW1]; rfl)
  have HI0 : Hid (IntsR w n0 (.slice av x.args.length cv) x.args) := hid (by
    obtain ⟨y', x', av', cv', hy', hxk2, f0, f1, f2, f3, hI'⟩ := HP.out.stmts.at hk
    obtain rfl := Option.some.inj hy'
    obtain rfl := Option.some.inj (hxk.symm.trans hxk2)
    have g3 := (hx1.trans hx2).cellx f3
    rw [hW2, hW1] at g3
    unfold pcells at g3
    rw [e3] at g3
    obtain ⟨rfl, rfl⟩ : av = av' ∧ cv = cv' := by simpa using g3
    exact hI')
  clear hW1 hW2 hW3 hW4 hx1 hx2 hx3 hx4 s1 s2 s3 hxk hxk' hI h
  unfold pval
  obtain ⟨g1, g2, g3⟩ := hkx
  have Hr : Hid (P.ruleR k x = ⟨x.kind, x.y, x.x, k, x.args⟩) := hid (by unfold PP.ruleR; rw [g1, g2, g3]; rfl)
  have h1 : (x.kind.toList == [97, 100, 100, 114]) = false := g1
  have h5 : (x.kind.toList == [110, 101, 119]) = false := g2
  have h6 : (x.kind.toList == [102, 117, 110]) = false := g3
  clear g1 g2 g3
  clear HWe
  go_enter Tryz.func13, Tryz.ntmps13
  go_wp2
  obtain ⟨V, hV⟩ : ∃ V, V = (((w.alloc (.cells #[.slice a1 P.vars.length c1, .slice a2 P.funs.length c2, .slice (some y) P.stmts.length c3] 26)).alloc (.cells #[.string x.kind, .int .i64 x.y, .int .i64 x.x, .int .i64 (k : Int), .slice av x.args.length cv] 44)).alloc (.cells #[.string x.kind, .int .i64 x.x, .int .i64 x.y, .slice av x.args.length cv] 65)).alloc (.cells #[.string x.kind, .int .i64 x.y, .int .i64 x.x, .int .i64 (k : Int), .slice av x.args.length cv] 44) := ⟨_, rfl⟩
  have hxV : Ext w V := by rw [hV]; exact ((((Ext.refl _).alloc _).alloc _).alloc _).alloc _
  have HB9 : Blk V (w.heap.size + 1) #[.string x.kind, .int .i64 x.y, .int .i64 x.x, .int .i64 (k : Int), .slice av x.args.length cv] 44 := by
    rw [hV]
    have := ((Blk.new (w.alloc (.cells #[.slice a1 P.vars.length c1, .slice a2 P.funs.length c2, .slice (some y) P.stmts.length c3] 26)) #[.string x.kind, .int .i64 x.y, .int .i64 x.x, .int .i64 (k : Int), .slice av x.args.length cv] 44).alloc (.cells #[.string x.kind, .int .i64 x.x, .int .i64 x.y, .slice av x.args.length cv] 65)).alloc (.cells #[.string x.kind, .int .i64 x.y, .int .i64 x.x, .int .i64 (k : Int), .slice av x.args.length cv] 44)
    rwa [heap_size_alloc] at this
  rw [← hV]
  exact bodyPost_ret (v := .agg #[.string x.kind, .int .i64 x.y, .int .i64 x.x, .int .i64 (k : Int), .slice av x.args.length cv]) (by simp [results, Tryz.results13, go_sem, HB9.av 0 rfl, HB9.av 1 rfl, HB9.av 2 rfl, HB9.av 3 rfl, HB9.av 4 rfl]) rfl ⟨_, by rw [Hr.out]; rfl, by rw [Hr.out]; exact HI0.out, hxV⟩
set_option maxRecDepth 100000 in
set_option maxHeartbeats 6400000 in
theorem rruleof_new (a1 a2 a3 : Option Addr) (c1 c2 c3 : Nat) (P : PP) (k : Nat) (x : PS) (hxk : P.stmts[k]? = some x) (w : World) (n0 : Nat) (h : ProgR w n0 (.slice a1 P.vars.length c1) (.slice a2 P.funs.length c2) (.slice a3 P.stmts.length c3) P) (hf1 : P.vars.length ≤ 1000) (hf3 : P.stmts.length ≤ 1000) (hkx : x.isK kNew = true)  :
    Calls Tryz.prog 13 #[pval a1 a2 a3 c1 c2 c3 P, .int .i64 (k : Int)] w fun e w' => ∃ av, e = .returned ((P.ruleR k x).val av) ∧ IntsR w n0 av (P.ruleR k x).args ∧ Ext w w' := by
  have HPl := fun w1 (y : Ext w w1) => hid (rplaceof_any a1 a2 a3 c1 c2 c3 P (k : Int) w1 n0 (h.ext y) hf1 hf3)
  obtain ⟨W1, hW1⟩ : ∃ W1, W1 = w.alloc (.cells (pcells a1 a2 a3 c1 c2 c3 P) 26) := ⟨_, rfl⟩
  have hx1 : Ext w W1 := by rw [hW1]; exact (Ext.refl _).alloc _
  obtain ⟨W2, hW2⟩ : ∃ W2, W2 = W1.alloc (.cells #[.string ⟨#[]⟩, .int .i64 0, .int .i64 0, .int .i64 0, .slice none 0 0] 44) := ⟨_, rfl⟩
  have hx2 : Ext W1 W2 := by rw [hW2]; exact (Ext.refl _).alloc _
  have hk : k < P.stmts.length := by
    rcases Nat.lt_or_ge k P.stmts.length with h | h
    · exact h
    · rw [List.getElem?_eq_none h] at hxk; cases hxk
  have hml := h.stmts.len
  obtain ⟨y, x', av, cv, rfl, hxk', e0, e1, e2, e3, hI⟩ := (h.ext (hx1.trans hx2)).stmts.at hk
  obtain rfl := Option.some.inj (hxk.symm.trans hxk')
  obtain ⟨W3, hW3⟩ : ∃ W3, W3 = W2.alloc (.cells (scells x av cv) 65) := ⟨_, rfl⟩
  have hx3 : Ext W2 W3 := by rw [hW3]; exact (Ext.refl _).alloc _
  obtain ⟨W4, hW4⟩ : ∃ W4, W4 = W3.alloc (.cells #[.string x.kind, .int .i64 x.y, .int .i64 x.x, .int .i64 (k : Int), .slice av x.args.length cv] 44) := ⟨_, rfl⟩
  have hx4 : Ext W3 W4 := by rw [hW4]; exact (Ext.refl _).alloc _
  have s1 : W1.heap.size = w.heap.size + 1 := by rw [hW1, heap_size_alloc]
  have s2 : W2.heap.size = w.heap.size + 1 + 1 := by rw [hW2, heap_size_alloc, s1]
  have s3 : W3.heap.size = w.heap.size + 1 + 1 + 1 := by rw [hW3, heap_size_alloc, s2]
  have HX := hid (((hx1.trans hx2).trans hx3).trans hx4)
  have HB0 : Hid (Blk W4 w.heap.size (pcells a1 a2 (some y) c1 c2 c3 P) 26) := hid (by
    have : Blk W1 w.heap.size (pcells a1 a2 (some y) c1 c2 c3 P) 26 := by rw [hW1]; exact Blk.new _ _ _
    exact this.ext ((hx2.trans hx3).trans hx4))
  have HB1 : Hid (Blk W4 (w.heap.size + 1) #[.string ⟨#[]⟩, .int .i64 0, .int .i64 0, .int .i64 0, .slice none 0 0] 44) := hid (by
    have : Blk W2 (w.heap.size + 1) #[.string ⟨#[]⟩, .int .i64 0, .int .i64 0, .int .i64 0, .slice none 0 0] 44 := by rw [← s1, hW2]; exact Blk.new _ _ _
    exact this.ext (hx3.trans hx4))
  have HB2 : Hid (Blk W4 (w.heap.size + 1 + 1) (scells x av cv) 65) := hid (by
    have : Blk W3 (w.heap.size + 1 + 1) (scells x av cv) 65 := by rw [← s2, hW3]; exact Blk.new _ _ _
    exact this.ext hx4)
  have HB3 : Hid (Blk W4 (w.heap.size + 1 + 1 + 1) #[.string x.kind, .int .i64 x.y, .int .i64 x.x, .int .i64 (k : Int), .slice av x.args.length cv] 44) := hid (by rw [← s3, hW4]; exact Blk.new _ _ _)
  have HI := hid hI
  have HP := hid h
  rw [hW2, hW1] at e0 e1 e2 e3
  unfold pcells at e0 e1 e2 e3
  have HWe : Hid (W4 = (((w.alloc (.cells #[.slice a1 P.vars.length c1, .slice a2 P.funs.length c2, .slice (some y) P.stmts.length c3] 26)).alloc (.cells #[.string ⟨#[]⟩, .int .i64 0, .int .i64 0, .int .i64 0, .slice none 0 0] 44)).alloc (.cells #[.string x.kind, .int .i64 x.x, .int .i64 x.y, .slice av x.args.length cv] 65)).alloc (.cells #[.string x.kind, .int .i64 x.y, .int .i64 x.x, .int .i64 (k : Int), .slice av x.args.length cv] 44)) := hid (by rw [hW4, hW3, hW2, hW1]; rfl)
  have HI0 : Hid (IntsR w n0 (.slice av x.args.length cv) x.args) := hid (by
    obtain ⟨y', x', av', cv', hy', hxk2, f0, f1, f2, f3, hI'⟩ := HP.out.stmts.at hk
    obtain rfl := Option.some.inj hy'
    obtain rfl := Option.some.inj (hxk.symm.trans hxk2)
    have g3 := (hx1.trans hx2).cellx f3
    rw [hW2, hW1] at g3
    unfold pcells at g3
    rw [e3] at g3
    obtain ⟨rfl, rfl⟩ : av = av' ∧ cv = cv' := by simpa using g3
    exact hI')
  clear hW1 hW2 hW3 hW4 hx1 hx2 hx3 hx4 s1 s2 s3 hxk hxk' hI h
  unfold pval
  unfold pval at HPl
  have h1 : (x.kind.toList == [97, 100, 100, 114]) = false := isK_ne hkx (k' := kAddr) rfl
  have hkk := hkx
  unfold PS.isK kNew at hkk
  have Hr : Hid (P.ruleR k x = ⟨bBase, x.x, P.placeV k, k, []⟩) := hid (by unfold PP.ruleR; rw [isK_ne hkx (k' := kAddr) rfl, hkx]; rfl)
  clear hkx
  have x0 := Ext.refl W4
  have m0 := (HB2.out.ext x0).kc (X := fun _ => False) (fun e => e) 0 rfl
  have m1 := (HB2.out.ext x0).kc (X := fun _ => False) (fun e => e) 1 rfl
  have m2 := (HB2.out.ext x0).kc (X := fun _ => False) (fun e => e) 2 rfl
  have m3 := (HB2.out.ext x0).kc (X := fun _ => False) (fun e => e) 3 rfl
  have d0 := (HB0.out.ext x0).kc (X := fun _ => False) (fun e => e) 0 rfl
  have d1 := (HB0.out.ext x0).kc (X := fun _ => False) (fun e => e) 1 rfl
  have d2 := (HB0.out.ext x0).kc (X := fun _ => False) (fun e => e) 2 rfl
  simp only [pcells, scells, List.getElem_toArray, List.getElem_cons_zero, List.getElem_cons_succ] at m0 m1 m2 m3 d0 d1 d2
  clear x0
  go_enter Tryz.func13, Tryz.ntmps13
  go_wp2
  rw [← HWe.out]
  refine wp_flowT (fun _ => False) (by kernel_rfl) (by kernel_rfl) ?_
  repeat (apply FlowT.d; (intro w1 hk; unfold does; go_simp; (try go_ints); (first | exact DetR.mk | (simp only [↓IntWalk.iteOmega, Oper.doesUpon_value]; exact DetR.mk) | (simp only [↓IntWalk.iteOmega]; go_simp; (try go_ints); exact DetR.mk))); simp only [Act.put, List.setIfInBounds_toArray, List.set_cons_zero, List.set_cons_succ])
  apply FlowT.d
  · intro w1 hk
    unfold does
    go_simp
    exact CallR.det ((HPl w1 (HX.out.trans hk.ext)).out)
  simp only [Act.put, List.setIfInBounds_toArray, List.set_cons_zero, List.set_cons_succ]
  repeat (apply FlowT.d; (intro w1 hk; unfold does; go_simp; (try go_ints); (first | exact DetR.mk | (simp only [↓IntWalk.iteOmega, Oper.doesUpon_value]; exact DetR.mk) | (simp only [↓IntWalk.iteOmega]; go_simp; (try go_ints); exact DetR.mk))); simp only [Act.put, List.setIfInBounds_toArray, List.set_cons_zero, List.set_cons_succ])
  refine FlowT.last (fun _ w' => Blk w' (w.heap.size + 1 + 1 + 1) #[.string ⟨#[98, 97, 115, 101]⟩, .int .i64 x.x, .int .i64 (P.placeV k), .int .i64 (k : Int), .slice none 0 0] 44 ∧ Blk w' (w.heap.size + 1) #[.string ⟨#[]⟩, .int .i64 0, .int .i64 0, .int .i64 0, .slice none 0 0] 44 ∧ Ext w w') 7 rfl (by kernel_rfl) (by kernel_rfl) (fun w1 hC hk => ?_) (fun _ w2 hR => ?_)
  · have hB := HB3.out.ext hC
    have c0 := hB.av 0 rfl
    have c1 := hB.av 1 rfl
    have c2 := hB.av 2 rfl
    have c3 := hB.av 3 rfl
    have c4 := hB.av 4 rfl
    have f0 := hB.free
    have hZ := HB1.out.ext hC
    unfold does
    go_simp
    exact ⟨store5 hB, hZ.keep (store5_keep _ _ _ _ _ _ _) (fun e => by omega), Keep.new (HX.out.trans hC) (store5_keep _ _ _ _ _ _ _) (fun b hb => by omega)⟩
  obtain ⟨hB, hZ, hxw⟩ := hR
  simp only [Act.put]
  have Hxw := hid hxw
  have HZ := hid hZ
  have c0 := hB.av 0 rfl
  have c1 := hB.av 1 rfl
  have c2 := hB.av 2 rfl
  have c3 := hB.av 3 rfl
  have c4 := hB.av 4 rfl
  have z0 := hZ.av 0 rfl
  have z1 := hZ.av 1 rfl
  have z2 := hZ.av 2 rfl
  have z3 := hZ.av 3 rfl
  have z4 := hZ.av 4 rfl
  have f0 := hZ.free
  simp only [List.getElem_toArray, List.getElem_cons_zero, List.getElem_cons_succ] at c0 c1 c2 c3 c4 z0 z1 z2 z3 z4
  clear hB hZ hxw m0 m1 m2 m3 d0 d1 d2
  go_wp2
  have h9 := store5 (b0 := .string ⟨#[98, 97, 115, 101]⟩) (b1 := .int .i64 x.x) (b2 := .int .i64 (P.placeV k)) (b3 := .int .i64 (k : Int)) (b4 := .slice none 0 0) HZ.out
  have x9 := Keep.new Hxw.out (store5_keep w2 (w.heap.size + 1) (.string ⟨#[98, 97, 115, 101]⟩) (.int .i64 x.x) (.int .i64 (P.placeV k)) (.int .i64 (k : Int)) (.slice none 0 0)) (fun b hb => by omega)
  exact bodyPost_ret (v := .agg #[.string ⟨#[98, 97, 115, 101]⟩, .int .i64 x.x, .int .i64 (P.placeV k), .int .i64 (k : Int), .slice none 0 0]) (by simp [results, Tryz.results13, go_sem, h9.av 0 rfl, h9.av 1 rfl, h9.av 2 rfl, h9.av 3 rfl, h9.av 4 rfl]) rfl ⟨_, by rw [Hr.out]; rfl, by rw [Hr.out]; exact intsR_nil _ _, x9⟩
set_option maxRecDepth 100000 in
set_option maxHeartbeats 6400000 in
theorem rruleof_fun (a1 a2 a3 : Option Addr) (c1 c2 c3 : Nat) (P : PP) (k : Nat) (x : PS) (hxk : P.stmts[k]? = some x) (w : World) (n0 : Nat) (h : ProgR w n0 (.slice a1 P.vars.length c1) (.slice a2 P.funs.length c2) (.slice a3 P.stmts.length c3) P) (hf1 : P.vars.length ≤ 1000) (hf3 : P.stmts.length ≤ 1000) (hkx : x.isK kFun = true) (hyy : 0 ≤ x.y ∧ x.y ≤ 100000) :
    Calls Tryz.prog 13 #[pval a1 a2 a3 c1 c2 c3 P, .int .i64 (k : Int)] w fun e w' => ∃ av, e = .returned ((P.ruleR k x).val av) ∧ IntsR w n0 av (P.ruleR k x).args ∧ Ext w w' := by
  have HNo := fun w1 (y : Ext w w1) => hid (rnodesof_any a1 a2 a3 c1 c2 c3 P w1 n0 (h.ext y) hf1 hf3)
  have hnl := P.nodesV_le2
  obtain ⟨W1, hW1⟩ : ∃ W1, W1 = w.alloc (.cells (pcells a1 a2 a3 c1 c2 c3 P) 26) := ⟨_, rfl⟩
  have hx1 : Ext w W1 := by rw [hW1]; exact (Ext.refl _).alloc _
  obtain ⟨W2, hW2⟩ : ∃ W2, W2 = W1.alloc (.cells #[.string ⟨#[]⟩, .int .i64 0, .int .i64 0, .int .i64 0, .slice none 0 0] 44) := ⟨_, rfl⟩
  have hx2 : Ext W1 W2 := by rw [hW2]; exact (Ext.refl _).alloc _
  have hk : k < P.stmts.length := by
    rcases Nat.lt_or_ge k P.stmts.length with h | h
    · exact h
    · rw [List.getElem?_eq_none h] at hxk; cases hxk
  have hml := h.stmts.len
  obtain ⟨y, x', av, cv, rfl, hxk', e0, e1, e2, e3, hI⟩ := (h.ext (hx1.trans hx2)).stmts.at hk
  obtain rfl := Option.some.inj (hxk.symm.trans hxk')
  obtain ⟨W3, hW3⟩ : ∃ W3, W3 = W2.alloc (.cells (scells x av cv) 65) := ⟨_, rfl⟩
  have hx3 : Ext W2 W3 := by rw [hW3]; exact (Ext.refl _).alloc _
  obtain ⟨W4, hW4⟩ : ∃ W4, W4 = W3.alloc (.cells #[.string x.kind, .int .i64 x.y, .int .i64 x.x, .int .i64 (k : Int), .slice av x.args.length cv] 44) := ⟨_, rfl⟩
  have hx4 : Ext W3 W4 := by rw [hW4]; exact (Ext.refl _).alloc _
  have s1 : W1.heap.size = w.heap.size + 1 := by rw [hW1, heap_size_alloc]
  have s2 : W2.heap.size = w.heap.size + 1 + 1 := by rw [hW2, heap_size_alloc, s1]
  have s3 : W3.heap.size = w.heap.size + 1 + 1 + 1 := by rw [hW3, heap_size_alloc, s2]
  have HX := hid (((hx1.trans hx2).trans hx3).trans hx4)
  have HB0 : Hid (Blk W4 w.heap.size (pcells a1 a2 (some y) c1 c2 c3 P) 26) := hid (by
    have : Blk W1 w.heap.size (pcells a1 a2 (some y) c1 c2 c3 P) 26 := by rw [hW1]; exact Blk.new _ _ _
    exact this.ext ((hx2.trans hx3).trans hx4))
  have HB1 : Hid (Blk W4 (w.heap.size + 1) #[.string ⟨#[]⟩, .int .i64 0, .int .i64 0, .int .i64 0, .slice none 0 0] 44) := hid (by
    have : Blk W2 (w.heap.size + 1) #[.string ⟨#[]⟩, .int .i64 0, .int .i64 0, .int .i64 0, .slice none 0 0] 44 := by rw [← s1, hW2]; exact Blk.new _ _ _
    exact this.ext (hx3.trans hx4))
  have HB2 : Hid (Blk W4 (w.heap.size + 1 + 1) (scells x av cv) 65) := hid (by
    have : Blk W3 (w.heap.size + 1 + 1) (scells x av cv) 65 := by rw [← s2, hW3]; exact Blk.new _ _ _
    exact this.ext hx4)
  have HB3 : Hid (Blk W4 (w.heap.size + 1 + 1 + 1) #[.string x.kind, .int .i64 x.y, .int .i64 x.x, .int .i64 (k : Int), .slice av x.args.length cv] 44) := hid (by rw [← s3, hW4]; exact Blk.new _ _ _)
  have HI := hid hI
  have HP := hid h
  rw [hW2, hW1] at e0 e1 e2 e3
  unfold pcells at e0 e1 e2 e3
  have HWe : Hid (W4 = (((w.alloc (.cells #[.slice a1 P.vars.length c1, .slice a2 P.funs.length c2, .slice (some y) P.stmts.length c3] 26)).alloc (.cells #[.string ⟨#[]⟩, .int .i64 0, .int .i64 0, .int .i64 0, .slice none 0 0] 44)).alloc (.cells #[.string x.kind, .int .i64 x.x, .int .i64 x.y, .slice av x.args.length cv] 65)).alloc (.cells #[.string x.kind, .int .i64 x.y, .int .i64 x.x, .int .i64 (k : Int), .slice av x.args.length cv] 44)) := hid (by rw [hW4, hW3, hW2, hW1]; rfl)
  have HI0 : Hid (IntsR w n0 (.slice av x.args.length cv) x.args) := hid (by
    obtain ⟨y', x', av', cv', hy', hxk2, f0, f1, f2, f3, hI'⟩ := HP.out.stmts.at hk
    obtain rfl := Option.some.inj hy'
    obtain rfl := Option.some.inj (hxk.symm.trans hxk2)
    have g3 := (hx1.trans hx2).cellx f3
    rw [hW2, hW1] at g3
    unfold pcells at g3
    rw [e3] at g3
    obtain ⟨rfl, rfl⟩ : av = av' ∧ cv = cv' := by simpa using g3
    exact hI')
  clear hW1 hW2 hW3 hW4 hx1 hx2 hx3 hx4 s1 s2 s3 hxk hxk' hI h
  unfold pval
  unfold pval at HNo
  have h1 : (x.kind.toList == [97, 100, 100, 114]) = false := isK_ne hkx (k' := kAddr) rfl
  have h5 : (x.kind.toList == [110, 101, 119]) = false := isK_ne hkx (k' := kNew) rfl
  have hkk := hkx
  unfold PS.isK kFun at hkk
  obtain ⟨N, hN⟩ : ∃ N, N = P.nodesV := ⟨_, rfl⟩
  have Hr : Hid (P.ruleR k x = ⟨bBase, x.x, (N : Int) + x.y, k, []⟩) := hid (by unfold PP.ruleR; rw [isK_ne hkx (k' := kAddr) rfl, isK_ne hkx (k' := kNew) rfl, hkx, hN]; rfl)
  rw [← hN] at HNo hnl
  obtain ⟨hg1, hg2⟩ := hyy
  clear hkx hN
  have x0 := Ext.refl W4
  have m0 := (HB2.out.ext x0).kc (X := fun _ => False) (fun e => e) 0 rfl
  have m1 := (HB2.out.ext x0).kc (X := fun _ => False) (fun e => e) 1 rfl
  have m2 := (HB2.out.ext x0).kc (X := fun _ => False) (fun e => e) 2 rfl
  have m3 := (HB2.out.ext x0).kc (X := fun _ => False) (fun e => e) 3 rfl
  have d0 := (HB0.out.ext x0).kc (X := fun _ => False) (fun e => e) 0 rfl
  have d1 := (HB0.out.ext x0).kc (X := fun _ => False) (fun e => e) 1 rfl
  have d2 := (HB0.out.ext x0).kc (X := fun _ => False) (fun e => e) 2 rfl
  simp only [pcells, scells, List.getElem_toArray, List.getElem_cons_zero, List.getElem_cons_succ] at m0 m1 m2 m3 d0 d1 d2
  clear x0
  go_enter Tryz.func13, Tryz.ntmps13
  go_wp2
  rw [← HWe.out]
  refine wp_flowT (fun _ => False) (by kernel_rfl) (by kernel_rfl) ?_
  repeat (apply FlowT.d; (intro w1 hk; unfold does; go_simp; (try go_ints); (first | exact DetR.mk | (simp only [↓IntWalk.iteOmega, Oper.doesUpon_value]; exact DetR.mk) | (simp only [↓IntWalk.iteOmega]; go_simp; (try go_ints); exact DetR.mk))); simp only [Act.put, List.setIfInBounds_toArray, List.set_cons_zero, List.set_cons_succ])
  apply FlowT.d
  · intro w1 hk
    unfold does
    go_simp
    exact CallR.det ((HNo w1 (HX.out.trans hk.ext)).out)
  simp only [Act.put, List.setIfInBounds_toArray, List.set_cons_zero, List.set_cons_succ]
  repeat (apply FlowT.d; (intro w1 hk; unfold does; go_simp; (try go_ints); (first | exact DetR.mk | (simp only [↓IntWalk.iteOmega, Oper.doesUpon_value]; exact DetR.mk) | (simp only [↓IntWalk.iteOmega]; go_simp; (try go_ints); exact DetR.mk))); simp only [Act.put, List.setIfInBounds_toArray, List.set_cons_zero, List.set_cons_succ])
  refine FlowT.last (fun _ w' => Blk w' (w.heap.size + 1 + 1 + 1) #[.string ⟨#[98, 97, 115, 101]⟩, .int .i64 x.x, .int .i64 ((N : Int) + x.y), .int .i64 (k : Int), .slice none 0 0] 44 ∧ Blk w' (w.heap.size + 1) #[.string ⟨#[]⟩, .int .i64 0, .int .i64 0, .int .i64 0, .slice none 0 0] 44 ∧ Ext w w') 9 rfl (by kernel_rfl) (by kernel_rfl) (fun w1 hC hk => ?_) (fun _ w2 hR => ?_)
  · have hB := HB3.out.ext hC
    have c0 := hB.av 0 rfl
    have c1 := hB.av 1 rfl
    have c2 := hB.av 2 rfl
    have c3 := hB.av 3 rfl
    have c4 := hB.av 4 rfl
    have f0 := hB.free
    have hZ := HB1.out.ext hC
    unfold does
    go_simp
    exact ⟨store5 hB, hZ.keep (store5_keep _ _ _ _ _ _ _) (fun e => by omega), Keep.new (HX.out.trans hC) (store5_keep _ _ _ _ _ _ _) (fun b hb => by omega)⟩
  obtain ⟨hB, hZ, hxw⟩ := hR
  simp only [Act.put]
  have Hxw := hid hxw
  have HZ := hid hZ
  have c0 := hB.av 0 rfl
  have c1 := hB.av 1 rfl
  have c2 := hB.av 2 rfl
  have c3 := hB.av 3 rfl
  have c4 := hB.av 4 rfl
  have z0 := hZ.av 0 rfl
  have z1 := hZ.av 1 rfl
  have z2 := hZ.av 2 rfl
  have z3 := hZ.av 3 rfl
  have z4 := hZ.av 4 rfl
  have f0 := hZ.free
  simp only [List.getElem_toArray, List.getElem_cons_zero, List.getElem_cons_succ] at c0 c1 c2 c3 c4 z0 z1 z2 z3 z4
  clear hB hZ hxw m0 m1 m2 m3 d0 d1 d2
  go_wp2
  have h9 := store5 (b0 := .string ⟨#[98, 97, 115, 101]⟩) (b1 := .int .i64 x.x) (b2 := .int .i64 ((N : Int) + x.y)) (b3 := .int .i64 (k : Int)) (b4 := .slice none 0 0) HZ.out
  have x9 := Keep.new Hxw.out (store5_keep w2 (w.heap.size + 1) (.string ⟨#[98, 97, 115, 101]⟩) (.int .i64 x.x) (.int .i64 ((N : Int) + x.y)) (.int .i64 (k : Int)) (.slice none 0 0)) (fun b hb => by omega)
  exact bodyPost_ret (v := .agg #[.string ⟨#[98, 97, 115, 101]⟩, .int .i64 x.x, .int .i64 ((N : Int) + x.y), .int .i64 (k : Int), .slice none 0 0]) (by simp [results, Tryz.results13, go_sem, h9.av 0 rfl, h9.av 1 rfl, h9.av 2 rfl, h9.av 3 rfl, h9.av 4 rfl]) rfl ⟨_, by rw [Hr.out]; rfl, by rw [Hr.out]; exact intsR_nil _ _, x9⟩
/-- The rule of any statement of a well program. -/
theorem rruleof_any (a1 a2 a3 : Option Addr) (c1 c2 c3 : Nat) (P : PP) (k : Nat) (x : PS) (hxk : P.stmts[k]? = some x) (w : World) (n0 : Nat) (h : ProgR w n0 (.slice a1 P.vars.length c1) (.slice a2 P.funs.length c2) (.slice a3 P.stmts.length c3) P) (hw : P.Well) :
    Calls Tryz.prog 13 #[pval a1 a2 a3 c1 c2 c3 P, .int .i64 (k : Int)] w fun e w' => ∃ av, e = .returned ((P.ruleR k x).val av) ∧ IntsR w n0 av (P.ruleR k x).args ∧ Ext w w' := by
  have hk : k < P.stmts.length := by
    rcases Nat.lt_or_ge k P.stmts.length with h | h
    · exact h
    · rw [List.getElem?_eq_none h] at hxk; cases hxk
  have h0 := hw.2 k x hk hxk
  have hg := PP.good h0
  obtain ⟨f1, f2, f3⟩ := hw.few
  cases h1 : x.isK kAddr with
  | true =>
    have hy := hg.yv (isK_ne h1 (k' := kFun) rfl) (isK_ne h1 (k' := kNew) rfl)
    exact rruleof_addr a1 a2 a3 c1 c2 c3 P k x hxk w n0 h (by omega) (by omega) h1
  | false =>
    cases h2 : x.isK kNew with
    | true => exact rruleof_new a1 a2 a3 c1 c2 c3 P k x hxk w n0 h (by omega) (by omega) h2
    | false =>
      cases h3 : x.isK kFun with
      | true =>
        have hy := hg.yf h3
        exact rruleof_fun a1 a2 a3 c1 c2 c3 P k x hxk w n0 h (by omega) (by omega) h3 (by omega)
      | false => exact rruleof_rest a1 a2 a3 c1 c2 c3 P k x hxk w n0 h (by omega) (by omega) ⟨h1, h2, h3⟩
end Go.Proofs.YtohfdecefikinaaGreatDoor


/- How many edges a program has at most. -/
namespace Go.Proofs.YtohfdecefikinaaGreatDoor
set_option linter.unusedSimpArgs false
set_option linter.unusedVariables false
open Go Go.RowKit

theorem srt_lt {l : List Int} {M : Nat} (h : chkE l = 0) (hm : ∀ x ∈ l, x < (M : Int)) (hM : M ≤ 1000) : l.length ≤ M := by
  obtain ⟨h1, h2⟩ := chkE_zero.1 h
  rw [← sset_self h2 h1]
  unfold sset
  rw [List.length_map]
  have e : List.range 1000 = List.range M ++ (List.range (1000 - M)).map (M + ·) := by
    rw [← List.range_add]; congr 1; omega
  have e2 : ((List.range (1000 - M)).map (M + ·)).filter (fun n : Nat => decide ((n : Int) ∈ l)) = [] := by
    rw [List.filter_eq_nil_iff]
    intro n hn hd
    obtain ⟨j, _, rfl⟩ := List.mem_map.1 hn
    have := hm _ (of_decide_eq_true hd)
    omega
  rw [e, List.filter_append, e2, List.append_nil]
  have := List.length_filter_le (fun n : Nat => decide ((n : Int) ∈ l)) (List.range M)
  rw [List.length_range] at this
  exact this
theorem flatMap_len {α β : Type} (f : α → List β) (c : Nat) : ∀ l : List α, (∀ x ∈ l, (f x).length ≤ c) → (l.flatMap f).length ≤ l.length * c
  | [], _ => Nat.zero_le _
  | x :: r, h => by
    have h1 := h x List.mem_cons_self
    have h2 := flatMap_len f c r fun y hy => h y (List.mem_cons_of_mem _ hy)
    rw [List.flatMap_cons, List.length_append, List.length_cons, Nat.add_mul]
    omega
theorem calledV_len (f : PF) (r : RV) : (calledV f r).length ≤ r.args.length + 1 := by
  unfold calledV
  split
  · rw [List.length_cons, List.length_zip]; omega
  · exact Nat.zero_le _
theorem callsOf_len (P : PP) (r : RV) (o : Int) : (P.callsOf r o).length ≤ r.args.length + 1 := by
  unfold PP.callsOf
  split
  · exact calledV_len _ _
  · exact Nat.zero_le _
theorem getD_len {has : List (List Int)} {M : Nat} (h : ∀ l ∈ has, l.length ≤ M) (i : Nat) : (has.getD i []).length ≤ M := by
  rw [List.getD_eq_getElem?_getD]
  cases he : has[i]? with
  | none => exact Nat.zero_le _
  | some l => exact h l (List.mem_of_getElem? he)
theorem redges_len (P : PP) (r : RV) (has : List (List Int)) (M : Nat) (h : ∀ l ∈ has, l.length ≤ M) (ha : r.args.length ≤ 3) : (P.redges r has).length ≤ M * 4 + 1 := by
  unfold PP.redges
  cases r.kind.toList == kCopy
  · cases r.kind.toList == kLoad
    · cases r.kind.toList == kStore
      · cases r.kind.toList == kCall
        · exact Nat.zero_le _
        · simp only [cond_true, cond_false]
          have h1 := flatMap_len (P.callsOf r) 4 (has.getD r.a.toNat []) fun o _ => by have := callsOf_len P r o; omega
          have h2 := getD_len h r.a.toNat
          omega
      · simp only [cond_true, cond_false, List.length_map]
        have h1 := List.length_filter_le (fun x => !decide ((P.nodesV : Int) ≤ x)) (has.getD r.b.toNat [])
        have h2 := getD_len h r.b.toNat
        unfold PP.nodesOf
        omega
    · simp only [cond_true, cond_false, List.length_map]
      have h1 := List.length_filter_le (fun x => !decide ((P.nodesV : Int) ≤ x)) (has.getD r.a.toNat [])
      have h2 := getD_len h r.a.toNat
      unfold PP.nodesOf
      omega
  · simp only [cond_true, List.length_cons, List.length_nil]; omega
theorem ruleV_few {P : PP} (hw : P.Well) {k : Nat} (hk : k < P.stmts.length) : (P.ruleV k (P.stAt k)).args.length ≤ 3 := by
  have h0 := hw.2 k (P.stAt k) hk (stAt_some hk)
  unfold PP.ruleV
  cases (P.stAt k).isK kAddr
  · cases (P.stAt k).isK kNew
    · cases (P.stAt k).isK kFun
      · cases hc : (P.stAt k).isK kCall
        · exact Nat.zero_le _
        · exact call_few h0 hc
      · exact Nat.zero_le _
    · exact Nat.zero_le _
  · exact Nat.zero_le _
theorem rulesUp_len {P : PP} {has : List (List Int)} (hw : P.Well) (hs : SetsOk P has) (k : Nat) (hk : k ≤ P.stmts.length) : ((P.rulesUp k).flatMap fun r => P.redges r has).length ≤ 50000 := by
  obtain ⟨f1, f2, f3⟩ := hw.few
  have hn := P.newsN_le P.stmts.length
  have hM : ∀ l ∈ has, l.length ≤ 126 := fun l hl => by
    have := srt_lt (M := P.objectsV) (hs.ok l hl).1 (hs.ok l hl).2 (by unfold PP.objectsV PP.nodesV; omega)
    unfold PP.objectsV PP.nodesV at this
    omega
  have h1 := flatMap_len (fun r => P.redges r has) (126 * 4 + 1) (P.rulesUp k) fun r hr => by
    unfold PP.rulesUp at hr
    obtain ⟨j, hj, rfl⟩ := List.mem_map.1 hr
    exact redges_len P _ has 126 hM (ruleV_few hw (by have := List.mem_range.1 hj; omega))
  have h2 : (P.rulesUp k).length = k := by unfold PP.rulesUp; rw [List.length_map, List.length_range]
  rw [h2] at h1
  omega
theorem edges0_len {P : PP} {has : List (List Int)} (hw : P.Well) (hs : SetsOk P has) : (P.edges0 has).length ≤ 50000 := rulesUp_len hw hs _ (Nat.le_refl _)
end Go.Proofs.YtohfdecefikinaaGreatDoor
