/- Texts of one proof, put together: YT Z4. -/
import Derived.Test.YtohfdecefikinaaDoorZCO21
import Derived.Test.YtohfdecefikinaaDoorZCO31
import Derived.Test.YtohfdecefikinaaDoorZCO33

/- Edges, plainly, as the document's answer finds them: pair by pair. -/
namespace Go.Proofs.YtohfdecefikinaaDoor
set_option linter.unusedSimpArgs false
set_option linter.unusedVariables false
open Go Go.RowKit

/-- Does a call of this function take what a has to b? -/
def fEdge (f : PF) (r : RV) (a b : Int) : Bool := decide (f.params.length = r.args.length) && ((decide (a = f.ret) && decide (b = r.b)) || (List.range f.params.length).any fun i => decide (a = r.args.getD i 0) && decide (b = f.params.getD i 0))
/-- Does a rule take what a has to b? -/
def PP.isE (P : PP) (r : RV) (has : List (List Int)) (a b : Int) : Bool :=
  bif r.kind.toList == kCopy then decide (a = r.a) && decide (b = r.b) else
  bif r.kind.toList == kLoad then decide (b = r.b) && (decide (a < (P.nodesV : Int)) && decide (a ∈ has.getD r.a.toNat [])) else
  bif r.kind.toList == kStore then decide (a = r.a) && (decide (b < (P.nodesV : Int)) && decide (b ∈ has.getD r.b.toNat [])) else
  bif r.kind.toList == kCall then (List.range P.funs.length).any fun f => decide ((P.nodesV : Int) + f ∈ has.getD r.a.toNat []) && fEdge (P.funs.getD f ⟨⟨#[]⟩, [], 0⟩) r a b else false
theorem fEdge_iff (f : PF) (r : RV) (a b : Int) : fEdge f r a b = true ↔ (a, b) ∈ calledV f r := by
  unfold fEdge calledV
  by_cases hl : f.params.length = r.args.length
  · rw [decide_eq_true hl, Bool.true_and, if_pos hl, List.mem_cons, Bool.or_eq_true, Bool.and_eq_true, decide_eq_true_iff, decide_eq_true_iff, Prod.mk.injEq]
    refine or_congr Iff.rfl ?_
    rw [List.any_eq_true]
    constructor
    · rintro ⟨i, hi, h⟩
      have hi := List.mem_range.1 hi
      rw [Bool.and_eq_true, decide_eq_true_iff, decide_eq_true_iff] at h
      refine List.mem_iff_getElem?.2 ⟨i, List.getElem?_zip_eq_some.2 ⟨?_, ?_⟩⟩
      · rw [h.1, List.getD_eq_getElem?_getD, List.getElem?_eq_getElem (show i < r.args.length by omega)]; rfl
      · rw [h.2, List.getD_eq_getElem?_getD, List.getElem?_eq_getElem hi]; rfl
    · intro h
      obtain ⟨i, hi⟩ := List.mem_iff_getElem?.1 h
      obtain ⟨h1, h2⟩ := List.getElem?_zip_eq_some.1 hi
      have hil : i < f.params.length := by
        rcases Nat.lt_or_ge i f.params.length with g | g
        · exact g
        · rw [List.getElem?_eq_none g] at h2; cases h2
      refine ⟨i, List.mem_range.2 hil, ?_⟩
      rw [List.getD_eq_getElem?_getD, List.getD_eq_getElem?_getD, h1, h2]
      simp
  · rw [decide_eq_false hl, Bool.false_and, if_neg hl]
    simp
theorem isE_iff {P : PP} (r : RV) (has : List (List Int)) (a b : Int) : P.isE r has a b = true ↔ (a, b) ∈ P.redges r has := by
  unfold PP.isE PP.redges
  cases r.kind.toList == kCopy
  · cases r.kind.toList == kLoad
    · cases r.kind.toList == kStore
      · cases r.kind.toList == kCall
        · simp
        · simp only [cond_true, cond_false]
          rw [List.any_eq_true, List.mem_flatMap]
          constructor
          · rintro ⟨f, hf, h⟩
            have hf := List.mem_range.1 hf
            rw [Bool.and_eq_true, decide_eq_true_iff, fEdge_iff] at h
            refine ⟨_, h.1, ?_⟩
            unfold PP.callsOf
            have e : P.funV ((P.nodesV : Int) + f) = (f : Int) := by unfold PP.funV; rw [if_pos (by omega)]; omega
            rw [e, if_pos (by omega)]
            exact h.2
          · rintro ⟨o, ho, h⟩
            unfold PP.callsOf at h
            by_cases hF : 0 ≤ P.funV o
            · rw [if_pos hF] at h
              have hlt := funV_lt hF
              refine ⟨(P.funV o).toNat, List.mem_range.2 (by omega), ?_⟩
              rw [Bool.and_eq_true, decide_eq_true_iff, fEdge_iff]
              refine ⟨?_, h⟩
              have e : (P.nodesV : Int) + ((P.funV o).toNat : Nat) = o := by
                rw [Int.toNat_of_nonneg hF]
                unfold PP.funV at hF ⊢
                by_cases hc : 0 ≤ o - (P.nodesV : Int) ∧ o - (P.nodesV : Int) < P.funs.length
                · rw [if_pos hc]; omega
                · rw [if_neg hc] at hF; omega
              rw [e]
              exact ho
            · rw [if_neg hF] at h
              cases h
      · simp only [cond_true, cond_false]
        rw [List.mem_map]
        constructor
        · intro h
          simp only [Bool.and_eq_true, decide_eq_true_iff] at h
          refine ⟨b, ?_, by rw [h.1]⟩
          unfold PP.nodesOf
          exact List.mem_filter.2 ⟨h.2.2, by simp; exact h.2.1⟩
        · rintro ⟨o, ho, h⟩
          unfold PP.nodesOf at ho
          obtain ⟨h1, h2⟩ := List.mem_filter.1 ho
          simp only [Prod.mk.injEq] at h
          obtain ⟨rfl, rfl⟩ := h
          simp at h2
          exact Bool.and_eq_true_iff.2 ⟨decide_eq_true rfl, Bool.and_eq_true_iff.2 ⟨decide_eq_true h2, decide_eq_true h1⟩⟩
    · simp only [cond_true, cond_false]
      rw [List.mem_map]
      constructor
      · intro h
        simp only [Bool.and_eq_true, decide_eq_true_iff] at h
        refine ⟨a, ?_, by rw [h.1]⟩
        unfold PP.nodesOf
        exact List.mem_filter.2 ⟨h.2.2, by simp; exact h.2.1⟩
      · rintro ⟨o, ho, h⟩
        unfold PP.nodesOf at ho
        obtain ⟨h1, h2⟩ := List.mem_filter.1 ho
        simp only [Prod.mk.injEq] at h
        obtain ⟨rfl, rfl⟩ := h
        simp at h2
        exact Bool.and_eq_true_iff.2 ⟨decide_eq_true rfl, Bool.and_eq_true_iff.2 ⟨decide_eq_true h2, decide_eq_true h1⟩⟩
  · simp only [cond_true, List.mem_singleton, Prod.mk.injEq, Bool.and_eq_true, decide_eq_true_iff]
/-- The rules that make edges. -/
def PP.rulesE (P : PP) : List RV := P.rulesV.filter fun r => !(r.kind.toList == bBase.toList)
/-- Is there an edge? -/
def PP.edgeB (P : PP) (has : List (List Int)) (a b : Int) : Bool := decide (a ≠ b) && P.rulesE.any fun r => P.isE r has a b
theorem edgeB_iff {P : PP} {has : List (List Int)} {a b : Int} : P.edgeB has a b = true ↔ (a, b) ∈ P.edges0 has ∧ a ≠ b := by
  unfold PP.edgeB PP.rulesE PP.edges0
  rw [Bool.and_eq_true, decide_eq_true_iff, List.any_eq_true, List.mem_flatMap, and_comm]
  refine and_congr ⟨fun ⟨r, hr, h⟩ => ⟨r, (List.mem_filter.1 hr).1, (isE_iff r has a b).1 h⟩, fun ⟨r, hr, h⟩ => ⟨r, List.mem_filter.2 ⟨hr, ?_⟩, (isE_iff r has a b).2 h⟩⟩ Iff.rfl
  cases hb : r.kind.toList == bBase.toList with
  | false => rfl
  | true =>
    have e := eq_of_beq hb
    have hn : P.redges r has = [] := by
      have e2 := eq_of_beq bBase_list
      unfold PP.redges kCopy kLoad kStore kCall
      rw [e, e2]; rfl
    rw [hn] at h
    cases h
/-- The pairs of one node, and of all. -/
def PP.rowE (P : PP) (has : List (List Int)) (a n : Nat) : List (Int × Int) := ((List.range n).filter fun b : Nat => P.edgeB has (a : Int) (b : Int)).map fun b : Nat => ((a : Int), (b : Int))
def PP.refE (P : PP) (has : List (List Int)) (n : Nat) : List (Int × Int) := (List.range n).flatMap fun a => P.rowE has a P.nodesV
theorem mem_rowE {P : PP} {has : List (List Int)} {a n : Nat} {e : Int × Int} : e ∈ P.rowE has a n ↔ ∃ b : Nat, b < n ∧ e = ((a : Int), (b : Int)) ∧ P.edgeB has a b = true := by
  unfold PP.rowE
  rw [List.mem_map]
  constructor
  · rintro ⟨b, hb, rfl⟩
    obtain ⟨h1, h2⟩ := List.mem_filter.1 hb
    exact ⟨b, List.mem_range.1 h1, rfl, h2⟩
  · rintro ⟨b, hb, rfl, h⟩
    exact ⟨b, List.mem_filter.2 ⟨List.mem_range.2 hb, h⟩, rfl⟩
theorem rowE_srt (P : PP) (has : List (List Int)) (a n : Nat) : SrtP (P.rowE has a n) := by
  unfold PP.rowE SrtP
  rw [List.pairwise_map]
  refine List.Pairwise.imp (R := (· < ·)) (fun h => .inr ⟨rfl, by simp only; omega⟩) ?_
  exact List.Pairwise.sublist List.filter_sublist List.pairwise_lt_range
theorem refE_srt (P : PP) (has : List (List Int)) : ∀ n, SrtP (P.refE has n)
  | 0 => List.Pairwise.nil
  | n + 1 => by
    unfold PP.refE
    rw [List.range_succ, List.flatMap_append]
    refine List.pairwise_append.2 ⟨refE_srt P has n, by simpa using rowE_srt P has n P.nodesV, fun x hx y hy => ?_⟩
    obtain ⟨a, ha, hxa⟩ := List.mem_flatMap.1 hx
    obtain ⟨b, _, rfl, _⟩ := mem_rowE.1 hxa
    have hy' : y ∈ P.rowE has n P.nodesV := by simpa using hy
    obtain ⟨c, _, rfl, _⟩ := mem_rowE.1 hy'
    have := List.mem_range.1 ha
    exact .inl (by show (a : Int) < n; omega)
theorem refE_are {P : PP} (hw : P.Well) {has : List (List Int)} (hs : SetsOk P has) : EdgesAre P has (P.refE has P.nodesV) := by
  refine ⟨refE_srt P has _, fun e => ?_⟩
  obtain ⟨x, y⟩ := e
  unfold PP.refE
  rw [List.mem_flatMap]
  constructor
  · rintro ⟨a, _, h⟩
    obtain ⟨b, _, e, h2⟩ := mem_rowE.1 h
    simp only [Prod.mk.injEq] at e
    obtain ⟨rfl, rfl⟩ := e
    exact edgeB_iff.1 h2
  · rintro ⟨h, hne⟩
    obtain ⟨h1, h2, h3, h4⟩ := edges0_in hw hs _ h
    obtain ⟨a, rfl⟩ := Int.eq_ofNat_of_zero_le h1
    obtain ⟨b, rfl⟩ := Int.eq_ofNat_of_zero_le h3
    exact ⟨a, List.mem_range.2 (by simp only at h2; omega), mem_rowE.2 ⟨b, by simp only at h4; omega, rfl, edgeB_iff.2 ⟨h, hne⟩⟩⟩
end Go.Proofs.YtohfdecefikinaaDoor


/- ConsOrder: contracts in the form that the law wants; the law's own small program. -/
namespace Go.Proofs.YtohfdecefikinaaDoor
set_option linter.unusedSimpArgs false
set_option linter.unusedVariables false
open Go Go.RowKit

/-- The edges of a program, as one list. -/
def PP.edgesL (P : PP) (has : List (List Int)) : List (Int × Int) := P.refE has P.nodesV
/-- A program that is well, and sets that are. -/
def PP.GoodS (P : PP) (has : List (List Int)) : Prop := P.Well ∧ has.length = P.nodesV ∧ ∀ l ∈ has, P.setE l = 0
theorem PP.GoodS.ok {P : PP} {has : List (List Int)} (h : P.GoodS has) : SetsOk P has := SetsOk.of h.2.1 h.2.2
theorem edgesL_are {P : PP} {has : List (List Int)} (h : P.GoodS has) : EdgesAre P has (P.edgesL has) := refE_are h.1 h.ok
theorem edgesL_len {P : PP} (hw : P.Well) (has : List (List Int)) : (P.edgesL has).length ≤ 50000 := by
  have hn := nodesV_le P hw
  have h1 := flatMap_len (fun a => P.rowE has a P.nodesV) 120 (List.range P.nodesV) fun a _ => by
    unfold PP.rowE
    rw [List.length_map]
    have := List.length_filter_le (fun b : Nat => P.edgeB has (a : Int) (b : Int)) (List.range P.nodesV)
    rw [List.length_range] at this
    omega
  rw [List.length_range] at h1
  unfold PP.edgesL PP.refE
  omega
theorem edges_fix (a1 a2 a3 : Option Addr) (c1 c2 c3 : Nat) (P : PP) (hv : Value) (has : List (List Int)) (w : World) (ad : Nat → Addr) (h : PW w w.heap.size ad a1 a2 a3 c1 c2 c3 P) (hS : ErrS w ad) (hh : SetsR w w.heap.size hv has) (hg : P.GoodS has) :
    Calls Tryd.prog 8 #[pval a1 a2 a3 c1 c2 c3 P, hv] w fun e w' => ∃ a c, e = .returned (.tuple #[.slice a (P.edgesL has).length c, .nilIface]) ∧ ERow w.heap.size w' (.slice a (P.edgesL has).length c) (P.edgesL has) ∧ (P.edgesL has).length ≤ 50000 ∧ Ext w w' :=
  (consedges_ok a1 a2 a3 c1 c2 c3 P hv has w w.heap.size ad h hS hh hg.2.1 hg.2.2 (Nat.le_refl _)).mono fun e w' ⟨v, l, he, hr, hA, hl, hx⟩ => by
    obtain rfl := hA.uniq (edgesL_are hg)
    obtain ⟨a, c, rfl⟩ := row_form hr
    exact ⟨a, c, he, hr, hl, hx⟩
theorem closed_fix (a1 a2 a3 : Option Addr) (c1 c2 c3 : Nat) (P : PP) (ah : Option Addr) (ch : Nat) (has : List (List Int)) (w : World) (ad : Nat → Addr) (h : PW w w.heap.size ad a1 a2 a3 c1 c2 c3 P) (hS : ErrS w ad) (hh : SetsR w w.heap.size (.slice ah has.length ch) has) (hg : P.GoodS has) (d : Bool) (hd : d = true ↔ ClosedP P has) :
    Calls Tryd.prog 10 #[pval a1 a2 a3 c1 c2 c3 P, .slice ah has.length ch] w fun e w' => e = .returned (.tuple #[.bool d, .nilIface]) ∧ Ext w w' :=
  (consclosed_ok a1 a2 a3 c1 c2 c3 P ah ch has w w.heap.size ad h hS hh hg.2.1 hg.2.2 (Nat.le_refl _)).mono fun e w' ⟨b, he, hb, hx⟩ => by
    obtain rfl : b = d := Bool.eq_iff_iff.2 (hb.trans hd.symm)
    exact ⟨he, hx⟩
/-- A program and sets in memory, of whatever kind. -/
structure PS0 (w : World) (n0 : Nat) (ad : Nat → Addr) (a1 a2 a3 : Option Addr) (c1 c2 c3 : Nat) (P : PP) : Prop where
  errs : ErrsP w ad
  prog : ProgR w n0 (.slice a1 P.vars.length c1) (.slice a2 P.funs.length c2) (.slice a3 P.stmts.length c3) P
  z1 : ∀ s ∈ P.vars, s.size ≤ 1000000
  z2 : ∀ s ∈ P.names, s.size ≤ 1000000
theorem PS0.ext {w w' : World} {n0 : Nat} {ad : Nat → Addr} {a1 a2 a3 : Option Addr} {c1 c2 c3 : Nat} {P : PP} (h : PS0 w n0 ad a1 a2 a3 c1 c2 c3 P) (x : Ext w w') : PS0 w' w'.heap.size ad a1 a2 a3 c1 c2 c3 P → PS0 w' w'.heap.size ad a1 a2 a3 c1 c2 c3 P := id
theorem PS0.on {w w' : World} {n0 : Nat} {ad : Nat → Addr} {a1 a2 a3 : Option Addr} {c1 c2 c3 : Nat} {P : PP} (h : PS0 w n0 ad a1 a2 a3 c1 c2 c3 P) (hn : n0 ≤ w.heap.size) (x : Ext w w') : PS0 w' w'.heap.size ad a1 a2 a3 c1 c2 c3 P := ⟨h.errs.ext x, (h.prog.ext x).lift (Nat.le_trans hn x.size), h.z1, h.z2⟩
theorem PS0.pw {w : World} {n0 : Nat} {ad : Nat → Addr} {a1 a2 a3 : Option Addr} {c1 c2 c3 : Nat} {P : PP} (h : PS0 w n0 ad a1 a2 a3 c1 c2 c3 P) (hw : P.Well) : PW w n0 ad a1 a2 a3 c1 c2 c3 P := ⟨h.errs, h.prog, h.z1, h.z2, hw⟩
theorem edges_err (a1 a2 a3 : Option Addr) (c1 c2 c3 : Nat) (P : PP) (hv : Value) (has : List (List Int)) (w : World) (n0 : Nat) (ad : Nat → Addr) (h : PS0 w n0 ad a1 a2 a3 c1 c2 c3 P) (hS : ErrS w ad) (hh : SetsR w n0 hv has) (hg : ¬ P.GoodS has) :
    Calls Tryd.prog 8 #[pval a1 a2 a3 c1 c2 c3 P, hv] w fun e w' => ∃ t x, e = .returned (.tuple #[.slice none 0 0, .iface t (.pointer (some x))]) ∧ Ext w w' := by
  by_cases hw : P.Well
  · exact (consedges_bad a1 a2 a3 c1 c2 c3 P hv has w n0 ad (h.pw hw) hS hh fun hb => hg ⟨hw, hb⟩).mono fun e w' ⟨t, x, he, _, hx⟩ => ⟨t, x, he, hx⟩
  · exact (consedges_no a1 a2 a3 c1 c2 c3 P hv w n0 ad h.errs h.prog h.z1 h.z2 hw).mono fun e w' ⟨t, x, he, _, hx⟩ => ⟨t, x, he, hx⟩

def ruledP : PP := ⟨[⟨#[97]⟩, ⟨#[98]⟩], [], [⟨⟨#[99, 111, 112, 121]⟩, 0, 1, []⟩]⟩
theorem ruled_good : ruledP.GoodS [[], []] := by
  refine ⟨⟨by decide +kernel, fun j t hj ht => ?_⟩, by decide +kernel, fun l hl => ?_⟩
  · have hj2 : j < 1 := hj
    obtain rfl : j = 0 := by omega
    obtain rfl := Option.some.inj ht
    decide +kernel
  · obtain rfl : l = [] := by simpa using hl
    decide +kernel
theorem ruled_edges : ruledP.edgesL [[], []] = [(1, 0)] := by decide +kernel
def ruledS : Array Value := #[.string ⟨#[99, 111, 112, 121]⟩, .int .i64 0, .int .i64 1, .slice none 0 0]
theorem ruled_prog {w : World} {a b n0 : Nat} (ha : Blk w a #[.string ⟨#[97]⟩, .string ⟨#[98]⟩] 9) (hb : Blk w b ruledS 34) (h1 : a < n0) (h2 : b < n0) : ProgR w n0 (.slice (some ⟨a, 0, none⟩) 2 2) (.slice none 0 0) (.slice (some ⟨b, 0, none⟩) 1 1) ruledP := by
  refine ⟨⟨_, 2, rfl, by decide, by decide, fun _ => ⟨_, rfl⟩, fun y hy _ => ?_⟩, ⟨_, 0, rfl, by decide, by decide, fun h => absurd h (by decide), fun y hy => by cases hy⟩, ⟨_, 1, rfl, by decide, by decide, fun _ => ⟨_, rfl⟩, fun y hy _ => ?_⟩⟩
  · obtain rfl := Option.some.inj hy
    refine ⟨h1, fun i hi s hs => ?_⟩
    have hi2 : i < 2 := hi
    rcases (by omega : i = 0 ∨ i = 1) with rfl | rfl
    · obtain rfl := Option.some.inj hs
      exact ha.av 0 rfl
    · obtain rfl := Option.some.inj hs
      exact ha.av 1 rfl
  · obtain rfl := Option.some.inj hy
    refine ⟨h2, fun i hi s hs => ?_⟩
    have hi2 : i < 1 := hi
    have hn : IntsR w n0 (.slice none 0 0) [] := ⟨none, 0, rfl, by decide, by decide, fun h => absurd h (by decide), fun y hy => by cases hy⟩
    obtain rfl : i = 0 := by omega
    obtain rfl := Option.some.inj hs
    exact ⟨.slice none 0 0, hb.av 0 rfl, hb.av 1 rfl, hb.av 2 rfl, hb.av 3 rfl, hn⟩
theorem ruled_sets {w : World} {b n0 : Nat} (hb : Blk w b #[.slice none 0 0, .slice none 0 0] 32) (h : b < n0) : SetsR w n0 (.slice (some ⟨b, 0, none⟩) 2 2) [[], []] := by
  refine ⟨_, 2, rfl, by decide, by decide, fun _ => ⟨_, rfl⟩, fun y hy _ => ?_⟩
  obtain rfl := Option.some.inj hy
  refine ⟨h, fun i hi s hs => ?_⟩
  have hi2 : i < 2 := hi
  have hn : IntsR w n0 (.slice none 0 0) [] := ⟨none, 0, rfl, by decide, by decide, fun h => absurd h (by decide), fun y hy => by cases hy⟩
  rcases (by omega : i = 0 ∨ i = 1) with rfl | rfl
  · obtain rfl := Option.some.inj hs
    exact ⟨_, hb.av 0 rfl, hn⟩
  · obtain rfl := Option.some.inj hs
    exact ⟨_, hb.av 1 rfl, hn⟩

set_option maxRecDepth 100000 in
set_option maxHeartbeats 1600000 in
theorem ruled_any (w : World) (ad : Nat → Addr) (hE : ErrsP w ad) (hS : ErrS w ad) : Calls Tryd.prog 4 #[] w fun e w' => e = .returned (.bool true) ∧ Ext w w' := by
  obtain ⟨W1, hW1⟩ : ∃ W1, W1 = w.alloc (.cells #[.string ⟨#[97]⟩, .string ⟨#[98]⟩] 9) := ⟨_, rfl⟩
  obtain ⟨W2, hW2⟩ : ∃ W2, W2 = W1.alloc (.cells ruledS 34) := ⟨_, rfl⟩
  obtain ⟨W3, hW3⟩ : ∃ W3, W3 = W2.alloc (.cells #[.slice (some ⟨w.heap.size, 0, none⟩) 2 2, .slice none 0 0, .slice (some ⟨w.heap.size + 1, 0, none⟩) 1 1] 26) := ⟨_, rfl⟩
  obtain ⟨W4, hW4⟩ : ∃ W4, W4 = W3.alloc (.cells #[.slice none 0 0, .slice none 0 0] 32) := ⟨_, rfl⟩
  have x1 : Ext w W1 := by rw [hW1]; exact (Ext.refl _).alloc _
  have x2 : Ext W1 W2 := by rw [hW2]; exact (Ext.refl _).alloc _
  have x3 : Ext W2 W3 := by rw [hW3]; exact (Ext.refl _).alloc _
  have x4 : Ext W3 W4 := by rw [hW4]; exact (Ext.refl _).alloc _
  have s1 : W1.heap.size = w.heap.size + 1 := by rw [hW1, heap_size_alloc]
  have s2 : W2.heap.size = w.heap.size + 2 := by rw [hW2, heap_size_alloc, s1]
  have s3 : W3.heap.size = w.heap.size + 3 := by rw [hW3, heap_size_alloc, s2]
  have s4 : W4.heap.size = w.heap.size + 4 := by rw [hW4, heap_size_alloc, s3]
  have bA : Blk W1 w.heap.size #[.string ⟨#[97]⟩, .string ⟨#[98]⟩] 9 := by rw [hW1]; exact Blk.new _ _ _
  have bB : Blk W2 (w.heap.size + 1) ruledS 34 := by rw [hW2, ← s1]; exact Blk.new _ _ _
  have bD : Blk W4 (w.heap.size + 3) #[.slice none 0 0, .slice none 0 0] 32 := by rw [hW4, ← s3]; exact Blk.new _ _ _
  have hP := ruled_prog (n0 := W4.heap.size) (bA.ext (x2.trans (x3.trans x4))) (bB.ext (x3.trans x4)) (by omega) (by omega)
  have hI := ruled_sets (n0 := W4.heap.size) bD (by omega)
  have xx : Ext w W4 := x1.trans (x2.trans (x3.trans x4))
  have HD := hid (edges_fix _ _ _ 2 0 1 ruledP _ [[], []] W4 ad ⟨hE.ext xx, hP, fun s hs => by rcases (by simpa [ruledP] using hs : s = ⟨#[97]⟩ ∨ s = ⟨#[98]⟩) with rfl | rfl <;> decide, fun s hs => by simp [PP.names, ruledP] at hs, ruled_good.1⟩ (hS.ext xx) hI ruled_good)
  rw [ruled_edges] at HD
  have HX := hid xx
  have HW4 : Hid (W4 = (((w.alloc (.cells #[.string ⟨#[97]⟩, .string ⟨#[98]⟩] 9)).alloc (.cells #[.string ⟨#[99, 111, 112, 121]⟩, .int .i64 0, .int .i64 1, .slice none 0 0] 34)).alloc (.cells #[.slice (some ⟨w.heap.size, 0, none⟩) 2 2, .slice none 0 0, .slice (some ⟨w.heap.size + 1, 0, none⟩) 1 1] 26)).alloc (.cells #[.slice none 0 0, .slice none 0 0] 32)) := hid (by rw [hW4, hW3, hW2, hW1]; rfl)
  unfold pval at HD
  clear hE hS hW1 hW2 hW3 hW4 x1 x2 x3 x4 s1 s2 s3 s4 bA bB bD hP hI xx
  go_enter Tryd.func4, Tryd.ntmps4
  go_wp2_with fail
  rw [← HW4.out]
  refine HD.out.mono ?_
  intro e w5 hx
  obtain ⟨a, c, rfl, hr, _, hx5⟩ := hx
  unfold ERow at hr
  obtain ⟨g, cap, he⟩ := own_some hr (by decide)
  simp only [Value.slice.injEq] at he
  obtain ⟨rfl, -, rfl⟩ := he
  obtain ⟨q0, q1⟩ := own_e hr (i := 0) (x := (1, 0)) rfl
  have q0' : w5.cell? ⟨g, 0, none⟩ = some (.int .i64 1) := q0
  have q1' : w5.cell? ⟨g, 1, none⟩ = some (.int .i64 0) := q1
  have HX5 := hid (HX.out.trans hx5)
  clear HD hx5 hr q0 q1
  simp only [List.length_cons, List.length_nil, Nat.zero_add]
  go_wp2
  go_ret
  exact ⟨rfl, HX5.out⟩
end Go.Proofs.YtohfdecefikinaaDoor
