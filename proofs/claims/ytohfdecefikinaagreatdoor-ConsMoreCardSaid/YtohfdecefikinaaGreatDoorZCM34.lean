/- Texts of one proof, put together: YT Z4 YM M1. -/
import Derived.Test.YtohfdecefikinaaGreatDoorZCM20
import Derived.Test.YtohfdecefikinaaGreatDoorZCM21
import Derived.Test.YtohfdecefikinaaGreatDoorZCM31
import Derived.Test.YtohfdecefikinaaGreatDoorZCM32
import Derived.Test.YtohfdecefikinaaGreatDoorZCM33

/- Edges, plainly, as the document's answer finds them: pair by pair. -/
namespace Go.Proofs.YtohfdecefikinaaGreatDoor
set_option linter.unusedSimpArgs false
set_option linter.unusedVariables false
open Go Go.RowKit

/-- Does a call of this function take what a has to b? -/
def fEdge (f : PF) (r : RV) (a b : Int) : Bool := decide (f.params.length = r.args.length) && ((decide (a = f.ret) && decide (b = r.b)) || (List.range f.params.length).any fun i => decide (a = r.args.getD i 0) && decide (b = f.params.getD i 0))
/-- Does a rule take what a has to b? -/
def PP.isE (P : PP) (r : RV) (has : List (List Int)) (a b : Int) : Bool :=
  bif r.kind.toList == kCopy then decide (a = r.a) && decide (b = r.b) else
  bif r.kind.toList == kLoad then decide (b = r.b) && (decide (a < (P.nodesV : Int)) && decide (a ∈ has.getD r.a.toNat [])) else
  bif r.kind.toList == kStore then decide (a = r.a) && (decide (b < (P.nodesV : Int)) && decide (b ∈ has.getD r.b.toNat [])) else
  bif r.kind.toList == kCall then (List.range P.funs.length).any fun f => decide ((P.nodesV : Int) + f ∈ has.getD r.a.toNat []) && fEdge (P.funs.getD f ⟨⟨#[]⟩, [], 0⟩) r a b else false
theorem fEdge_iff (f : PF) (r : RV) (a b : Int) : fEdge f r a b = true ↔ (a, b) ∈ calledV f r := by
  unfold fEdge calledV
  by_cases hl : f.params.length = r.args.length
  · rw [decide_eq_true hl, Bool.true_and, if_pos hl, List.mem_cons, Bool.or_eq_true, Bool.and_eq_true, decide_eq_true_iff, decide_eq_true_iff, Prod.mk.injEq]
    refine or_congr Iff.rfl ?_
    rw [List.any_eq_true]
    constructor
    · rintro ⟨i, hi, h⟩
      have hi := List.mem_range.1 hi
      rw [Bool.and_eq_true, decide_eq_true_iff, decide_eq_true_iff] at h
      refine List.mem_iff_getElem?.2 ⟨i, List.getElem?_zip_eq_some.2 ⟨?_, ?_⟩⟩
      · rw [h.1, List.getD_eq_getElem?_getD, List.getElem?_eq_getElem (show i < r.args.length by omega)]; rfl
      · rw [h.2, List.getD_eq_getElem?_getD, List.getElem?_eq_getElem hi]; rfl
    · intro h
      obtain ⟨i, hi⟩ := List.mem_iff_getElem?.1 h
      obtain ⟨h1, h2⟩ := List.getElem?_zip_eq_some.1 hi
      have hil : i < f.params.length := by
        rcases Nat.lt_or_ge i f.params.length with g | g
        · exact g
        · rw [List.getElem?_eq_none g] at h2; cases h2
      refine ⟨i, List.mem_range.2 hil, ?_⟩
      rw [List.getD_eq_getElem?_getD, List.getD_eq_getElem?_getD, h1, h2]
      simp
  · rw [decide_eq_false hl, Bool.false_and, if_neg hl]
    simp
theorem isE_iff {P : PP} (r : RV) (has : List (List Int)) (a b : Int) : P.isE r has a b = true ↔ (a, b) ∈ P.redges r has := by
  unfold PP.isE PP.redges
  cases r.kind.toList == kCopy
  · cases r.kind.toList == kLoad
    · cases r.kind.toList == kStore
      · cases r.kind.toList == kCall
        · simp
        · simp only [cond_true, cond_false]
          rw [List.any_eq_true, List.mem_flatMap]
          constructor
          · rintro ⟨f, hf, h⟩
            have hf := List.mem_range.1 hf
            rw [Bool.and_eq_true, decide_eq_true_iff, fEdge_iff] at h
            refine ⟨_, h.1, ?_⟩
            unfold PP.callsOf
            have e : P.funV ((P.nodesV : Int) + f) = (f : Int) := by unfold PP.funV; rw [if_pos (by omega)]; omega
            rw [e, if_pos (by omega)]
            exact h.2
          · rintro ⟨o, ho, h⟩
            unfold PP.callsOf at h
            by_cases hF : 0 ≤ P.funV o
            · rw [if_pos hF] at h
              have hlt := funV_lt hF
              refine ⟨(P.funV o).toNat, List.mem_range.2 (by omega), ?_⟩
              rw [Bool.and_eq_true, decide_eq_true_iff, fEdge_iff]
              refine ⟨?_, h⟩
              have e : (P.nodesV : Int) + ((P.funV o).toNat : Nat) = o := by
                rw [Int.toNat_of_nonneg hF]
                unfold PP.funV at hF ⊢
                by_cases hc : 0 ≤ o - (P.nodesV : Int) ∧ o - (P.nodesV : Int) < P.funs.length
                · rw [if_pos hc]; omega
                · rw [if_neg hc] at hF; omega
              rw [e]
              exact ho
            · rw [if_neg hF] at h
              cases h
      · simp only [cond_true, cond_false]
        rw [List.mem_map]
        constructor
        · intro h
          simp only [Bool.and_eq_true, decide_eq_true_iff] at h
          refine ⟨b, ?_, by rw [h.1]⟩
          unfold PP.nodesOf
          exact List.mem_filter.2 ⟨h.2.2, by simp; exact h.2.1⟩
        · rintro ⟨o, ho, h⟩
          unfold PP.nodesOf at ho
          obtain ⟨h1, h2⟩ := List.mem_filter.1 ho
          simp only [Prod.mk.injEq] at h
          obtain ⟨rfl, rfl⟩ := h
          simp at h2
          exact Bool.and_eq_true_iff.2 ⟨decide_eq_true rfl, Bool.and_eq_true_iff.2 ⟨decide_eq_true h2, decide_eq_true h1⟩⟩
    · simp only [cond_true, cond_false]
      rw [List.mem_map]
      constructor
      · intro h
        simp only [Bool.and_eq_true, decide_eq_true_iff] at h
        refine ⟨a, ?_, by rw [h.1]⟩
        unfold PP.nodesOf
        exact List.mem_filter.2 ⟨h.2.2, by simp; exact h.2.1⟩
      · rintro ⟨o, ho, h⟩
        unfold PP.nodesOf at ho
        obtain ⟨h1, h2⟩ := List.mem_filter.1 ho
        simp only [Prod.mk.injEq] at h
        obtain ⟨rfl, rfl⟩ := h
        simp at h2
        exact Bool.and_eq_true_iff.2 ⟨decide_eq_true rfl, Bool.and_eq_true_iff.2 ⟨decide_eq_true h2, decide_eq_true h1⟩⟩
  · simp only [cond_true, List.mem_singleton, Prod.mk.injEq, Bool.and_eq_true, decide_eq_true_iff]
/-- The rules that make edges. -/
def PP.rulesE (P : PP) : List RV := P.rulesV.filter fun r => !(r.kind.toList == bBase.toList)
/-- Is there an edge? -/
def PP.edgeB (P : PP) (has : List (List Int)) (a b : Int) : Bool := decide (a ≠ b) && P.rulesE.any fun r => P.isE r has a b
theorem edgeB_iff {P : PP} {has : List (List Int)} {a b : Int} : P.edgeB has a b = true ↔ (a, b) ∈ P.edges0 has ∧ a ≠ b := by
  unfold PP.edgeB PP.rulesE PP.edges0
  rw [Bool.and_eq_true, decide_eq_true_iff, List.any_eq_true, List.mem_flatMap, and_comm]
  refine and_congr ⟨fun ⟨r, hr, h⟩ => ⟨r, (List.mem_filter.1 hr).1, (isE_iff r has a b).1 h⟩, fun ⟨r, hr, h⟩ => ⟨r, List.mem_filter.2 ⟨hr, ?_⟩, (isE_iff r has a b).2 h⟩⟩ Iff.rfl
  cases hb : r.kind.toList == bBase.toList with
  | false => rfl
  | true =>
    have e := eq_of_beq hb
    have hn : P.redges r has = [] := by
      have e2 := eq_of_beq bBase_list
      unfold PP.redges kCopy kLoad kStore kCall
      rw [e, e2]; rfl
    rw [hn] at h
    cases h
/-- The pairs of one node, and of all. -/
def PP.rowE (P : PP) (has : List (List Int)) (a n : Nat) : List (Int × Int) := ((List.range n).filter fun b : Nat => P.edgeB has (a : Int) (b : Int)).map fun b : Nat => ((a : Int), (b : Int))
def PP.refE (P : PP) (has : List (List Int)) (n : Nat) : List (Int × Int) := (List.range n).flatMap fun a => P.rowE has a P.nodesV
theorem mem_rowE {P : PP} {has : List (List Int)} {a n : Nat} {e : Int × Int} : e ∈ P.rowE has a n ↔ ∃ b : Nat, b < n ∧ e = ((a : Int), (b : Int)) ∧ P.edgeB has a b = true := by
  unfold PP.rowE
  rw [List.mem_map]
  constructor
  · rintro ⟨b, hb, rfl⟩
    obtain ⟨h1, h2⟩ := List.mem_filter.1 hb
    exact ⟨b, List.mem_range.1 h1, rfl, h2⟩
  · rintro ⟨b, hb, rfl, h⟩
    exact ⟨b, List.mem_filter.2 ⟨List.mem_range.2 hb, h⟩, rfl⟩
theorem rowE_srt (P : PP) (has : List (List Int)) (a n : Nat) : SrtP (P.rowE has a n) := by
  unfold PP.rowE SrtP
  rw [List.pairwise_map]
  refine List.Pairwise.imp (R := (· < ·)) (fun h => .inr ⟨rfl, by simp only; omega⟩) ?_
  exact List.Pairwise.sublist List.filter_sublist List.pairwise_lt_range
theorem refE_srt (P : PP) (has : List (List Int)) : ∀ n, SrtP (P.refE has n)
  | 0 => List.Pairwise.nil
  | n + 1 => by
    unfold PP.refE
    rw [List.range_succ, List.flatMap_append]
    refine List.pairwise_append.2 ⟨refE_srt P has n, by simpa using rowE_srt P has n P.nodesV, fun x hx y hy => ?_⟩
    obtain ⟨a, ha, hxa⟩ := List.mem_flatMap.1 hx
    obtain ⟨b, _, rfl, _⟩ := mem_rowE.1 hxa
    have hy' : y ∈ P.rowE has n P.nodesV := by simpa using hy
    obtain ⟨c, _, rfl, _⟩ := mem_rowE.1 hy'
    have := List.mem_range.1 ha
    exact .inl (by show (a : Int) < n; omega)
theorem refE_are {P : PP} (hw : P.Well) {has : List (List Int)} (hs : SetsOk P has) : EdgesAre P has (P.refE has P.nodesV) := by
  refine ⟨refE_srt P has _, fun e => ?_⟩
  obtain ⟨x, y⟩ := e
  unfold PP.refE
  rw [List.mem_flatMap]
  constructor
  · rintro ⟨a, _, h⟩
    obtain ⟨b, _, e, h2⟩ := mem_rowE.1 h
    simp only [Prod.mk.injEq] at e
    obtain ⟨rfl, rfl⟩ := e
    exact edgeB_iff.1 h2
  · rintro ⟨h, hne⟩
    obtain ⟨h1, h2, h3, h4⟩ := edges0_in hw hs _ h
    obtain ⟨a, rfl⟩ := Int.eq_ofNat_of_zero_le h1
    obtain ⟨b, rfl⟩ := Int.eq_ofNat_of_zero_le h3
    exact ⟨a, List.mem_range.2 (by simp only at h2; omega), mem_rowE.2 ⟨b, by simp only at h4; omega, rfl, edgeB_iff.2 ⟨h, hne⟩⟩⟩
end Go.Proofs.YtohfdecefikinaaGreatDoor


/- ConsOrder: contracts in the form that the law wants; the law's own small program. -/
namespace Go.Proofs.YtohfdecefikinaaGreatDoor
set_option linter.unusedSimpArgs false
set_option linter.unusedVariables false
open Go Go.RowKit

/-- The edges of a program, as one list. -/
def PP.edgesL (P : PP) (has : List (List Int)) : List (Int × Int) := P.refE has P.nodesV
/-- A program that is well, and sets that are. -/
def PP.GoodS (P : PP) (has : List (List Int)) : Prop := P.Well ∧ has.length = P.nodesV ∧ ∀ l ∈ has, P.setE l = 0
theorem PP.GoodS.ok {P : PP} {has : List (List Int)} (h : P.GoodS has) : SetsOk P has := SetsOk.of h.2.1 h.2.2
theorem edgesL_are {P : PP} {has : List (List Int)} (h : P.GoodS has) : EdgesAre P has (P.edgesL has) := refE_are h.1 h.ok
theorem edgesL_len {P : PP} (hw : P.Well) (has : List (List Int)) : (P.edgesL has).length ≤ 50000 := by
  have hn := nodesV_le P hw
  have h1 := flatMap_len (fun a => P.rowE has a P.nodesV) 120 (List.range P.nodesV) fun a _ => by
    unfold PP.rowE
    rw [List.length_map]
    have := List.length_filter_le (fun b : Nat => P.edgeB has (a : Int) (b : Int)) (List.range P.nodesV)
    rw [List.length_range] at this
    omega
  rw [List.length_range] at h1
  unfold PP.edgesL PP.refE
  omega
theorem edges_fix (a1 a2 a3 : Option Addr) (c1 c2 c3 : Nat) (P : PP) (hv : Value) (has : List (List Int)) (w : World) (ad : Nat → Addr) (h : PW w w.heap.size ad a1 a2 a3 c1 c2 c3 P) (hS : ErrS w ad) (hh : SetsR w w.heap.size hv has) (hg : P.GoodS has) :
    Calls Tryz.prog 16 #[pval a1 a2 a3 c1 c2 c3 P, hv] w fun e w' => ∃ a c, e = .returned (.tuple #[.slice a (P.edgesL has).length c, .nilIface]) ∧ ERow w.heap.size w' (.slice a (P.edgesL has).length c) (P.edgesL has) ∧ (P.edgesL has).length ≤ 50000 ∧ Ext w w' :=
  (consedges_ok a1 a2 a3 c1 c2 c3 P hv has w w.heap.size ad h hS hh hg.2.1 hg.2.2 (Nat.le_refl _)).mono fun e w' ⟨v, l, he, hr, hA, hl, hx⟩ => by
    obtain rfl := hA.uniq (edgesL_are hg)
    obtain ⟨a, c, rfl⟩ := row_form hr
    exact ⟨a, c, he, hr, hl, hx⟩
theorem closed_fix (a1 a2 a3 : Option Addr) (c1 c2 c3 : Nat) (P : PP) (ah : Option Addr) (ch : Nat) (has : List (List Int)) (w : World) (ad : Nat → Addr) (h : PW w w.heap.size ad a1 a2 a3 c1 c2 c3 P) (hS : ErrS w ad) (hh : SetsR w w.heap.size (.slice ah has.length ch) has) (hg : P.GoodS has) (d : Bool) (hd : d = true ↔ ClosedP P has) :
    Calls Tryz.prog 17 #[pval a1 a2 a3 c1 c2 c3 P, .slice ah has.length ch] w fun e w' => e = .returned (.tuple #[.bool d, .nilIface]) ∧ Ext w w' :=
  (consclosed_ok a1 a2 a3 c1 c2 c3 P ah ch has w w.heap.size ad h hS hh hg.2.1 hg.2.2 (Nat.le_refl _)).mono fun e w' ⟨b, he, hb, hx⟩ => by
    obtain rfl : b = d := Bool.eq_iff_iff.2 (hb.trans hd.symm)
    exact ⟨he, hx⟩
/-- A program and sets in memory, of whatever kind. -/
structure PS0 (w : World) (n0 : Nat) (ad : Nat → Addr) (a1 a2 a3 : Option Addr) (c1 c2 c3 : Nat) (P : PP) : Prop where
  errs : ErrsP w ad
  prog : ProgR w n0 (.slice a1 P.vars.length c1) (.slice a2 P.funs.length c2) (.slice a3 P.stmts.length c3) P
  z1 : ∀ s ∈ P.vars, s.size ≤ 1000000
  z2 : ∀ s ∈ P.names, s.size ≤ 1000000
theorem PS0.ext {w w' : World} {n0 : Nat} {ad : Nat → Addr} {a1 a2 a3 : Option Addr} {c1 c2 c3 : Nat} {P : PP} (h : PS0 w n0 ad a1 a2 a3 c1 c2 c3 P) (x : Ext w w') : PS0 w' w'.heap.size ad a1 a2 a3 c1 c2 c3 P → PS0 w' w'.heap.size ad a1 a2 a3 c1 c2 c3 P := id
theorem PS0.on {w w' : World} {n0 : Nat} {ad : Nat → Addr} {a1 a2 a3 : Option Addr} {c1 c2 c3 : Nat} {P : PP} (h : PS0 w n0 ad a1 a2 a3 c1 c2 c3 P) (hn : n0 ≤ w.heap.size) (x : Ext w w') : PS0 w' w'.heap.size ad a1 a2 a3 c1 c2 c3 P := ⟨h.errs.ext x, (h.prog.ext x).lift (Nat.le_trans hn x.size), h.z1, h.z2⟩
theorem PS0.pw {w : World} {n0 : Nat} {ad : Nat → Addr} {a1 a2 a3 : Option Addr} {c1 c2 c3 : Nat} {P : PP} (h : PS0 w n0 ad a1 a2 a3 c1 c2 c3 P) (hw : P.Well) : PW w n0 ad a1 a2 a3 c1 c2 c3 P := ⟨h.errs, h.prog, h.z1, h.z2, hw⟩
theorem edges_err (a1 a2 a3 : Option Addr) (c1 c2 c3 : Nat) (P : PP) (hv : Value) (has : List (List Int)) (w : World) (n0 : Nat) (ad : Nat → Addr) (h : PS0 w n0 ad a1 a2 a3 c1 c2 c3 P) (hS : ErrS w ad) (hh : SetsR w n0 hv has) (hg : ¬ P.GoodS has) :
    Calls Tryz.prog 16 #[pval a1 a2 a3 c1 c2 c3 P, hv] w fun e w' => ∃ t x, e = .returned (.tuple #[.slice none 0 0, .iface t (.pointer (some x))]) ∧ Ext w w' := by
  by_cases hw : P.Well
  · exact (consedges_bad a1 a2 a3 c1 c2 c3 P hv has w n0 ad (h.pw hw) hS hh fun hb => hg ⟨hw, hb⟩).mono fun e w' ⟨t, x, he, _, hx⟩ => ⟨t, x, he, hx⟩
  · exact (consedges_no a1 a2 a3 c1 c2 c3 P hv w n0 ad h.errs h.prog h.z1 h.z2 hw).mono fun e w' ⟨t, x, he, _, hx⟩ => ⟨t, x, he, hx⟩

/-- Own sets, wherever. -/
theorem ownsets_at {w : World} {n0 : Nat} {a : Option Addr} {c : Nat} {L : List (List Int)} (h : SetsR w n0 (.slice a L.length c) L) (hf : fewSets L) (w1 : World) (x : Ext w w1) :
    Calls Tryz.prog 9 #[.slice a L.length c] w1 fun e w' => ∃ a c, e = .returned (.slice a L.length c) ∧ SetsR w' w'.heap.size (.slice a L.length c) L ∧ Ext w1 w' :=
  (ownsets_any _ L w1 n0 (h.ext x) hf).mono fun e w' ⟨v, he, hs, hx⟩ => by
    obtain ⟨a, c, rfl⟩ := hs.form
    exact ⟨a, c, he, hs, hx⟩
def ruledP : PP := ⟨[⟨#[97]⟩, ⟨#[98]⟩], [], [⟨⟨#[99, 111, 112, 121]⟩, 0, 1, []⟩]⟩
theorem ruled_good : ruledP.GoodS [[], []] := by
  refine ⟨⟨by decide +kernel, fun j t hj ht => ?_⟩, by decide +kernel, fun l hl => ?_⟩
  · have hj2 : j < 1 := hj
    obtain rfl : j = 0 := by omega
    obtain rfl := Option.some.inj ht
    decide +kernel
  · obtain rfl : l = [] := by simpa using hl
    decide +kernel
theorem ruled_edges : ruledP.edgesL [[], []] = [(1, 0)] := by decide +kernel
def ruledS : Array Value := #[.string ⟨#[99, 111, 112, 121]⟩, .int .i64 0, .int .i64 1, .slice none 0 0]
theorem ruled_prog {w : World} {a b n0 : Nat} (ha : Blk w a #[.string ⟨#[97]⟩, .string ⟨#[98]⟩] 9) (hb : Blk w b ruledS 65) (h1 : a < n0) (h2 : b < n0) : ProgR w n0 (.slice (some ⟨a, 0, none⟩) 2 2) (.slice none 0 0) (.slice (some ⟨b, 0, none⟩) 1 1) ruledP := by
  refine ⟨⟨_, 2, rfl, by decide, by decide, fun _ => ⟨_, rfl⟩, fun y hy _ => ?_⟩, ⟨_, 0, rfl, by decide, by decide, fun h => absurd h (by decide), fun y hy => by cases hy⟩, ⟨_, 1, rfl, by decide, by decide, fun _ => ⟨_, rfl⟩, fun y hy _ => ?_⟩⟩
  · obtain rfl := Option.some.inj hy
    refine ⟨h1, fun i hi s hs => ?_⟩
    have hi2 : i < 2 := hi
    rcases (by omega : i = 0 ∨ i = 1) with rfl | rfl
    · obtain rfl := Option.some.inj hs
      exact ha.av 0 rfl
    · obtain rfl := Option.some.inj hs
      exact ha.av 1 rfl
  · obtain rfl := Option.some.inj hy
    refine ⟨h2, fun i hi s hs => ?_⟩
    have hi2 : i < 1 := hi
    have hn : IntsR w n0 (.slice none 0 0) [] := ⟨none, 0, rfl, by decide, by decide, fun h => absurd h (by decide), fun y hy => by cases hy⟩
    obtain rfl : i = 0 := by omega
    obtain rfl := Option.some.inj hs
    exact ⟨.slice none 0 0, hb.av 0 rfl, hb.av 1 rfl, hb.av 2 rfl, hb.av 3 rfl, hn⟩
theorem ruled_sets {w : World} {b n0 : Nat} (hb : Blk w b #[.slice none 0 0, .slice none 0 0] 42) (h : b < n0) : SetsR w n0 (.slice (some ⟨b, 0, none⟩) 2 2) [[], []] := by
  refine ⟨_, 2, rfl, by decide, by decide, fun _ => ⟨_, rfl⟩, fun y hy _ => ?_⟩
  obtain rfl := Option.some.inj hy
  refine ⟨h, fun i hi s hs => ?_⟩
  have hi2 : i < 2 := hi
  have hn : IntsR w n0 (.slice none 0 0) [] := ⟨none, 0, rfl, by decide, by decide, fun h => absurd h (by decide), fun y hy => by cases hy⟩
  rcases (by omega : i = 0 ∨ i = 1) with rfl | rfl
  · obtain rfl := Option.some.inj hs
    exact ⟨_, hb.av 0 rfl, hn⟩
  · obtain rfl := Option.some.inj hs
    exact ⟨_, hb.av 1 rfl, hn⟩

set_option maxRecDepth 100000 in
set_option maxHeartbeats 1600000 in
theorem ruled_any (w : World) (ad : Nat → Addr) (hE : ErrsP w ad) (hS : ErrS w ad) : Calls Tryz.prog 5 #[] w fun e w' => e = .returned (.bool true) ∧ Ext w w' := by
  obtain ⟨W1, hW1⟩ : ∃ W1, W1 = w.alloc (.cells #[.string ⟨#[97]⟩, .string ⟨#[98]⟩] 9) := ⟨_, rfl⟩
  obtain ⟨W2, hW2⟩ : ∃ W2, W2 = W1.alloc (.cells ruledS 65) := ⟨_, rfl⟩
  obtain ⟨W3, hW3⟩ : ∃ W3, W3 = W2.alloc (.cells #[.slice (some ⟨w.heap.size, 0, none⟩) 2 2, .slice none 0 0, .slice (some ⟨w.heap.size + 1, 0, none⟩) 1 1] 26) := ⟨_, rfl⟩
  obtain ⟨W4, hW4⟩ : ∃ W4, W4 = W3.alloc (.cells #[.slice none 0 0, .slice none 0 0] 42) := ⟨_, rfl⟩
  have x1 : Ext w W1 := by rw [hW1]; exact (Ext.refl _).alloc _
  have x2 : Ext W1 W2 := by rw [hW2]; exact (Ext.refl _).alloc _
  have x3 : Ext W2 W3 := by rw [hW3]; exact (Ext.refl _).alloc _
  have x4 : Ext W3 W4 := by rw [hW4]; exact (Ext.refl _).alloc _
  have s1 : W1.heap.size = w.heap.size + 1 := by rw [hW1, heap_size_alloc]
  have s2 : W2.heap.size = w.heap.size + 2 := by rw [hW2, heap_size_alloc, s1]
  have s3 : W3.heap.size = w.heap.size + 3 := by rw [hW3, heap_size_alloc, s2]
  have s4 : W4.heap.size = w.heap.size + 4 := by rw [hW4, heap_size_alloc, s3]
  have bA : Blk W1 w.heap.size #[.string ⟨#[97]⟩, .string ⟨#[98]⟩] 9 := by rw [hW1]; exact Blk.new _ _ _
  have bB : Blk W2 (w.heap.size + 1) ruledS 65 := by rw [hW2, ← s1]; exact Blk.new _ _ _
  have bD : Blk W4 (w.heap.size + 3) #[.slice none 0 0, .slice none 0 0] 42 := by rw [hW4, ← s3]; exact Blk.new _ _ _
  have hP := ruled_prog (n0 := W4.heap.size) (bA.ext (x2.trans (x3.trans x4))) (bB.ext (x3.trans x4)) (by omega) (by omega)
  have hI := ruled_sets (n0 := W4.heap.size) bD (by omega)
  have xx : Ext w W4 := x1.trans (x2.trans (x3.trans x4))
  have HD := hid (edges_fix _ _ _ 2 0 1 ruledP _ [[], []] W4 ad ⟨hE.ext xx, hP, fun s hs => by rcases (by simpa [ruledP] using hs : s = ⟨#[97]⟩ ∨ s = ⟨#[98]⟩) with rfl | rfl <;> decide, fun s hs => by simp [PP.names, ruledP] at hs, ruled_good.1⟩ (hS.ext xx) hI ruled_good)
  rw [ruled_edges] at HD
  have HX := hid xx
  have HW4 : Hid (W4 = (((w.alloc (.cells #[.string ⟨#[97]⟩, .string ⟨#[98]⟩] 9)).alloc (.cells #[.string ⟨#[99, 111, 112, 121]⟩, .int .i64 0, .int .i64 1, .slice none 0 0] 65)).alloc (.cells #[.slice (some ⟨w.heap.size, 0, none⟩) 2 2, .slice none 0 0, .slice (some ⟨w.heap.size + 1, 0, none⟩) 1 1] 26)).alloc (.cells #[.slice none 0 0, .slice none 0 0] 42)) := hid (by rw [hW4, hW3, hW2, hW1]; rfl)
  unfold pval at HD
  clear hE hS hW1 hW2 hW3 hW4 x1 x2 x3 x4 s1 s2 s3 s4 bA bB bD hP hI xx
  go_enter Tryz.func5, Tryz.ntmps5
  go_wp2_with fail
  rw [← HW4.out]
  refine HD.out.mono ?_
  intro e w5 hx
  obtain ⟨a, c, rfl, hr, _, hx5⟩ := hx
  unfold ERow at hr
  obtain ⟨g, cap, he⟩ := own_some hr (by decide)
  simp only [Value.slice.injEq] at he
  obtain ⟨rfl, -, rfl⟩ := he
  obtain ⟨q0, q1⟩ := own_e hr (i := 0) (x := (1, 0)) rfl
  have q0' : w5.cell? ⟨g, 0, none⟩ = some (.int .i64 1) := q0
  have q1' : w5.cell? ⟨g, 1, none⟩ = some (.int .i64 0) := q1
  have HX5 := hid (HX.out.trans hx5)
  clear HD hx5 hr q0 q1
  simp only [List.length_cons, List.length_nil, Nat.zero_add]
  go_wp2
  go_ret
  exact ⟨rfl, HX5.out⟩
end Go.Proofs.YtohfdecefikinaaGreatDoor


/- Edges, plainly: more objects make no fewer edges. -/
namespace Go.Proofs.YtohfdecefikinaaGreatDoor
set_option linter.unusedSimpArgs false
set_option linter.unusedVariables false
open Go Go.RowKit

/-- Each node has what it had. -/
def Sub (a b : List (List Int)) : Prop := ∀ i x, x ∈ a.getD i [] → x ∈ b.getD i []
theorem nodesOf_mono {P : PP} {a b : List Int} (h : ∀ x, x ∈ a → x ∈ b) : ∀ x, x ∈ P.nodesOf a → x ∈ P.nodesOf b := fun x hx => by
  unfold PP.nodesOf at hx ⊢
  obtain ⟨h1, h2⟩ := List.mem_filter.1 hx
  exact List.mem_filter.2 ⟨h x h1, h2⟩
theorem redges_mono {P : PP} {a b : List (List Int)} (h : Sub a b) (r : RV) : ∀ e, e ∈ P.redges r a → e ∈ P.redges r b := by
  intro e
  unfold PP.redges
  cases r.kind.toList == kCopy
  · cases r.kind.toList == kLoad
    · cases r.kind.toList == kStore
      · cases r.kind.toList == kCall
        · exact id
        · simp only [cond_true, cond_false]
          intro he
          obtain ⟨o, ho, hm⟩ := List.mem_flatMap.1 he
          exact List.mem_flatMap.2 ⟨o, h _ _ ho, hm⟩
      · simp only [cond_true, cond_false]
        intro he
        obtain ⟨o, ho, hm⟩ := List.mem_map.1 he
        exact List.mem_map.2 ⟨o, nodesOf_mono (h _) _ ho, hm⟩
    · simp only [cond_true, cond_false]
      intro he
      obtain ⟨o, ho, hm⟩ := List.mem_map.1 he
      exact List.mem_map.2 ⟨o, nodesOf_mono (h _) _ ho, hm⟩
  · exact id
theorem edges0_mono {P : PP} {a b : List (List Int)} (h : Sub a b) : ∀ e, e ∈ P.edges0 a → e ∈ P.edges0 b := by
  intro e he
  unfold PP.edges0 at he ⊢
  obtain ⟨r, hr, hm⟩ := List.mem_flatMap.1 he
  exact List.mem_flatMap.2 ⟨r, hr, redges_mono h r e hm⟩
theorem edgesAre_mono {P : PP} {a b : List (List Int)} (h : Sub a b) {l m : List (Int × Int)} (hl : EdgesAre P a l) (hm : EdgesAre P b m) : ∀ e, e ∈ l → e ∈ m := fun e he =>
  (hm.mem e).2 ⟨edges0_mono h e ((hl.mem e).1 he).1, ((hl.mem e).1 he).2⟩
/-- One node has one object more. -/
def plusAt (has : List (List Int)) (n : Nat) (o : Int) : List (List Int) := has.set n (sset (has.getD n [] ++ [o]))
theorem plusAt_sub {P : PP} {has : List (List Int)} (hs : SetsOk P has) (n : Nat) (o : Int) (ho : 0 ≤ o ∧ o < 1000) : Sub has (plusAt has n o) := by
  intro i x hx
  unfold plusAt
  rw [List.getD_eq_getElem?_getD, List.getElem?_set]
  by_cases hi : n = i
  · subst hi
    rw [if_pos rfl]
    by_cases hl : n < has.length
    · rw [if_pos hl]
      rw [Option.getD_some]
      refine mem_sset0.2 ⟨List.mem_append.2 (.inl hx), ?_⟩
      rw [List.getD_eq_getElem?_getD, List.getElem?_eq_getElem hl] at hx
      exact hs.inr _ (List.getElem_mem hl) x hx
    · rw [List.getD_eq_getElem?_getD, List.getElem?_eq_none (by omega)] at hx
      cases hx
  · rw [if_neg hi]
    rwa [List.getD_eq_getElem?_getD] at hx
theorem plusAt_ok {P : PP} {has : List (List Int)} (hs : SetsOk P has) (n : Nat) (o : Int) (ho : 0 ≤ o ∧ o < (P.objectsV : Int)) : SetsOk P (plusAt has n o) := by
  refine ⟨by unfold plusAt; rw [List.length_set]; exact hs.len, fun l hl => ?_⟩
  unfold plusAt at hl
  rcases List.mem_or_eq_of_mem_set hl with h | h
  · exact hs.ok l h
  · rw [h]
    refine ⟨chkE_sset _, fun x hx => ?_⟩
    rcases List.mem_append.1 (mem_sset0.1 hx).1 with h | h
    · rw [List.getD_eq_getElem?_getD] at h
      cases he : has[n]? with
      | none => rw [he] at h; cases h
      | some l => rw [he] at h; exact (hs.ok l (List.mem_of_getElem? he)).2 x h
    · obtain rfl := List.mem_singleton.1 h
      exact ho.2
/-- In a list that rises, what is greater stands behind. -/
theorem srtP_idx {b : List (Int × Int)} (h : SrtP b) {i j : Nat} {x y : Int × Int} (hi : b[i]? = some x) (hj : b[j]? = some y) (hlt : lexLt x y) : i < j := by
  have hil : i < b.length := by
    rcases Nat.lt_or_ge i b.length with g | g
    · exact g
    · rw [List.getElem?_eq_none g] at hi; cases hi
  have hjl : j < b.length := by
    rcases Nat.lt_or_ge j b.length with g | g
    · exact g
    · rw [List.getElem?_eq_none g] at hj; cases hj
  rw [List.getElem?_eq_getElem hil] at hi
  rw [List.getElem?_eq_getElem hjl] at hj
  obtain rfl := Option.some.inj hi
  obtain rfl := Option.some.inj hj
  rcases Nat.lt_trichotomy i j with g | g | g
  · exact g
  · subst g; exact absurd hlt (lexLt.irr _)
  · exact absurd (hlt.trans (List.pairwise_iff_getElem.1 h j i hjl hil g)) (lexLt.irr _)
theorem srtP_next {a : List (Int × Int)} (h : SrtP a) {i : Nat} {x y : Int × Int} (hi : a[i]? = some x) (hj : a[i + 1]? = some y) : lexLt x y := by
  have hjl : i + 1 < a.length := by
    rcases Nat.lt_or_ge (i + 1) a.length with g | g
    · exact g
    · rw [List.getElem?_eq_none g] at hj; cases hj
  rw [List.getElem?_eq_getElem (by omega)] at hi
  rw [List.getElem?_eq_getElem hjl] at hj
  obtain rfl := Option.some.inj hi
  obtain rfl := Option.some.inj hj
  exact List.pairwise_iff_getElem.1 h i (i + 1) (by omega) hjl (by omega)
/-- A list that rises is of no more than a list that rises and has all of it. -/
theorem srtP_sub_len : ∀ {a b : List (Int × Int)}, SrtP a → SrtP b → (∀ e, e ∈ a → e ∈ b) → a.length ≤ b.length
  | [], b, _, _, _ => Nat.zero_le _
  | x :: a, b, ha, hb, h => by
    obtain ⟨s, t, rfl⟩ := List.append_of_mem (h x List.mem_cons_self)
    have ha' := List.pairwise_cons.1 ha
    have hb' := List.pairwise_append.1 hb
    have hbt := List.pairwise_cons.1 hb'.2.1
    have := srtP_sub_len ha'.2 hbt.2 fun e he => by
      have hlt := ha'.1 e he
      rcases List.mem_append.1 (h e (List.mem_cons_of_mem _ he)) with g | g
      · exact absurd (hlt.trans (hb'.2.2 e g x List.mem_cons_self)) (lexLt.irr _)
      · rcases List.mem_cons.1 g with g | g
        · subst g; exact absurd hlt (lexLt.irr _)
        · exact g
    rw [List.length_append, List.length_cons, List.length_cons]
    omega
end Go.Proofs.YtohfdecefikinaaGreatDoor


/- ConsMore: what the law leans on. -/
namespace Go.Proofs.YtohfdecefikinaaGreatDoor
set_option linter.unusedSimpArgs false
set_option linter.unusedVariables false
open Go Go.RowKit

set_option maxRecDepth 100000 in
set_option maxHeartbeats 1600000 in
theorem progobjects_no (a1 a2 a3 : Option Addr) (c1 c2 c3 : Nat) (P : PP) (w : World) (n0 : Nat) (ad : Nat → Addr) (h : PS0 w n0 ad a1 a2 a3 c1 c2 c3 P) (hw : ¬ P.Well) :
    Calls Tryz.prog 20 #[pval a1 a2 a3 c1 c2 c3 P] w fun e w' => e = .returned (.int .i64 0) ∧ Ext w w' := by
  obtain ⟨W, hW⟩ : ∃ W, W = w.alloc (.cells (pcells a1 a2 a3 c1 c2 c3 P) 26) := ⟨_, rfl⟩
  have HX : Hid (Ext w W) := hid (by rw [hW]; exact (Ext.refl _).alloc _)
  have HBx : Hid (Blk W w.heap.size (pcells a1 a2 a3 c1 c2 c3 P) 26) := hid (by rw [hW]; exact Blk.new _ _ _)
  have HWe : Hid (W = w.alloc (.cells #[.slice a1 P.vars.length c1, .slice a2 P.funs.length c2, .slice a3 P.stmts.length c3] 26)) := hid (by rw [hW]; rfl)
  have hml : (P.vars.length : Int) ≤ 9223372036854775807 := by
    obtain ⟨_, _, _, h2, h3, _⟩ := h.prog.vars
    omega
  have HK := hid (pcheck_any a1 a2 a3 c1 c2 c3 P W n0 ad (h.errs.ext HX.out) (h.prog.ext HX.out) h.z1 h.z2 hml)
  have Hw := hid hw
  have d0 := HBx.out.av 0 rfl
  have d1 := HBx.out.av 1 rfl
  have d2 := HBx.out.av 2 rfl
  simp only [pcells, List.getElem_toArray, List.getElem_cons_zero, List.getElem_cons_succ] at d0 d1 d2
  unfold pval at HK ⊢
  clear hW h hw
  go_enter Tryz.func20, Tryz.ntmps20
  go_wp2_with fail
  rw [← HWe.out]
  refine HK.out.mono ?_
  intro e w1 hx
  obtain ⟨v, rfl, hi, hx1⟩ := hx
  obtain ⟨t, x, rfl⟩ : ∃ t x, v = .iface t (.pointer (some x)) := by
    rcases hi.form with ⟨_, h⟩ | ⟨h, _⟩
    · exact absurd h Hw.out
    · exact h
  have Hx1 := hid (HX.out.trans hx1)
  clear HK hx1 hi d0 d1 d2
  go_wp2
  go_ret
  exact ⟨rfl, Hx1.out⟩
theorem setE_of {P : PP} {l : List Int} (h : chkE l = 0) (hx : ∀ x ∈ l, x < (P.objectsV : Int)) : P.setE l = 0 := by
  unfold PP.setE
  rw [if_pos h, if_neg]
  rintro ⟨h1, h2⟩
  rw [List.getD_eq_getElem?_getD, List.getElem?_eq_getElem (show l.length - 1 < l.length by omega), Option.getD_some] at h2
  have := hx _ (List.getElem_mem (show l.length - 1 < l.length by omega))
  omega
theorem goodS_plus {P : PP} {has : List (List Int)} (h : P.GoodS has) (n : Nat) (o : Int) (ho : 0 ≤ o ∧ o < (P.objectsV : Int)) : P.GoodS (plusAt has n o) := by
  have hk := plusAt_ok h.ok n o ho
  exact ⟨h.1, hk.len, fun l hl => setE_of (hk.ok l hl).1 (hk.ok l hl).2⟩
theorem objects_few {P : PP} (hw : P.Well) : P.objectsV ≤ 126 := by
  have h1 := hw.few
  have h2 := nodesV_le P hw
  unfold PP.objectsV
  omega
/-- One list of a row that was made is put anew. -/
theorem Made.set {w : World} {base g cap : Nat} {vs : List Value} {L : List (List Int)} {n : Nat} {v : Value} {l : List Int} (hr : w.ownsRow base 42 1 (.slice (some ⟨g, 0, none⟩) L.length cap) L.length vs) (hm : Made w vs L) (hv : IntsT w v l) (hn : n < L.length) :
    SetsR (w.setCell ⟨g, n, none⟩ v) (w.setCell ⟨g, n, none⟩ v).heap.size (.slice (some ⟨g, 0, none⟩) (L.set n l).length cap) (L.set n l) := by
  have k : Keep (fun q => q = g) w (w.setCell ⟨g, n, none⟩ v) := Keep.set (X := fun q => q = g) (Keep.refl _ _) rfl _
  have hni : ∀ b, b = g → ¬ IsInt w b := fun b e => by
    subst e
    obtain ⟨c, hc⟩ := own_ty hr (k := b) rfl
    exact notInt hc (by decide)
  have hvs := hm.1
  have h2 := own_set hr n (by omega) v
  rw [show L.length = (L.set n l).length from List.length_set.symm] at h2
  refine SetsR.made h2 ⟨by rw [List.length_set, List.length_set]; exact hvs, fun i u m hu hl => ?_⟩
  by_cases hi : n = i
  · subst hi
    rw [List.getElem?_set_self (by omega)] at hu hl
    obtain rfl := Option.some.inj hu
    obtain rfl := Option.some.inj hl
    exact hv.keep k hni
  · rw [List.getElem?_set_ne hi] at hu hl
    exact (hm.2 i u m hu hl).keep k hni
theorem IntsT.row {w : World} {base : Nat} {v : Value} {l : List Int} (h : IRow base w v l) : IntsT w v l := IntsT.of_row h
/-- Where what is sought stands: here or behind. -/
def Ahead (a b : List (Int × Int)) (i k : Nat) : Prop := ∀ x, a[i]? = some x → ∃ j, k ≤ j ∧ b[j]? = some x
theorem Ahead.zero {a b : List (Int × Int)} (h : ∀ e, e ∈ a → e ∈ b) : Ahead a b 0 0 := fun x hx => by
  obtain ⟨j, hj⟩ := List.mem_iff_getElem?.1 (h x (List.mem_of_getElem? hx))
  exact ⟨j, Nat.zero_le _, hj⟩
theorem Ahead.skip {a b : List (Int × Int)} {i k : Nat} {x y : Int × Int} (h : Ahead a b i k) (hx : a[i]? = some x) (hy : b[k]? = some y) (hne : y ≠ x) : Ahead a b i (k + 1) := fun z hz => by
  obtain rfl := Option.some.inj (hx.symm.trans hz)
  obtain ⟨j, hj, hb⟩ := h x hx
  refine ⟨j, ?_, hb⟩
  rcases Nat.lt_or_ge k j with g | g
  · exact g
  · obtain rfl : j = k := by omega
    exact absurd (Option.some.inj (hy.symm.trans hb)) hne
theorem Ahead.next {a b : List (Int × Int)} (ha : SrtP a) (hb : SrtP b) (hs : ∀ e, e ∈ a → e ∈ b) {i k : Nat} {x : Int × Int} (hx : a[i]? = some x) (hy : b[k]? = some x) : Ahead a b (i + 1) k := fun z hz => by
  obtain ⟨j, hj⟩ := List.mem_iff_getElem?.1 (hs z (List.mem_of_getElem? hz))
  exact ⟨j, Nat.le_of_lt (srtP_idx hb hy hj (srtP_next ha hx hz)), hj⟩
theorem Ahead.found {a b : List (Int × Int)} {i k : Nat} {x : Int × Int} (h : Ahead a b i k) (hx : a[i]? = some x) : k < b.length := by
  obtain ⟨j, hj, hb⟩ := h x hx
  rcases Nat.lt_or_ge j b.length with g | g
  · omega
  · rw [List.getElem?_eq_none g] at hb; cases hb
end Go.Proofs.YtohfdecefikinaaGreatDoor
