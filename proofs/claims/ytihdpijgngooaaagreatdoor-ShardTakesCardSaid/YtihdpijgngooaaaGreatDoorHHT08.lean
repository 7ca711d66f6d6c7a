/- Texts of one proof, put together: Z3 YT Z4 M1 E1 E2 ZL ZM ZN ZO ZP. -/
import Derived.Test.YtihdpijgngooaaaGreatDoorHHT04
import Derived.Test.YtihdpijgngooaaaGreatDoorHHT05
import Derived.Test.YtihdpijgngooaaaGreatDoorHHT06
import Derived.Test.YtihdpijgngooaaaGreatDoorHHT07
import Derived.Test.YtihdpijgngooaaaGreatDoorHHT01
set_option linter.unusedSimpArgs false
set_option linter.unusedVariables false
namespace Go.Proofs.YtihdpijgngooaaaGreatDoor
open Go Go.RowKit
theorem rule_a_in {P : PP} (hw : P.Well) {k : Nat} (hk : k < P.stmts.length) : 0 ≤ (P.ruleV k (P.stAt k)).a ∧ (P.ruleV k (P.stAt k)).a < P.vars.length := by
  have h0 := hw.2 k (P.stAt k) hk (stAt_some hk)
  have hg := PP.good h0
  obtain ⟨x, hx⟩ : ∃ x, x = P.stAt k := ⟨_, rfl⟩
  rw [← hx] at h0 hg ⊢
  unfold PP.ruleV
  cases h1 : x.isK kAddr with
  | true => exact hg.gx
  | false =>
    cases h2 : x.isK kNew with
    | true => exact hg.gx
    | false =>
      cases h3 : x.isK kFun with
      | true => exact hg.gx
      | false =>
        have hy := hg.yv h3 h2
        cases h4 : x.isK kCall with
        | true => exact hy
        | false => exact hy
def fEdge (f : PF) (r : RV) (a b : Int) : Bool := decide (f.params.length = r.args.length) && ((decide (a = f.ret) && decide (b = r.b)) || (List.range f.params.length).any fun i => decide (a = r.args.getD i 0) && decide (b = f.params.getD i 0))
def PP.isE (P : PP) (r : RV) (has : List (List Int)) (a b : Int) : Bool :=
  bif r.kind.toList == kCopy then decide (a = r.a) && decide (b = r.b) else
  bif r.kind.toList == kLoad then decide (b = r.b) && (decide (a < (P.nodesV : Int)) && decide (a ∈ has.getD r.a.toNat [])) else
  bif r.kind.toList == kStore then decide (a = r.a) && (decide (b < (P.nodesV : Int)) && decide (b ∈ has.getD r.b.toNat [])) else
  bif r.kind.toList == kCall then (List.range P.funs.length).any fun f => decide ((P.nodesV : Int) + f ∈ has.getD r.a.toNat []) && fEdge (P.funs.getD f ⟨⟨#[]⟩, [], 0⟩) r a b else false
theorem fEdge_iff (f : PF) (r : RV) (a b : Int) : fEdge f r a b = true ↔ (a, b) ∈ calledV f r := by
  unfold fEdge calledV
  by_cases hl : f.params.length = r.args.length
  · rw [decide_eq_true hl, Bool.true_and, if_pos hl, List.mem_cons, Bool.or_eq_true, Bool.and_eq_true, decide_eq_true_iff, decide_eq_true_iff, Prod.mk.injEq]
    refine or_congr Iff.rfl ?_
    rw [List.any_eq_true]
    constructor
    · rintro ⟨i, hi, h⟩
      have hi := List.mem_range.1 hi
      rw [Bool.and_eq_true, decide_eq_true_iff, decide_eq_true_iff] at h
      refine List.mem_iff_getElem?.2 ⟨i, List.getElem?_zip_eq_some.2 ⟨?_, ?_⟩⟩
      · rw [h.1, List.getD_eq_getElem?_getD, List.getElem?_eq_getElem (show i < r.args.length by omega)]; rfl
      · rw [h.2, List.getD_eq_getElem?_getD, List.getElem?_eq_getElem hi]; rfl
    · intro h
      obtain ⟨i, hi⟩ := List.mem_iff_getElem?.1 h
      obtain ⟨h1, h2⟩ := List.getElem?_zip_eq_some.1 hi
      have hil : i < f.params.length := by
        rcases Nat.lt_or_ge i f.params.length with g | g
        · exact g
        · rw [List.getElem?_eq_none g] at h2; cases h2
      refine ⟨i, List.mem_range.2 hil, ?_⟩
      rw [List.getD_eq_getElem?_getD, List.getD_eq_getElem?_getD, h1, h2]
      simp
  · rw [decide_eq_false hl, Bool.false_and, if_neg hl]
    simp
theorem isE_iff {P : PP} (r : RV) (has : List (List Int)) (a b : Int) : P.isE r has a b = true ↔ (a, b) ∈ P.redges r has := by
  unfold PP.isE PP.redges
  cases r.kind.toList == kCopy
  · cases r.kind.toList == kLoad
    · cases r.kind.toList == kStore
      · cases r.kind.toList == kCall
        · simp
        · simp only [cond_true, cond_false]
          rw [List.any_eq_true, List.mem_flatMap]
          constructor
          · rintro ⟨f, hf, h⟩
            have hf := List.mem_range.1 hf
            rw [Bool.and_eq_true, decide_eq_true_iff, fEdge_iff] at h
            refine ⟨_, h.1, ?_⟩
            unfold PP.callsOf
            have e : P.funV ((P.nodesV : Int) + f) = (f : Int) := by unfold PP.funV; rw [if_pos (by omega)]; omega
            rw [e, if_pos (by omega)]
            exact h.2
          · rintro ⟨o, ho, h⟩
            unfold PP.callsOf at h
            by_cases hF : 0 ≤ P.funV o
            · rw [if_pos hF] at h
              have hlt := funV_lt hF
              refine ⟨(P.funV o).toNat, List.mem_range.2 (by omega), ?_⟩
              rw [Bool.and_eq_true, decide_eq_true_iff, fEdge_iff]
              refine ⟨?_, h⟩
              have e : (P.nodesV : Int) + ((P.funV o).toNat : Nat) = o := by
                rw [Int.toNat_of_nonneg hF]
                unfold PP.funV at hF ⊢
                by_cases hc : 0 ≤ o - (P.nodesV : Int) ∧ o - (P.nodesV : Int) < P.funs.length
                · rw [if_pos hc]; omega
                · rw [if_neg hc] at hF; omega
              rw [e]
              exact ho
            · rw [if_neg hF] at h
              cases h
      · simp only [cond_true, cond_false]
        rw [List.mem_map]
        constructor
        · intro h
          simp only [Bool.and_eq_true, decide_eq_true_iff] at h
          refine ⟨b, ?_, by rw [h.1]⟩
          unfold PP.nodesOf
          exact List.mem_filter.2 ⟨h.2.2, by simp; exact h.2.1⟩
        · rintro ⟨o, ho, h⟩
          unfold PP.nodesOf at ho
          obtain ⟨h1, h2⟩ := List.mem_filter.1 ho
          simp only [Prod.mk.injEq] at h
          obtain ⟨rfl, rfl⟩ := h
          simp at h2
          exact Bool.and_eq_true_iff.2 ⟨decide_eq_true rfl, Bool.and_eq_true_iff.2 ⟨decide_eq_true h2, decide_eq_true h1⟩⟩
    · simp only [cond_true, cond_false]
      rw [List.mem_map]
      constructor
      · intro h
        simp only [Bool.and_eq_true, decide_eq_true_iff] at h
        refine ⟨a, ?_, by rw [h.1]⟩
        unfold PP.nodesOf
        exact List.mem_filter.2 ⟨h.2.2, by simp; exact h.2.1⟩
      · rintro ⟨o, ho, h⟩
        unfold PP.nodesOf at ho
        obtain ⟨h1, h2⟩ := List.mem_filter.1 ho
        simp only [Prod.mk.injEq] at h
        obtain ⟨rfl, rfl⟩ := h
        simp at h2
        exact Bool.and_eq_true_iff.2 ⟨decide_eq_true rfl, Bool.and_eq_true_iff.2 ⟨decide_eq_true h2, decide_eq_true h1⟩⟩
  · simp only [cond_true, List.mem_singleton, Prod.mk.injEq, Bool.and_eq_true, decide_eq_true_iff]
def PP.rulesE (P : PP) : List RV := P.rulesV.filter fun r => !(r.kind.toList == bBase.toList)
def PP.edgeB (P : PP) (has : List (List Int)) (a b : Int) : Bool := decide (a ≠ b) && P.rulesE.any fun r => P.isE r has a b
theorem edgeB_iff {P : PP} {has : List (List Int)} {a b : Int} : P.edgeB has a b = true ↔ (a, b) ∈ P.edges0 has ∧ a ≠ b := by
  unfold PP.edgeB PP.rulesE PP.edges0
  rw [Bool.and_eq_true, decide_eq_true_iff, List.any_eq_true, List.mem_flatMap, and_comm]
  refine and_congr ⟨fun ⟨r, hr, h⟩ => ⟨r, (List.mem_filter.1 hr).1, (isE_iff r has a b).1 h⟩, fun ⟨r, hr, h⟩ => ⟨r, List.mem_filter.2 ⟨hr, ?_⟩, (isE_iff r has a b).2 h⟩⟩ Iff.rfl
  cases hb : r.kind.toList == bBase.toList with
  | false => rfl
  | true =>
    have e := eq_of_beq hb
    have hn : P.redges r has = [] := by
      have e2 := eq_of_beq bBase_list
      unfold PP.redges kCopy kLoad kStore kCall
      rw [e, e2]; rfl
    rw [hn] at h
    cases h
def PP.rowE (P : PP) (has : List (List Int)) (a n : Nat) : List (Int × Int) := ((List.range n).filter fun b : Nat => P.edgeB has (a : Int) (b : Int)).map fun b : Nat => ((a : Int), (b : Int))
def PP.refE (P : PP) (has : List (List Int)) (n : Nat) : List (Int × Int) := (List.range n).flatMap fun a => P.rowE has a P.nodesV
theorem mem_rowE {P : PP} {has : List (List Int)} {a n : Nat} {e : Int × Int} : e ∈ P.rowE has a n ↔ ∃ b : Nat, b < n ∧ e = ((a : Int), (b : Int)) ∧ P.edgeB has a b = true := by
  unfold PP.rowE
  rw [List.mem_map]
  constructor
  · rintro ⟨b, hb, rfl⟩
    obtain ⟨h1, h2⟩ := List.mem_filter.1 hb
    exact ⟨b, List.mem_range.1 h1, rfl, h2⟩
  · rintro ⟨b, hb, rfl, h⟩
    exact ⟨b, List.mem_filter.2 ⟨List.mem_range.2 hb, h⟩, rfl⟩
theorem rowE_srt (P : PP) (has : List (List Int)) (a n : Nat) : SrtP (P.rowE has a n) := by
  unfold PP.rowE SrtP
  rw [List.pairwise_map]
  refine List.Pairwise.imp (R := (· < ·)) (fun h => .inr ⟨rfl, by simp only; omega⟩) ?_
  exact List.Pairwise.sublist List.filter_sublist List.pairwise_lt_range
theorem refE_srt (P : PP) (has : List (List Int)) : ∀ n, SrtP (P.refE has n)
  | 0 => List.Pairwise.nil
  | n + 1 => by
    unfold PP.refE
    rw [List.range_succ, List.flatMap_append]
    refine List.pairwise_append.2 ⟨refE_srt P has n, by simpa using rowE_srt P has n P.nodesV, fun x hx y hy => ?_⟩
    obtain ⟨a, ha, hxa⟩ := List.mem_flatMap.1 hx
    obtain ⟨b, _, rfl, _⟩ := mem_rowE.1 hxa
    have hy' : y ∈ P.rowE has n P.nodesV := by simpa using hy
    obtain ⟨c, _, rfl, _⟩ := mem_rowE.1 hy'
    have := List.mem_range.1 ha
    exact .inl (by show (a : Int) < n; omega)
theorem refE_are {P : PP} (hw : P.Well) {has : List (List Int)} (hs : SetsOk P has) : EdgesAre P has (P.refE has P.nodesV) := by
  refine ⟨refE_srt P has _, fun e => ?_⟩
  obtain ⟨x, y⟩ := e
  unfold PP.refE
  rw [List.mem_flatMap]
  constructor
  · rintro ⟨a, _, h⟩
    obtain ⟨b, _, e, h2⟩ := mem_rowE.1 h
    simp only [Prod.mk.injEq] at e
    obtain ⟨rfl, rfl⟩ := e
    exact edgeB_iff.1 h2
  · rintro ⟨h, hne⟩
    obtain ⟨h1, h2, h3, h4⟩ := edges0_in hw hs _ h
    obtain ⟨a, rfl⟩ := Int.eq_ofNat_of_zero_le h1
    obtain ⟨b, rfl⟩ := Int.eq_ofNat_of_zero_le h3
    exact ⟨a, List.mem_range.2 (by simp only at h2; omega), mem_rowE.2 ⟨b, by simp only at h4; omega, rfl, edgeB_iff.2 ⟨h, hne⟩⟩⟩
def PP.edgesL (P : PP) (has : List (List Int)) : List (Int × Int) := P.refE has P.nodesV
def PP.GoodS (P : PP) (has : List (List Int)) : Prop := P.Well ∧ has.length = P.nodesV ∧ ∀ l ∈ has, P.setE l = 0
theorem PP.GoodS.ok {P : PP} {has : List (List Int)} (h : P.GoodS has) : SetsOk P has := SetsOk.of h.2.1 h.2.2
theorem edgesL_are {P : PP} {has : List (List Int)} (h : P.GoodS has) : EdgesAre P has (P.edgesL has) := refE_are h.1 h.ok
structure PS0 (w : World) (n0 : Nat) (ad : Nat → Addr) (a1 a2 a3 : Option Addr) (c1 c2 c3 : Nat) (P : PP) : Prop where
  errs : ErrsP w ad
  prog : ProgR w n0 (.slice a1 P.vars.length c1) (.slice a2 P.funs.length c2) (.slice a3 P.stmts.length c3) P
  z1 : ∀ s ∈ P.vars, s.size ≤ 1000000
  z2 : ∀ s ∈ P.names, s.size ≤ 1000000
theorem PS0.ext {w w' : World} {n0 : Nat} {ad : Nat → Addr} {a1 a2 a3 : Option Addr} {c1 c2 c3 : Nat} {P : PP} (h : PS0 w n0 ad a1 a2 a3 c1 c2 c3 P) (x : Ext w w') : PS0 w' w'.heap.size ad a1 a2 a3 c1 c2 c3 P → PS0 w' w'.heap.size ad a1 a2 a3 c1 c2 c3 P := id
theorem PS0.on {w w' : World} {n0 : Nat} {ad : Nat → Addr} {a1 a2 a3 : Option Addr} {c1 c2 c3 : Nat} {P : PP} (h : PS0 w n0 ad a1 a2 a3 c1 c2 c3 P) (hn : n0 ≤ w.heap.size) (x : Ext w w') : PS0 w' w'.heap.size ad a1 a2 a3 c1 c2 c3 P := ⟨h.errs.ext x, (h.prog.ext x).lift (Nat.le_trans hn x.size), h.z1, h.z2⟩
theorem PS0.pw {w : World} {n0 : Nat} {ad : Nat → Addr} {a1 a2 a3 : Option Addr} {c1 c2 c3 : Nat} {P : PP} (h : PS0 w n0 ad a1 a2 a3 c1 c2 c3 P) (hw : P.Well) : PW w n0 ad a1 a2 a3 c1 c2 c3 P := ⟨h.errs, h.prog, h.z1, h.z2, hw⟩
def ruledP : PP := ⟨[⟨#[97]⟩, ⟨#[98]⟩], [], [⟨⟨#[99, 111, 112, 121]⟩, 0, 1, []⟩]⟩
def ruledS : Array Value := #[.string ⟨#[99, 111, 112, 121]⟩, .int .i64 0, .int .i64 1, .slice none 0 0]
theorem setE_of {P : PP} {l : List Int} (h : chkE l = 0) (hx : ∀ x ∈ l, x < (P.objectsV : Int)) : P.setE l = 0 := by
  unfold PP.setE
  rw [if_pos h, if_neg]
  rintro ⟨h1, h2⟩
  rw [List.getD_eq_getElem?_getD, List.getElem?_eq_getElem (show l.length - 1 < l.length by omega), Option.getD_some] at h2
  have := hx _ (List.getElem_mem (show l.length - 1 < l.length by omega))
  omega
theorem objects_few {P : PP} (hw : P.Well) : P.objectsV ≤ 126 := by
  have h1 := hw.few
  have h2 := nodesV_le P hw
  unfold PP.objectsV
  omega
theorem Made.set {w : World} {base g cap : Nat} {vs : List Value} {L : List (List Int)} {n : Nat} {v : Value} {l : List Int} (hr : w.ownsRow base 43 1 (.slice (some ⟨g, 0, none⟩) L.length cap) L.length vs) (hm : Made w vs L) (hv : IntsT w v l) (hn : n < L.length) :
    SetsR (w.setCell ⟨g, n, none⟩ v) (w.setCell ⟨g, n, none⟩ v).heap.size (.slice (some ⟨g, 0, none⟩) (L.set n l).length cap) (L.set n l) := by
  have k : Keep (fun q => q = g) w (w.setCell ⟨g, n, none⟩ v) := Keep.set (X := fun q => q = g) (Keep.refl _ _) rfl _
  have hni : ∀ b, b = g → ¬ IsInt w b := fun b e => by
    subst e
    obtain ⟨c, hc⟩ := own_ty hr (k := b) rfl
    exact notInt hc (by decide)
  have hvs := hm.1
  have h2 := own_set hr n (by omega) v
  rw [show L.length = (L.set n l).length from List.length_set.symm] at h2
  refine SetsR.made h2 ⟨by rw [List.length_set, List.length_set]; exact hvs, fun i u m hu hl => ?_⟩
  by_cases hi : n = i
  · subst hi
    rw [List.getElem?_set_self (by omega)] at hu hl
    obtain rfl := Option.some.inj hu
    obtain rfl := Option.some.inj hl
    exact hv.keep k hni
  · rw [List.getElem?_set_ne hi] at hu hl
    exact (hm.2 i u m hu hl).keep k hni
theorem IntsT.row {w : World} {base : Nat} {v : Value} {l : List Int} (h : IRow base w v l) : IntsT w v l := IntsT.of_row h
def Ahead (a b : List (Int × Int)) (i k : Nat) : Prop := ∀ x, a[i]? = some x → ∃ j, k ≤ j ∧ b[j]? = some x
theorem Ahead.zero {a b : List (Int × Int)} (h : ∀ e, e ∈ a → e ∈ b) : Ahead a b 0 0 := fun x hx => by
  obtain ⟨j, hj⟩ := List.mem_iff_getElem?.1 (h x (List.mem_of_getElem? hx))
  exact ⟨j, Nat.zero_le _, hj⟩
theorem Ahead.skip {a b : List (Int × Int)} {i k : Nat} {x y : Int × Int} (h : Ahead a b i k) (hx : a[i]? = some x) (hy : b[k]? = some y) (hne : y ≠ x) : Ahead a b i (k + 1) := fun z hz => by
  obtain rfl := Option.some.inj (hx.symm.trans hz)
  obtain ⟨j, hj, hb⟩ := h x hx
  refine ⟨j, ?_, hb⟩
  rcases Nat.lt_or_ge k j with g | g
  · exact g
  · obtain rfl : j = k := by omega
    exact absurd (Option.some.inj (hy.symm.trans hb)) hne
theorem Ahead.next {a b : List (Int × Int)} (ha : SrtP a) (hb : SrtP b) (hs : ∀ e, e ∈ a → e ∈ b) {i k : Nat} {x : Int × Int} (hx : a[i]? = some x) (hy : b[k]? = some x) : Ahead a b (i + 1) k := fun z hz => by
  obtain ⟨j, hj⟩ := List.mem_iff_getElem?.1 (hs z (List.mem_of_getElem? hz))
  exact ⟨j, Nat.le_of_lt (srtP_idx hb hy hj (srtP_next ha hx hz)), hj⟩
theorem Ahead.found {a b : List (Int × Int)} {i k : Nat} {x : Int × Int} (h : Ahead a b i k) (hx : a[i]? = some x) : k < b.length := by
  obtain ⟨j, hj, hb⟩ := h x hx
  rcases Nat.lt_or_ge j b.length with g | g
  · omega
  · rw [List.getElem?_eq_none g] at hb; cases hb
def PP.baseAt (P : PP) (j : Nat) (n : Nat) (x : Int) : Prop := (P.ruleV j (P.stAt j)).kind.toList = bBase.toList ∧ (P.ruleV j (P.stAt j)).a = (n : Int) ∧ (P.ruleV j (P.stAt j)).b = x
structure RoundAt (P : PP) (has : List (List Int)) (EL : List (Int × Int)) (k m : Nat) (S : List (List Int)) : Prop where
  len : S.length = has.length
  ok : ∀ l ∈ S, chkE l = 0
  mem : ∀ n x, n < has.length → (x ∈ S.getD n [] ↔ x ∈ has.getD n [] ∨ (∃ j, j < k ∧ P.baseAt j n x) ∨ ∃ (i : Nat) (e : Int × Int), i < m ∧ EL[i]? = some e ∧ e.2 = (n : Int) ∧ x ∈ has.getD e.1.toNat [])
theorem getD_mem {S : List (List Int)} {n : Nat} (hn : n < S.length) : S.getD n [] ∈ S := by
  rw [List.getD_eq_getElem?_getD, List.getElem?_eq_getElem hn]
  exact List.getElem_mem hn
theorem RoundAt.start {P : PP} {has : List (List Int)} (hg : P.GoodS has) (EL : List (Int × Int)) : RoundAt P has EL 0 0 has :=
  ⟨rfl, fun l hl => (hg.ok.ok l hl).1, fun n x _ => ⟨.inl, fun h => by
    rcases h with h | ⟨j, hj, _⟩ | ⟨i, e, hi, _⟩
    · exact h
    · omega
    · omega⟩⟩
theorem RoundAt.uniq {P : PP} {has : List (List Int)} {EL : List (Int × Int)} {k m : Nat} {S T : List (List Int)} (h : RoundAt P has EL k m S) (g : RoundAt P has EL k m T) : S = T := by
  refine List.ext_getElem? fun n => ?_
  by_cases hn : n < has.length
  · have hs : n < S.length := by rw [h.len]; exact hn
    have ht : n < T.length := by rw [g.len]; exact hn
    have e : S.getD n [] = T.getD n [] := srt_uniq (chkE_zero.1 (h.ok _ (getD_mem hs))).2 (chkE_zero.1 (g.ok _ (getD_mem ht))).2 fun x => (h.mem n x hn).trans (g.mem n x hn).symm
    rw [List.getD_eq_getElem?_getD, List.getD_eq_getElem?_getD, List.getElem?_eq_getElem hs, List.getElem?_eq_getElem ht] at e
    rw [List.getElem?_eq_getElem hs, List.getElem?_eq_getElem ht]
    exact congrArg some e
  · rw [List.getElem?_eq_none (by rw [h.len]; omega), List.getElem?_eq_none (by rw [g.len]; omega)]
theorem set_getD {S : List (List Int)} {a n : Nat} {l : List Int} (ha : a < S.length) : (S.set a l).getD n [] = if a = n then l else S.getD n [] := by
  rw [List.getD_eq_getElem?_getD, List.getElem?_set]
  by_cases h : a = n
  · subst h; rw [if_pos rfl, if_pos ha, if_pos rfl]; rfl
  · rw [if_neg h, if_neg h, List.getD_eq_getElem?_getD]
theorem set_ok {S : List (List Int)} {a : Nat} {l : List Int} (h : ∀ m ∈ S, chkE m = 0) (hl : chkE l = 0) : ∀ m ∈ S.set a l, chkE m = 0 := fun m hm => by
  rcases List.mem_or_eq_of_mem_set hm with h1 | h1
  · exact h m h1
  · rw [h1]; exact hl
theorem RoundAt.base {P : PP} {has : List (List Int)} {EL : List (Int × Int)} {k : Nat} {S : List (List Int)} (h : RoundAt P has EL k 0 S) (hb : (P.ruleV k (P.stAt k)).kind.toList = bBase.toList) {a : Nat} {b : Int} (ha : (P.ruleV k (P.stAt k)).a = (a : Int)) (hbb : (P.ruleV k (P.stAt k)).b = b) (hb1 : 0 ≤ b ∧ b < 1000) (hal : a < has.length) :
    RoundAt P has EL (k + 1) 0 (S.set a (sset (S.getD a [] ++ [b]))) := by
  have has' : a < S.length := by rw [h.len]; exact hal
  have hin : InR (S.getD a [] ++ [b]) := (chkE_zero.1 (h.ok _ (getD_mem has'))).1.app fun x hx => by obtain rfl := List.mem_singleton.1 hx; exact hb1
  refine ⟨by rw [List.length_set]; exact h.len, set_ok h.ok (chkE_sset _), fun n x hn => ?_⟩
  rw [set_getD has']
  by_cases han : a = n
  · subst han
    rw [if_pos rfl, mem_sset hin, List.mem_append, h.mem a x hn, List.mem_singleton]
    constructor
    · rintro ((h1 | ⟨j, hj, h1⟩ | ⟨i, e, hi, _⟩) | rfl)
      · exact .inl h1
      · exact .inr (.inl ⟨j, by omega, h1⟩)
      · omega
      · exact .inr (.inl ⟨k, by omega, hb, ha, hbb⟩)
    · rintro (h1 | ⟨j, hj, h1⟩ | ⟨i, e, hi, _⟩)
      · exact .inl (.inl h1)
      · by_cases hjk : j = k
        · subst hjk
          exact .inr (h1.2.2.symm.trans hbb)
        · exact .inl (.inr (.inl ⟨j, by omega, h1⟩))
      · omega
  · rw [if_neg han, h.mem n x hn]
    refine or_congr Iff.rfl (or_congr ⟨fun ⟨j, hj, h1⟩ => ⟨j, by omega, h1⟩, fun ⟨j, hj, h1⟩ => ⟨j, ?_, h1⟩⟩ Iff.rfl)
    by_cases hjk : j = k
    · subst hjk
      have := h1.2.1
      omega
    · omega
theorem RoundAt.skip {P : PP} {has : List (List Int)} {EL : List (Int × Int)} {k : Nat} {S : List (List Int)} (h : RoundAt P has EL k 0 S) (hb : (P.ruleV k (P.stAt k)).kind.toList ≠ bBase.toList) : RoundAt P has EL (k + 1) 0 S :=
  ⟨h.len, h.ok, fun n x hn => (h.mem n x hn).trans (or_congr Iff.rfl (or_congr ⟨fun ⟨j, hj, h1⟩ => ⟨j, by omega, h1⟩, fun ⟨j, hj, h1⟩ => ⟨j, by
    by_cases hjk : j = k
    · subst hjk; exact absurd h1.1 hb
    · omega, h1⟩⟩ Iff.rfl))⟩
theorem RoundAt.edge {P : PP} {has : List (List Int)} {EL : List (Int × Int)} {k m : Nat} {S : List (List Int)} (h : RoundAt P has EL k m S) {a b : Nat} (he : EL[m]? = some ((a : Int), (b : Int))) (hok : ∀ l ∈ has, chkE l = 0) (hal : a < has.length) (hbl : b < has.length) :
    RoundAt P has EL k (m + 1) (S.set b (sset (S.getD b [] ++ has.getD a []))) := by
  have hbs : b < S.length := by rw [h.len]; exact hbl
  have hin : InR (S.getD b [] ++ has.getD a []) := (chkE_zero.1 (h.ok _ (getD_mem hbs))).1.app (chkE_zero.1 (hok _ (getD_mem hal))).1
  refine ⟨by rw [List.length_set]; exact h.len, set_ok h.ok (chkE_sset _), fun n x hn => ?_⟩
  rw [set_getD hbs]
  by_cases hbn : b = n
  · subst hbn
    rw [if_pos rfl, mem_sset hin, List.mem_append, h.mem b x hn]
    constructor
    · rintro ((h1 | h1 | ⟨i, e, hi, h1⟩) | h1)
      · exact .inl h1
      · exact .inr (.inl h1)
      · exact .inr (.inr ⟨i, e, by omega, h1⟩)
      · exact .inr (.inr ⟨m, _, by omega, he, rfl, h1⟩)
    · rintro (h1 | h1 | ⟨i, e, hi, h1, h2, h3⟩)
      · exact .inl (.inl h1)
      · exact .inl (.inr (.inl h1))
      · by_cases him : i = m
        · subst him
          obtain rfl := Option.some.inj (he.symm.trans h1)
          exact .inr h3
        · exact .inl (.inr (.inr ⟨i, e, by omega, h1, h2, h3⟩))
  · rw [if_neg hbn, h.mem n x hn]
    refine or_congr Iff.rfl (or_congr Iff.rfl ⟨fun ⟨i, e, hi, h1⟩ => ⟨i, e, by omega, h1⟩, fun ⟨i, e, hi, h1, h2, h3⟩ => ⟨i, e, ?_, h1, h2, h3⟩⟩)
    by_cases him : i = m
    · subst him
      obtain rfl := Option.some.inj (he.symm.trans h1)
      exact absurd (Int.ofNat_inj.1 h2) hbn
    · omega
def PP.basesOf (P : PP) (n : Nat) : List Int := (P.rulesV.filter fun r => decide (r.kind.toList = bBase.toList) && decide (r.a = (n : Int))).map RV.b
def PP.comesTo (P : PP) (has : List (List Int)) (n : Nat) : List Int := ((P.edgesL has).filter fun e => decide (e.2 = (n : Int))).flatMap fun e => has.getD e.1.toNat []
def PP.roundV (P : PP) (has : List (List Int)) : List (List Int) := (List.range has.length).map fun n => sset (has.getD n [] ++ (P.basesOf n ++ P.comesTo has n))
theorem mem_rulesV {P : PP} {r : RV} : r ∈ P.rulesV ↔ ∃ j, j < P.stmts.length ∧ r = P.ruleV j (P.stAt j) := by
  unfold PP.rulesV PP.rulesUp
  rw [List.mem_map]
  exact ⟨fun ⟨j, hj, e⟩ => ⟨j, List.mem_range.1 hj, e.symm⟩, fun ⟨j, hj, e⟩ => ⟨j, List.mem_range.2 hj, e.symm⟩⟩
theorem placeV_in {P : PP} {k : Nat} (hk : k < P.stmts.length) (hn : P.isNew k = true) : 0 ≤ P.placeV (k : Int) ∧ P.placeV (k : Int) < (P.nodesV : Int) := by
  have h1 : P.newsN (k + 1) = P.newsN k + 1 := by rw [PP.newsN_succ, hn]; rfl
  have h2 : ∀ d, P.newsN (k + 1) ≤ P.newsN (k + 1 + d) := fun d => by
    induction d with
    | zero => exact Nat.le_refl _
    | succ d ih =>
      have h5 := P.newsN_succ (k + 1 + d)
      rw [show k + 1 + (d + 1) = (k + 1 + d) + 1 from rfl]
      split at h5 <;> omega
  have h3 := h2 (P.stmts.length - (k + 1))
  rw [show k + 1 + (P.stmts.length - (k + 1)) = P.stmts.length by omega] at h3
  unfold PP.placeV PP.nodesV
  rw [if_pos ⟨by omega, by omega, by rw [Int.toNat_natCast]; exact hn⟩, Int.toNat_natCast]
  omega
theorem base_b_in {P : PP} (hw : P.Well) {k : Nat} (hk : k < P.stmts.length) (hb : (P.ruleV k (P.stAt k)).kind.toList = bBase.toList) : 0 ≤ (P.ruleV k (P.stAt k)).b ∧ (P.ruleV k (P.stAt k)).b < (P.objectsV : Int) := by
  have h0 := hw.2 k (P.stAt k) hk (stAt_some hk)
  have hg := PP.good h0
  have hnv := nodes_vars P
  have hob : P.objectsV = P.nodesV + P.funs.length := rfl
  have hnew : (P.stAt k).isK kNew = true → P.isNew k = true := fun h => by unfold PP.isNew; rw [stAt_some hk]; exact h
  obtain ⟨x, hx⟩ : ∃ x, x = P.stAt k := ⟨_, rfl⟩
  rw [← hx] at h0 hg hb hnew ⊢
  have hbl := eq_of_beq bBase_list
  rcases kind_cases h0 with g | g | g | g | g | g | g
  · have e : P.ruleV k x = ⟨bBase, x.x, x.y, k, []⟩ := by unfold PP.ruleV; rw [g]; rfl
    have hy := hg.yv (isK_ne g (k' := kFun) rfl) (isK_ne g (k' := kNew) rfl)
    rw [e]
    exact ⟨hy.1, by show x.y < _; omega⟩
  · have e : P.ruleV k x = ⟨x.kind, x.y, x.x, k, []⟩ := by unfold PP.ruleV; rw [isK_ne g (k' := kAddr) rfl, isK_ne g (k' := kNew) rfl, isK_ne g (k' := kFun) rfl, isK_ne g (k' := kCall) rfl]; rfl
    rw [e, hbl] at hb
    have hk' : x.kind.toList = kCopy := eq_of_beq g
    rw [show x.kind.toList = [98, 97, 115, 101] from hb] at hk'
    exact absurd hk' (by decide)
  · have e : P.ruleV k x = ⟨x.kind, x.y, x.x, k, []⟩ := by unfold PP.ruleV; rw [isK_ne g (k' := kAddr) rfl, isK_ne g (k' := kNew) rfl, isK_ne g (k' := kFun) rfl, isK_ne g (k' := kCall) rfl]; rfl
    rw [e, hbl] at hb
    have hk' : x.kind.toList = kLoad := eq_of_beq g
    rw [show x.kind.toList = [98, 97, 115, 101] from hb] at hk'
    exact absurd hk' (by decide)
  · have e : P.ruleV k x = ⟨x.kind, x.y, x.x, k, []⟩ := by unfold PP.ruleV; rw [isK_ne g (k' := kAddr) rfl, isK_ne g (k' := kNew) rfl, isK_ne g (k' := kFun) rfl, isK_ne g (k' := kCall) rfl]; rfl
    rw [e, hbl] at hb
    have hk' : x.kind.toList = kStore := eq_of_beq g
    rw [show x.kind.toList = [98, 97, 115, 101] from hb] at hk'
    exact absurd hk' (by decide)
  · have e : P.ruleV k x = ⟨bBase, x.x, P.placeV k, k, []⟩ := by unfold PP.ruleV; rw [isK_ne g (k' := kAddr) rfl, g]; rfl
    have hp := placeV_in hk (hnew g)
    rw [e]
    exact ⟨hp.1, by show P.placeV k < _; omega⟩
  · have e : P.ruleV k x = ⟨bBase, x.x, (P.nodesV : Int) + x.y, k, []⟩ := by unfold PP.ruleV; rw [isK_ne g (k' := kAddr) rfl, isK_ne g (k' := kNew) rfl, g]; rfl
    have hy := hg.yf g
    rw [e]
    exact ⟨by show 0 ≤ (P.nodesV : Int) + x.y; omega, by show (P.nodesV : Int) + x.y < _; omega⟩
  · have e : P.ruleV k x = ⟨bCall, x.y, x.x, k, x.args⟩ := by unfold PP.ruleV; rw [isK_ne g (k' := kAddr) rfl, isK_ne g (k' := kNew) rfl, isK_ne g (k' := kFun) rfl, g]; rfl
    rw [e, hbl, show (RV.mk bCall x.y x.x k x.args).kind.toList = [99, 97, 108, 108] from eq_of_beq bCall_list] at hb
    exact absurd hb (by decide)
theorem mem_basesOf {P : PP} {n : Nat} {x : Int} : x ∈ P.basesOf n ↔ ∃ j, j < P.stmts.length ∧ P.baseAt j n x := by
  unfold PP.basesOf
  rw [List.mem_map]
  constructor
  · rintro ⟨r, hr, rfl⟩
    obtain ⟨h1, h2⟩ := List.mem_filter.1 hr
    obtain ⟨j, hj, rfl⟩ := mem_rulesV.1 h1
    rw [Bool.and_eq_true, decide_eq_true_iff, decide_eq_true_iff] at h2
    exact ⟨j, hj, h2.1, h2.2, rfl⟩
  · rintro ⟨j, hj, h1, h2, h3⟩
    exact ⟨_, List.mem_filter.2 ⟨mem_rulesV.2 ⟨j, hj, rfl⟩, by rw [Bool.and_eq_true, decide_eq_true_iff, decide_eq_true_iff]; exact ⟨h1, h2⟩⟩, h3⟩
theorem mem_comesTo {P : PP} {has : List (List Int)} {n : Nat} {x : Int} : x ∈ P.comesTo has n ↔ ∃ (i : Nat) (e : Int × Int), i < (P.edgesL has).length ∧ (P.edgesL has)[i]? = some e ∧ e.2 = (n : Int) ∧ x ∈ has.getD e.1.toNat [] := by
  unfold PP.comesTo
  rw [List.mem_flatMap]
  constructor
  · rintro ⟨e, he, hx⟩
    obtain ⟨h1, h2⟩ := List.mem_filter.1 he
    obtain ⟨i, hi⟩ := List.mem_iff_getElem?.1 h1
    have hil : i < (P.edgesL has).length := by
      rcases Nat.lt_or_ge i (P.edgesL has).length with h | h
      · exact h
      · rw [List.getElem?_eq_none h] at hi; cases hi
    exact ⟨i, e, hil, hi, of_decide_eq_true h2, hx⟩
  · rintro ⟨i, e, _, hi, h2, hx⟩
    exact ⟨e, List.mem_filter.2 ⟨List.mem_of_getElem? hi, decide_eq_true h2⟩, hx⟩
theorem getD_in {P : PP} {has : List (List Int)} (hs : SetsOk P has) (i : Nat) (x : Int) (hx : x ∈ has.getD i []) : 0 ≤ x ∧ x < (P.objectsV : Int) := by
  rw [List.getD_eq_getElem?_getD] at hx
  cases he : has[i]? with
  | none => rw [he] at hx; cases hx
  | some l =>
    rw [he] at hx
    have hm := List.mem_of_getElem? he
    exact ⟨(hs.inr l hm x hx).1, (hs.ok l hm).2 x hx⟩
theorem round_all_in {P : PP} {has : List (List Int)} (hg : P.GoodS has) (n : Nat) : ∀ x ∈ has.getD n [] ++ (P.basesOf n ++ P.comesTo has n), 0 ≤ x ∧ x < (P.objectsV : Int) := fun x hx => by
  rcases List.mem_append.1 hx with h | h
  · exact getD_in hg.ok n x h
  · rcases List.mem_append.1 h with h | h
    · obtain ⟨j, hj, h1, _, h3⟩ := mem_basesOf.1 h
      have := base_b_in hg.1 hj h1
      rw [h3] at this
      exact this
    · obtain ⟨_, e, _, _, _, h4⟩ := mem_comesTo.1 h
      exact getD_in hg.ok _ x h4
theorem round_in {P : PP} {has : List (List Int)} (hg : P.GoodS has) (n : Nat) : InR (has.getD n [] ++ (P.basesOf n ++ P.comesTo has n)) := fun x hx => by
  have h1 := round_all_in hg n x hx
  have h2 := objects_few hg.1
  omega
theorem roundV_getD {P : PP} {has : List (List Int)} {n : Nat} (hn : n < has.length) : (P.roundV has).getD n [] = sset (has.getD n [] ++ (P.basesOf n ++ P.comesTo has n)) := by
  unfold PP.roundV
  rw [List.getD_eq_getElem?_getD, List.getElem?_map, List.getElem?_range hn, Option.map_some, Option.getD_some]
theorem roundV_len (P : PP) (has : List (List Int)) : (P.roundV has).length = has.length := by unfold PP.roundV; rw [List.length_map, List.length_range]
theorem mem_roundV {P : PP} {has : List (List Int)} (hg : P.GoodS has) {n : Nat} (hn : n < has.length) {x : Int} : x ∈ (P.roundV has).getD n [] ↔ x ∈ has.getD n [] ∨ (∃ j, j < P.stmts.length ∧ P.baseAt j n x) ∨ ∃ (i : Nat) (e : Int × Int), i < (P.edgesL has).length ∧ (P.edgesL has)[i]? = some e ∧ e.2 = (n : Int) ∧ x ∈ has.getD e.1.toNat [] := by
  rw [roundV_getD hn, mem_sset (round_in hg n), List.mem_append, List.mem_append, mem_basesOf, mem_comesTo]
theorem roundV_at {P : PP} {has : List (List Int)} (hg : P.GoodS has) : RoundAt P has (P.edgesL has) P.stmts.length (P.edgesL has).length (P.roundV has) := by
  refine ⟨roundV_len P has, fun l hl => ?_, fun n x hn => mem_roundV hg hn⟩
  unfold PP.roundV at hl
  obtain ⟨n, _, e⟩ := List.mem_map.1 hl
  rw [← e]
  exact chkE_sset _
theorem roundV_good {P : PP} {has : List (List Int)} (hg : P.GoodS has) : P.GoodS (P.roundV has) := by
  refine ⟨hg.1, by rw [roundV_len]; exact hg.2.1, fun l hl => ?_⟩
  unfold PP.roundV at hl
  obtain ⟨n, _, e⟩ := List.mem_map.1 hl
  rw [← e]
  exact setE_of (chkE_sset _) fun x hx => (round_all_in hg n x (mem_sset0.1 hx).1).2
def PP.iterV (P : PP) : Nat → List (List Int)
  | 0 => List.replicate P.nodesV []
  | n + 1 => P.roundV (P.iterV n)
theorem iterV_good {P : PP} (hw : P.Well) : ∀ n, P.GoodS (P.iterV n)
  | 0 => ⟨hw, by simp [PP.iterV], fun l hl => by
    obtain rfl := List.eq_of_mem_replicate hl
    exact setE_of (by decide) fun x hx => by cases hx⟩
  | n + 1 => roundV_good (iterV_good hw n)
theorem roundV_sub {P : PP} {has : List (List Int)} (hg : P.GoodS has) : Sub has (P.roundV has) := fun i x hx => by
  by_cases hi : i < has.length
  · exact (mem_roundV hg hi).2 (.inl hx)
  · rw [List.getD_eq_getElem?_getD, List.getElem?_eq_none (by omega)] at hx
    cases hx
theorem closed_of_round {P : PP} {has : List (List Int)} (hg : P.GoodS has) (h : P.roundV has = has) : ClosedP P has := by
  refine ⟨fun k hk hb => ?_, fun e he hne n hn => ?_⟩
  · have ha := rule_a_in hg.1 hk
    have hnv := nodes_vars P
    have hl := hg.2.1
    have hm : (P.ruleV k (P.stAt k)).b ∈ (P.roundV has).getD (P.ruleV k (P.stAt k)).a.toNat [] := (mem_roundV hg (by omega)).2 (.inr (.inl ⟨k, hk, hb, by omega, rfl⟩))
    rwa [h] at hm
  · obtain ⟨h1, h2, h3, h4⟩ := edges0_in hg.1 hg.ok e he
    have hl := hg.2.1
    obtain ⟨i, hi⟩ := List.mem_iff_getElem?.1 (((edgesL_are hg).mem e).2 ⟨he, hne⟩)
    have hil : i < (P.edgesL has).length := by
      rcases Nat.lt_or_ge i (P.edgesL has).length with g | g
      · exact g
      · rw [List.getElem?_eq_none g] at hi; cases hi
    have hm : n ∈ (P.roundV has).getD e.2.toNat [] := (mem_roundV hg (by omega)).2 (.inr (.inr ⟨i, e, hil, hi, by omega, hn⟩))
    rwa [h] at hm
theorem round_within {P : PP} {has ans : List (List Int)} (hg : P.GoodS has) (ga : P.GoodS ans) (hc : ClosedP P ans) (hs : Sub has ans) : Sub (P.roundV has) ans := fun i x hx => by
  by_cases hi : i < has.length
  · rcases (mem_roundV hg hi).1 hx with h | ⟨j, hj, h1, h2, h3⟩ | ⟨q, e, _, he, h2, h3⟩
    · exact hs i x h
    · have := hc.base j hj h1
      rw [h2, h3, Int.toNat_natCast] at this
      exact this
    · have h0 := ((edgesL_are hg).mem e).1 (List.mem_of_getElem? he)
      have h5 := hc.edge e (edges0_mono hs e h0.1) h0.2 x (hs _ _ h3)
      rw [h2, Int.toNat_natCast] at h5
      exact h5
  · rw [List.getD_eq_getElem?_getD, List.getElem?_eq_none (by rw [roundV_len]; omega)] at hx
    cases hx
theorem iter_within {P : PP} {ans : List (List Int)} (ga : P.GoodS ans) (hc : ClosedP P ans) : ∀ n, Sub (P.iterV n) ans
  | 0 => fun i x hx => by
    rw [List.getD_eq_getElem?_getD] at hx
    unfold PP.iterV at hx
    rw [List.getElem?_replicate] at hx
    split at hx <;> cases hx
  | n + 1 => round_within (iterV_good ga.1 n) ga hc (iter_within ga hc n)
def total (S : List (List Int)) : Nat := (S.map List.length).sum
theorem srt_len : ∀ {a b : List Int}, Srt a → Srt b → (∀ x, x ∈ a → x ∈ b) → a.length ≤ b.length ∧ (a.length = b.length → a = b)
  | [], b, _, _, _ => ⟨Nat.zero_le _, fun h => (List.eq_nil_of_length_eq_zero h.symm).symm⟩
  | x :: a, b, ha, hb, h => by
    obtain ⟨s, t, rfl⟩ := List.append_of_mem (h x List.mem_cons_self)
    have hb' := List.pairwise_append.1 hb
    have hbt := List.pairwise_cons.1 hb'.2.1
    have ih := srt_len ha.tail hbt.2 fun e he => by
      have hlt := ha.head e he
      rcases List.mem_append.1 (h e (List.mem_cons_of_mem _ he)) with g | g
      · have := hb'.2.2 e g x List.mem_cons_self
        omega
      · rcases List.mem_cons.1 g with g | g
        · omega
        · exact g
    rw [List.length_append, List.length_cons, List.length_cons]
    refine ⟨by omega, fun hl => ?_⟩
    have hs : s = [] := List.eq_nil_of_length_eq_zero (by omega)
    subst hs
    rw [List.nil_append, ih.2 (by simp at hl; omega)]
theorem total_sub : ∀ {S T : List (List Int)}, S.length = T.length → (∀ l ∈ S, Srt l) → (∀ l ∈ T, Srt l) → (∀ i x, x ∈ S.getD i [] → x ∈ T.getD i []) → total S ≤ total T ∧ (total S = total T → S = T)
  | [], [], _, _, _, _ => ⟨Nat.le_refl _, fun _ => rfl⟩
  | [], _ :: _, h, _, _, _ => by simp at h
  | _ :: _, [], h, _, _, _ => by simp at h
  | a :: S, b :: T, h, hs, ht, hm => by
    have h1 := srt_len (hs a List.mem_cons_self) (ht b List.mem_cons_self) fun x hx => by simpa using hm 0 x (by simpa using hx)
    have h2 := total_sub (S := S) (T := T) (by simpa using h) (fun l hl => hs l (List.mem_cons_of_mem _ hl)) (fun l hl => ht l (List.mem_cons_of_mem _ hl)) fun i x hx => by simpa using hm (i + 1) x (by simpa using hx)
    have e1 : total (a :: S) = a.length + total S := by unfold total; simp
    have e2 : total (b :: T) = b.length + total T := by unfold total; simp
    rw [e1, e2]
    refine ⟨by omega, fun he => ?_⟩
    rw [h1.2 (by omega), h2.2 (by omega)]
theorem total_few : ∀ {S : List (List Int)}, (∀ l ∈ S, l.length ≤ 1000) → total S ≤ S.length * 1000
  | [], _ => Nat.le_refl _
  | a :: S, h => by
    have h1 := h a List.mem_cons_self
    have h2 := total_few (S := S) fun l hl => h l (List.mem_cons_of_mem _ hl)
    have e1 : total (a :: S) = a.length + total S := by unfold total; simp
    rw [e1, List.length_cons]
    omega
theorem good_srt {P : PP} {has : List (List Int)} (hg : P.GoodS has) : ∀ l ∈ has, Srt l := fun l hl => (chkE_zero.1 (hg.ok.ok l hl).1).2
theorem iter_grows {P : PP} (hw : P.Well) (n : Nat) (h : P.iterV (n + 1) ≠ P.iterV n) : total (P.iterV n) + 1 ≤ total (P.iterV (n + 1)) := by
  have hg := iterV_good hw n
  have hg' := iterV_good hw (n + 1)
  have h1 := total_sub (S := P.iterV n) (T := P.iterV (n + 1)) (roundV_len P _).symm (good_srt hg) (good_srt hg') (roundV_sub hg)
  rcases Nat.lt_or_ge (total (P.iterV n)) (total (P.iterV (n + 1))) with g | g
  · exact g
  · exact absurd (h1.2 (by omega)).symm h
theorem iter_few {P : PP} (hw : P.Well) (n : Nat) : total (P.iterV n) ≤ 120000 := by
  have hg := iterV_good hw n
  have h1 := total_few (S := P.iterV n) fun l hl => srt_few (hg.ok.ok l hl).1
  have h2 := hg.2.1
  have h3 := nodesV_le P hw
  omega
structure LeastAt (P : PP) (n : Nat) (S : List (List Int)) : Prop where
  eq : S = P.iterV n
  fix : P.roundV S = S
  first : ∀ m, m < n → P.roundV (P.iterV m) ≠ P.iterV m
theorem LeastAt.uniq {P : PP} {n m : Nat} {S T : List (List Int)} (h : LeastAt P n S) (g : LeastAt P m T) : n = m ∧ S = T := by
  have hnm : n = m := by
    rcases Nat.lt_trichotomy n m with k | k | k
    · exact absurd (by rw [← h.eq]; exact h.fix) (g.first n k)
    · exact k
    · exact absurd (by rw [← g.eq]; exact g.fix) (h.first m k)
  subst hnm
  exact ⟨rfl, h.eq.trans g.eq.symm⟩
theorem LeastAt.good {P : PP} (hw : P.Well) {n : Nat} {S : List (List Int)} (h : LeastAt P n S) : P.GoodS S := by rw [h.eq]; exact iterV_good hw n
theorem LeastAt.closed {P : PP} (hw : P.Well) {n : Nat} {S : List (List Int)} (h : LeastAt P n S) : ClosedP P S := closed_of_round (h.good hw) h.fix
theorem LeastAt.within {P : PP} {n : Nat} {S ans : List (List Int)} (h : LeastAt P n S) (ga : P.GoodS ans) (hc : ClosedP P ans) : Sub S ans := by rw [h.eq]; exact iter_within ga hc n
structure SV where
  has : List (List Bool)
  edges : List (Int × Int)
  rules : List RV
  wait : List (Int × Int)
def SV.bit (s : SV) (f : Int × Int) : Bool := (s.has.getD f.1.toNat []).getD f.2.toNat false
def SV.objs (s : SV) (n : Int) : List Int := ((List.range (s.has.getD n.toNat []).length).filter fun o => (s.has.getD n.toNat []).getD o false).map fun o : Nat => (o : Int)
def SV.succ (s : SV) (n : Int) : List Int := (s.edges.filter fun e => decide (e.1 = n)).map (·.2)
def SV.edge (s : SV) (e : Int × Int) : SV := if e.1 = e.2 ∨ e ∈ s.edges then s else { s with edges := s.edges ++ [e], wait := s.wait ++ (s.objs e.1).map fun o => (e.2, o) }
def PP.fires (P : PP) (r : RV) (o : Int) : List (Int × Int) :=
  bif r.kind.toList == kCall then P.callsOf r o else
  if (P.nodesV : Int) ≤ o then [] else bif r.kind.toList == kLoad then [(o, r.b)] else [(r.a, o)]
def RV.pivot (r : RV) : Int := bif r.kind.toList == kStore then r.b else r.a
def RV.fired (r : RV) : Bool := (r.kind.toList == kLoad) || (r.kind.toList == kStore) || (r.kind.toList == kCall)
def SV.fire (P : PP) (s : SV) (r : RV) (o : Int) : SV := (P.fires r o).foldl SV.edge s
def SV.add (P : PP) (s : SV) (r : RV) : SV :=
  bif r.kind.toList == bBase.toList then { s with rules := s.rules ++ [r], wait := s.wait ++ [(r.a, r.b)] } else
  bif r.kind.toList == kCopy then SV.edge { s with rules := s.rules ++ [r] } (r.a, r.b) else
  (s.objs r.pivot).foldl (fun s o => s.fire P r o) { s with rules := s.rules ++ [r] }
def SV.mark (s : SV) (f : Int × Int) : SV := { s with has := s.has.set f.1.toNat ((s.has.getD f.1.toNat []).set f.2.toNat true) }
def SV.came (P : PP) (s : SV) (f : Int × Int) : SV :=
  s.rules.foldl (fun s r => bif r.fired && decide (r.pivot = f.1) then s.fire P r f.2 else s) { s with wait := s.wait ++ (s.succ f.1).map fun t => (t, f.2) }
def SV.clean (s : SV) : SV := { s with wait := s.wait.dropWhile s.bit }
structure Core (P : PP) (S : List (List Int)) (s : SV) : Prop where
  len : s.has.length = P.nodesV
  row : ∀ l ∈ s.has, l.length = P.objectsV
  wait : ∀ f ∈ s.wait, (0 ≤ f.1 ∧ f.1 < P.nodesV) ∧ f.2 ∈ S.getD f.1.toNat []
  bit : ∀ f : Int × Int, s.bit f = true → 0 ≤ f.2 → f.2 ∈ S.getD f.1.toNat []
  edge : ∀ e ∈ s.edges, (0 ≤ e.1 ∧ e.1 < P.nodesV) ∧ (0 ≤ e.2 ∧ e.2 < P.nodesV) ∧ ∀ o ∈ S.getD e.1.toNat [], o ∈ S.getD e.2.toNat []
  along : ∀ e ∈ s.edges, ∀ o, 0 ≤ o → s.bit (e.1, o) = true → s.bit (e.2, o) = true ∨ (e.2, o) ∈ s.wait
  base : ∀ r ∈ s.rules, r.kind.toList = bBase.toList → s.bit (r.a, r.b) = true ∨ (r.a, r.b) ∈ s.wait
  copy : ∀ r ∈ s.rules, r.kind.toList = kCopy → r.a = r.b ∨ (r.a, r.b) ∈ s.edges
def SV.told (P : PP) (s : SV) (r : RV) (o : Int) : Prop := ∀ e ∈ P.fires r o, e.1 = e.2 ∨ e ∈ s.edges
def SndE (P : PP) (S : List (List Int)) (e : Int × Int) : Prop := (0 ≤ e.1 ∧ e.1 < P.nodesV) ∧ (0 ≤ e.2 ∧ e.2 < P.nodesV) ∧ ∀ o ∈ S.getD e.1.toNat [], o ∈ S.getD e.2.toNat []
theorem mem_objs {s : SV} {n o : Int} : o ∈ s.objs n ↔ 0 ≤ o ∧ s.bit (n, o) = true := by
  unfold SV.objs SV.bit
  rw [List.mem_map]
  constructor
  · rintro ⟨k, hk, rfl⟩
    obtain ⟨h1, h2⟩ := List.mem_filter.1 hk
    exact ⟨by omega, by simpa using h2⟩
  · rintro ⟨h0, h⟩
    obtain ⟨k, rfl⟩ := Int.eq_ofNat_of_zero_le h0
    refine ⟨k, List.mem_filter.2 ⟨List.mem_range.2 ?_, by simpa using h⟩, rfl⟩
    rcases Nat.lt_or_ge k (s.has.getD n.toNat []).length with g | g
    · exact g
    · have : (s.has.getD n.toNat []).getD k false = false := by rw [List.getD_eq_getElem?_getD, List.getElem?_eq_none g]; rfl
      simp only [Int.toNat_natCast] at h
      rw [this] at h; cases h
theorem edge_has (s : SV) (e : Int × Int) : (s.edge e).has = s.has := by unfold SV.edge; split <;> rfl
theorem edge_rules (s : SV) (e : Int × Int) : (s.edge e).rules = s.rules := by unfold SV.edge; split <;> rfl
theorem edge_bit (s : SV) (e f : Int × Int) : (s.edge e).bit f = s.bit f := by unfold SV.bit; rw [edge_has]
theorem edge_more {s : SV} {e g : Int × Int} (h : g ∈ s.edges) : g ∈ (s.edge e).edges := by
  unfold SV.edge
  split
  · exact h
  · exact List.mem_append_left _ h
theorem edge_in (s : SV) (e : Int × Int) : e.1 = e.2 ∨ e ∈ (s.edge e).edges := by
  unfold SV.edge
  split
  · assumption
  · exact .inr (List.mem_append_right _ (List.mem_singleton.2 rfl))
theorem Core.edgeTo {P : PP} {S : List (List Int)} {s : SV} (h : Core P S s) {e : Int × Int} (he : SndE P S e) : Core P S (s.edge e) := by
  unfold SV.edge
  by_cases hc : e.1 = e.2 ∨ e ∈ s.edges
  · rw [if_pos hc]; exact h
  · rw [if_neg hc]
    refine ⟨h.len, h.row, fun f hf => ?_, h.bit, fun g hg => ?_, fun g hg o h0 hb => ?_, fun r hr hk => ?_, fun r hr hk => ?_⟩
    · rcases List.mem_append.1 hf with hf | hf
      · exact h.wait f hf
      · obtain ⟨o, ho, rfl⟩ := List.mem_map.1 hf
        obtain ⟨h0, hb⟩ := mem_objs.1 ho
        exact ⟨he.2.1, he.2.2 o (h.bit (e.1, o) hb h0)⟩
    · rcases List.mem_append.1 hg with hg | hg
      · exact h.edge g hg
      · obtain rfl := List.mem_singleton.1 hg
        exact he
    · have hb : s.bit (g.1, o) = true := hb
      show s.bit (g.2, o) = true ∨ (g.2, o) ∈ s.wait ++ _
      rcases List.mem_append.1 hg with hg | hg
      · exact (h.along g hg o h0 hb).imp id fun k => List.mem_append_left _ k
      · obtain rfl := List.mem_singleton.1 hg
        exact .inr (List.mem_append_right _ (List.mem_map.2 ⟨o, mem_objs.2 ⟨h0, hb⟩, rfl⟩))
    · exact (h.base r hr hk).imp id fun k => List.mem_append_left _ k
    · exact (h.copy r hr hk).imp id fun k => List.mem_append_left _ k
theorem edges_fold {P : PP} {S : List (List Int)} : ∀ (l : List (Int × Int)) {s : SV}, Core P S s → (∀ e ∈ l, SndE P S e) →
    Core P S (l.foldl SV.edge s) ∧ (l.foldl SV.edge s).has = s.has ∧ (l.foldl SV.edge s).rules = s.rules ∧ (∀ g ∈ s.edges, g ∈ (l.foldl SV.edge s).edges) ∧ ∀ e ∈ l, e.1 = e.2 ∨ e ∈ (l.foldl SV.edge s).edges
  | [], s, h, _ => ⟨h, rfl, rfl, fun _ hg => hg, fun _ he => by cases he⟩
  | e :: l, s, h, hs => by
    obtain ⟨k1, k2, k3, k4, k5⟩ := edges_fold l (h.edgeTo (hs e List.mem_cons_self)) fun g hg => hs g (List.mem_cons_of_mem _ hg)
    refine ⟨k1, k2.trans (edge_has s e), k3.trans (edge_rules s e), fun g hg => k4 g (edge_more hg), fun g hg => ?_⟩
    rcases List.mem_cons.1 hg with rfl | hg
    · exact (edge_in s g).imp id fun k => k4 _ k
    · exact k5 g hg
theorem fires_in {P : PP} {S : List (List Int)} {r : RV} {o : Int} (hf : r.fired = true) (ho : o ∈ S.getD r.pivot.toNat []) {e : Int × Int} (he : e ∈ P.fires r o) : e ∈ P.redges r S := by
  unfold PP.fires at he
  unfold RV.pivot at ho
  unfold RV.fired at hf
  unfold PP.redges
  cases h3 : (r.kind.toList == kCall) with
  | true =>
    have e1 := eq_of_beq h3
    have h0 : (r.kind.toList == kCopy) = false := by rw [e1]; decide
    have h1 : (r.kind.toList == kLoad) = false := by rw [e1]; decide
    have h2 : (r.kind.toList == kStore) = false := by rw [e1]; decide
    rw [h3, cond_true] at he
    rw [h2, cond_false] at ho
    rw [h0, h1, h2, cond_false, cond_false, cond_false, cond_true]
    exact List.mem_flatMap.2 ⟨o, ho, he⟩
  | false =>
    rw [h3, cond_false] at he
    have hn : o < P.nodesV := by
      by_cases g : (P.nodesV : Int) ≤ o
      · rw [if_pos g] at he; cases he
      · omega
    rw [if_neg (by omega)] at he
    have hno : o ∈ S.getD r.pivot.toNat [] := ho
    cases h1 : (r.kind.toList == kLoad) with
    | true =>
      have e1 := eq_of_beq h1
      have h0 : (r.kind.toList == kCopy) = false := by rw [e1]; decide
      have h2 : (r.kind.toList == kStore) = false := by rw [e1]; decide
      rw [h1, cond_true] at he
      rw [h2, cond_false] at ho
      rw [h0, cond_false, cond_true]
      refine List.mem_map.2 ⟨o, List.mem_filter.2 ⟨ho, by rw [decide_eq_false (by omega)]; rfl⟩, (List.mem_singleton.1 he).symm⟩
    | false =>
      rw [h1, h3] at hf
      cases h2 : (r.kind.toList == kStore) with
      | false => rw [h2] at hf; cases hf
      | true =>
        have e1 := eq_of_beq h2
        have h0 : (r.kind.toList == kCopy) = false := by rw [e1]; decide
        rw [h1, cond_false] at he
        rw [h2, cond_true] at ho
        rw [h0, cond_false, cond_false, cond_true]
        exact List.mem_map.2 ⟨o, List.mem_filter.2 ⟨ho, by rw [decide_eq_false (by omega)]; rfl⟩, (List.mem_singleton.1 he).symm⟩
theorem sndE_of {P : PP} {S : List (List Int)} (hg : P.GoodS S) (hc : ClosedP P S) {r : RV} (hr : r ∈ P.rulesV) {e : Int × Int} (he : e ∈ P.redges r S) : SndE P S e := by
  have h0 : e ∈ P.edges0 S := List.mem_flatMap.2 ⟨r, hr, he⟩
  obtain ⟨h1, h2, h3, h4⟩ := edges0_in hg.1 hg.ok e h0
  have hl := hg.2.1
  refine ⟨⟨by omega, by omega⟩, ⟨by omega, by omega⟩, ?_⟩
  by_cases k : e.1 = e.2
  · rw [k]; exact fun _ h => h
  · exact hc.edge e h0 k
structure Full (P : PP) (S : List (List Int)) (s : SV) : Prop where
  core : Core P S s
  of : ∀ r ∈ s.rules, r ∈ P.rulesV
  told : ∀ r ∈ s.rules, r.fired = true → ∀ o, 0 ≤ o → s.bit (r.pivot, o) = true → s.told P r o
theorem Core.fire {P : PP} {S : List (List Int)} {s : SV} (hg : P.GoodS S) (hc : ClosedP P S) (h : Core P S s) {r : RV} (hr : r ∈ P.rulesV) (hf : r.fired = true) {o : Int} (ho : o ∈ S.getD r.pivot.toNat []) :
    Core P S (s.fire P r o) ∧ (s.fire P r o).has = s.has ∧ (s.fire P r o).rules = s.rules ∧ (∀ g ∈ s.edges, g ∈ (s.fire P r o).edges) ∧ (s.fire P r o).told P r o :=
  edges_fold _ h fun _ he => sndE_of hg hc hr (fires_in hf ho he)
theorem told_more {P : PP} {s t : SV} (hm : ∀ g ∈ s.edges, g ∈ t.edges) {r : RV} {o : Int} (h : s.told P r o) : t.told P r o := fun e he => (h e he).imp id fun k => hm e k
theorem bit_has {s t : SV} (h : t.has = s.has) (f : Int × Int) : t.bit f = s.bit f := by unfold SV.bit; rw [h]
theorem objs_has {s t : SV} (h : t.has = s.has) (n : Int) : t.objs n = s.objs n := by unfold SV.objs; rw [h]
theorem fires_fold {P : PP} {S : List (List Int)} (hg : P.GoodS S) (hc : ClosedP P S) {f : Int × Int} (hf : f.2 ∈ S.getD f.1.toNat []) : ∀ (l : List RV) {s : SV}, Core P S s → (∀ r ∈ l, r ∈ P.rulesV) →
    let t := l.foldl (fun s r => bif r.fired && decide (r.pivot = f.1) then s.fire P r f.2 else s) s
    Core P S t ∧ t.has = s.has ∧ t.rules = s.rules ∧ (∀ g ∈ s.edges, g ∈ t.edges) ∧ ∀ r ∈ l, r.fired = true → r.pivot = f.1 → t.told P r f.2
  | [], s, h, _ => ⟨h, rfl, rfl, fun _ hg => hg, fun _ he => by cases he⟩
  | r :: l, s, h, hs => by
    have step : Core P S (bif r.fired && decide (r.pivot = f.1) then s.fire P r f.2 else s) ∧ (bif r.fired && decide (r.pivot = f.1) then s.fire P r f.2 else s).has = s.has ∧ (bif r.fired && decide (r.pivot = f.1) then s.fire P r f.2 else s).rules = s.rules ∧ (∀ g ∈ s.edges, g ∈ (bif r.fired && decide (r.pivot = f.1) then s.fire P r f.2 else s).edges) ∧ (r.fired = true → r.pivot = f.1 → (bif r.fired && decide (r.pivot = f.1) then s.fire P r f.2 else s).told P r f.2) := by
      cases h1 : (r.fired && decide (r.pivot = f.1)) with
      | false =>
        refine ⟨h, rfl, rfl, fun _ k => k, fun k1 k2 => ?_⟩
        rw [k1, decide_eq_true k2] at h1; cases h1
      | true =>
        rw [Bool.and_eq_true] at h1
        have hp := of_decide_eq_true h1.2
        obtain ⟨k1, k2, k3, k4, k5⟩ := h.fire hg hc (hs r List.mem_cons_self) h1.1 (o := f.2) (by rw [hp]; exact hf)
        exact ⟨k1, k2, k3, k4, fun _ _ => k5⟩
    obtain ⟨k1, k2, k3, k4, k5⟩ := step
    obtain ⟨j1, j2, j3, j4, j5⟩ := fires_fold hg hc hf l k1 fun g hg => hs g (List.mem_cons_of_mem _ hg)
    refine ⟨j1, j2.trans k2, j3.trans k3, fun g hg => j4 g (k4 g hg), fun q hq h1 h2 => ?_⟩
    rcases List.mem_cons.1 hq with rfl | hq
    · exact told_more j4 (k5 h1 h2)
    · exact j5 q hq h1 h2
theorem getD_set2 (l : List (List Bool)) (i n : Nat) (v : List Bool) (hn : n < l.length) : (l.set n v).getD i [] = if n = i then v else l.getD i [] := by
  rw [List.getD_eq_getElem?_getD, List.getElem?_set]
  by_cases h : n = i
  · subst h; rw [if_pos rfl, if_pos hn, if_pos rfl]; rfl
  · rw [if_neg h, if_neg h, List.getD_eq_getElem?_getD]
theorem mark_bit {s : SV} {f g : Int × Int} (hf : 0 ≤ f.1 ∧ f.1.toNat < s.has.length) (h2 : 0 ≤ f.2 ∧ f.2.toNat < (s.has.getD f.1.toNat []).length) (hg1 : 0 ≤ g.1) (hg2 : 0 ≤ g.2) : (s.mark f).bit g = true ↔ g = f ∨ s.bit g = true := by
  unfold SV.bit SV.mark
  rw [getD_set2 _ _ _ _ hf.2]
  by_cases h1 : f.1.toNat = g.1.toNat
  · have e1 : f.1 = g.1 := by omega
    rw [if_pos h1, List.getD_eq_getElem?_getD, List.getElem?_set]
    by_cases h3 : f.2.toNat = g.2.toNat
    · have e2 : f.2 = g.2 := by omega
      rw [if_pos h3, if_pos h2.2]
      exact ⟨fun _ => .inl (Prod.ext e1.symm e2.symm), fun _ => rfl⟩
    · rw [if_neg h3, h1]
      refine ⟨fun h => .inr (by rw [List.getD_eq_getElem?_getD]; exact h), fun h => ?_⟩
      rcases h with rfl | h
      · exact absurd rfl h3
      · rw [List.getD_eq_getElem?_getD] at h; exact h
  · rw [if_neg h1]
    refine ⟨.inr, fun h => ?_⟩
    rcases h with rfl | h
    · exact absurd rfl h1
    · exact h
theorem pivot_in {P : PP} (hw : P.Well) {k : Nat} (hk : k < P.stmts.length) (hf : (P.ruleV k (P.stAt k)).fired = true) : 0 ≤ (P.ruleV k (P.stAt k)).pivot := by
  have hgd := PP.good (hw.2 k (P.stAt k) hk (stAt_some hk))
  have ha := rule_a_in hw hk
  unfold RV.pivot
  cases h : ((P.ruleV k (P.stAt k)).kind.toList == kStore) with
  | false => exact ha.1
  | true =>
    rw [cond_true]
    have hb := eq_of_beq bBase_list
    have hk1 := eq_of_beq h
    unfold PP.ruleV at hk1 ⊢
    cases h1 : (P.stAt k).isK kAddr with
    | true => rw [h1, cond_true] at hk1; rw [show (bBase.toList = kStore) = False from by rw [hb]; exact eq_false (by decide)] at hk1; exact hk1.elim
    | false =>
    cases h2 : (P.stAt k).isK kNew with
    | true => rw [h1, h2, cond_false, cond_true] at hk1; rw [show (bBase.toList = kStore) = False from by rw [hb]; exact eq_false (by decide)] at hk1; exact hk1.elim
    | false =>
    cases h3 : (P.stAt k).isK kFun with
    | true => rw [h1, h2, h3, cond_false, cond_false, cond_true] at hk1; rw [show (bBase.toList = kStore) = False from by rw [hb]; exact eq_false (by decide)] at hk1; exact hk1.elim
    | false =>
    cases h4 : (P.stAt k).isK kCall with
    | true => exact hgd.gx.1
    | false => exact hgd.gx.1
theorem Full.marked {P : PP} {S : List (List Int)} {s : SV} (hg : P.GoodS S) (h : Full P S s) {f : Int × Int} (hf : (0 ≤ f.1 ∧ f.1 < P.nodesV) ∧ f.2 ∈ S.getD f.1.toNat []) (h2 : 0 ≤ f.2 ∧ f.2 < P.objectsV) :
    Core P S ({ s.mark f with wait := (s.mark f).wait ++ ((s.mark f).succ f.1).map fun t => (t, f.2) } : SV) := by
  have hl1 : f.1.toNat < s.has.length := by rw [h.core.len]; omega
  have hrow : (s.has.getD f.1.toNat []).length = P.objectsV := by
    rw [List.getD_eq_getElem?_getD, List.getElem?_eq_getElem hl1]
    exact h.core.row _ (List.getElem_mem hl1)
  have hmb := fun (g : Int × Int) (g1 : 0 ≤ g.1) (g2 : 0 ≤ g.2) => mark_bit (s := s) (f := f) (g := g) ⟨hf.1.1, hl1⟩ ⟨h2.1, by rw [hrow]; omega⟩ g1 g2
  obtain ⟨t, ht⟩ : ∃ t, t = ({ s.mark f with wait := (s.mark f).wait ++ ((s.mark f).succ f.1).map fun t => (t, f.2) } : SV) := ⟨_, rfl⟩
  have hth : t.has = (s.mark f).has := by rw [ht]
  have hte : t.edges = s.edges := by rw [ht]; rfl
  have htr : t.rules = s.rules := by rw [ht]; rfl
  have htw : t.wait = s.wait ++ (s.succ f.1).map fun t => (t, f.2) := by rw [ht]; rfl
  have htb : ∀ g : Int × Int, t.bit g = (s.mark f).bit g := bit_has hth
  rw [← ht]
  refine ⟨?_, fun l hl => ?_, fun g hw => ?_, fun g hb g0 => ?_, fun e he => ?_, fun e he o h0 hb => ?_, fun r hr hk => ?_, fun r hr hk => ?_⟩
  · rw [hth]; unfold SV.mark; rw [List.length_set]; exact h.core.len
  · rw [hth] at hl
    rcases List.mem_or_eq_of_mem_set hl with hl | rfl
    · exact h.core.row l hl
    · rw [List.length_set]; exact hrow
  · rw [htw] at hw
    rcases List.mem_append.1 hw with hw | hw
    · exact h.core.wait g hw
    · obtain ⟨q, hq, rfl⟩ := List.mem_map.1 hw
      unfold SV.succ at hq
      obtain ⟨e, he, rfl⟩ := List.mem_map.1 hq
      obtain ⟨he, h1⟩ := List.mem_filter.1 he
      have h1 := of_decide_eq_true h1
      obtain ⟨_, k2, k3⟩ := h.core.edge e he
      rw [h1] at k3
      exact ⟨k2, k3 f.2 hf.2⟩
  · rw [htb] at hb
    by_cases g1 : 0 ≤ g.1
    · rcases (hmb g g1 g0).1 hb with rfl | hb
      · exact hf.2
      · exact h.core.bit g hb g0
    · -- a negative node: its place is the first one's
      have e : g.1.toNat = (0 : Int).toNat := by omega
      have hb' : (s.mark f).bit (0, g.2) = true := by unfold SV.bit at hb ⊢; rw [e] at hb; exact hb
      rw [e]
      rcases (hmb (0, g.2) (Int.le_refl 0) g0).1 hb' with k | k
      · have := hf.2; rw [← k] at this; exact this
      · exact h.core.bit (0, g.2) k g0
  · rw [hte] at he; exact h.core.edge e he
  · rw [hte] at he
    obtain ⟨k1, k2, _⟩ := h.core.edge e he
    rw [htb] at hb ⊢
    rw [htw]
    rcases (hmb (e.1, o) k1.1 h0).1 hb with k | k
    · refine .inr (List.mem_append_right _ (List.mem_map.2 ⟨e.2, ?_, by rw [← k]⟩))
      unfold SV.succ
      refine List.mem_map.2 ⟨e, List.mem_filter.2 ⟨he, decide_eq_true ?_⟩, rfl⟩
      rw [← k]
    · rcases h.core.along e he o h0 k with k | k
      · exact .inl ((hmb (e.2, o) k2.1 h0).2 (.inr k))
      · exact .inr (List.mem_append_left _ k)
  · rw [htr] at hr
    rw [htb, htw]
    have hrv := h.of r hr
    rcases h.core.base r hr hk with k | k
    · refine .inl ?_
      obtain ⟨i, hi, rfl⟩ := List.mem_map.1 hrv
      have hi := List.mem_range.1 hi
      exact (hmb _ (rule_a_in hg.1 hi).1 (base_b_in hg.1 hi hk).1).2 (.inr k)
    · exact .inr (List.mem_append_left _ k)
  · rw [htr] at hr; rw [hte]; exact h.core.copy r hr hk
theorem Full.came {P : PP} {S : List (List Int)} {s : SV} (hg : P.GoodS S) (hc : ClosedP P S) (h : Full P S s) {f : Int × Int} (hf : (0 ≤ f.1 ∧ f.1 < P.nodesV) ∧ f.2 ∈ S.getD f.1.toNat []) (h2 : 0 ≤ f.2 ∧ f.2 < P.objectsV) :
    Full P S ((s.mark f).came P f) ∧ ((s.mark f).came P f).has = (s.mark f).has ∧ ((s.mark f).came P f).rules = s.rules := by
  have hl1 : f.1.toNat < s.has.length := by rw [h.core.len]; omega
  have hrow : (s.has.getD f.1.toNat []).length = P.objectsV := by
    rw [List.getD_eq_getElem?_getD, List.getElem?_eq_getElem hl1]
    exact h.core.row _ (List.getElem_mem hl1)
  have hmb := fun (g : Int × Int) (g1 : 0 ≤ g.1) (g2 : 0 ≤ g.2) => mark_bit (s := s) (f := f) (g := g) ⟨hf.1.1, hl1⟩ ⟨h2.1, by rw [hrow]; omega⟩ g1 g2
  obtain ⟨t, ht⟩ : ∃ t, t = ({ s.mark f with wait := (s.mark f).wait ++ ((s.mark f).succ f.1).map fun t => (t, f.2) } : SV) := ⟨_, rfl⟩
  have hth : t.has = (s.mark f).has := by rw [ht]
  have hte : t.edges = s.edges := by rw [ht]; rfl
  have htr : t.rules = s.rules := by rw [ht]; rfl
  have htw : t.wait = s.wait ++ (s.succ f.1).map fun t => (t, f.2) := by rw [ht]; rfl
  have htb : ∀ g : Int × Int, t.bit g = (s.mark f).bit g := bit_has hth
  have hcore : Core P S t := by rw [ht]; exact h.marked hg hf h2
  obtain ⟨k1, k2, k3, k4, k5⟩ := fires_fold hg hc hf.2 t.rules hcore fun r hr => by rw [htr] at hr; exact h.of r hr
  have hce : (s.mark f).came P f = t.rules.foldl (fun s r => bif r.fired && decide (r.pivot = f.1) then s.fire P r f.2 else s) t := by rw [ht]; rfl
  rw [hce]
  refine ⟨⟨k1, fun r hr => by rw [k3, htr] at hr; exact h.of r hr, fun r hr hfd o h0 hb => ?_⟩, k2.trans hth, k3.trans htr⟩
  rw [k3] at hr
  rw [bit_has k2, htb] at hb
  have hr' := hr
  rw [htr] at hr'
  have hp0 : 0 ≤ r.pivot := by
    obtain ⟨i, hi, rfl⟩ := List.mem_map.1 (h.of r hr')
    exact pivot_in hg.1 (List.mem_range.1 hi) hfd
  rcases (hmb (r.pivot, o) hp0 h0).1 hb with k | k
  · have e1 : r.pivot = f.1 := by rw [← k]
    have e2 : o = f.2 := by rw [← k]
    rw [e2]
    exact k5 r hr hfd e1
  · exact told_more (fun g hg => k4 g (by rw [hte]; exact hg)) (h.told r hr' hfd o h0 k)
theorem mem_dropWhile_or {α : Type} {p : α → Bool} : ∀ {l : List α} {x : α}, x ∈ l → x ∈ l.dropWhile p ∨ p x = true
  | y :: l, x, h => by
    cases hy : p y with
    | false => rw [List.dropWhile_cons, hy]; exact .inl h
    | true =>
      rw [List.dropWhile_cons, hy]
      rcases List.mem_cons.1 h with rfl | h
      · exact .inr hy
      · exact mem_dropWhile_or h
theorem mem_of_dropWhile {α : Type} {p : α → Bool} : ∀ {l : List α} {x : α}, x ∈ l.dropWhile p → x ∈ l
  | y :: l, x, h => by
    rw [List.dropWhile_cons] at h
    split at h
    · exact List.mem_cons_of_mem _ (mem_of_dropWhile h)
    · exact h
theorem dropWhile_head {α : Type} {p : α → Bool} : ∀ {l : List α} {x : α} {r : List α}, l.dropWhile p = x :: r → p x = false
  | y :: l, x, r, h => by
    rw [List.dropWhile_cons] at h
    split at h
    · exact dropWhile_head h
    · next hy =>
      obtain ⟨rfl, _⟩ := List.cons.inj h
      exact eq_false_of_ne_true hy
theorem Full.cleaned {P : PP} {S : List (List Int)} {s : SV} (h : Full P S s) : Full P S s.clean := by
  have k := h.core
  refine ⟨⟨k.len, k.row, fun f hf => k.wait f (mem_of_dropWhile hf), k.bit, k.edge, fun e he o h0 hb => ?_, fun r hr hk => ?_, k.copy⟩, h.of, h.told⟩
  · rcases k.along e he o h0 hb with g | g
    · exact .inl g
    · rcases mem_dropWhile_or (p := s.bit) g with g | g
      · exact .inr g
      · exact .inl g
  · rcases k.base r hr hk with g | g
    · exact .inl g
    · rcases mem_dropWhile_or (p := s.bit) g with g | g
      · exact .inr g
      · exact .inl g
theorem fires_objs {P : PP} {S : List (List Int)} (hg : P.GoodS S) (hc : ClosedP P S) {r : RV} (hr : r ∈ P.rulesV) (hf : r.fired = true) : ∀ (l : List Int) {s : SV}, Core P S s → (∀ o ∈ l, o ∈ S.getD r.pivot.toNat []) →
    let t := l.foldl (fun s o => s.fire P r o) s
    Core P S t ∧ t.has = s.has ∧ t.rules = s.rules ∧ (∀ g ∈ s.edges, g ∈ t.edges) ∧ ∀ o ∈ l, t.told P r o
  | [], s, h, _ => ⟨h, rfl, rfl, fun _ hg => hg, fun _ he => by cases he⟩
  | o :: l, s, h, hs => by
    obtain ⟨k1, k2, k3, k4, k5⟩ := h.fire hg hc hr hf (hs o List.mem_cons_self)
    obtain ⟨j1, j2, j3, j4, j5⟩ := fires_objs hg hc hr hf l k1 fun q hq => hs q (List.mem_cons_of_mem _ hq)
    refine ⟨j1, j2.trans k2, j3.trans k3, fun g hg => j4 g (k4 g hg), fun q hq => ?_⟩
    rcases List.mem_cons.1 hq with rfl | hq
    · exact told_more j4 k5
    · exact j5 q hq
theorem fired_kinds {r : RV} (h : r.fired = true) : r.kind.toList ≠ bBase.toList ∧ r.kind.toList ≠ kCopy := by
  have hb := eq_of_beq bBase_list
  rw [hb]
  unfold RV.fired at h
  rw [Bool.or_eq_true, Bool.or_eq_true] at h
  rcases h with (h | h) | h <;> rw [eq_of_beq h] <;> decide
theorem rule_kinds {P : PP} (hw : P.Well) {r : RV} (hr : r ∈ P.rulesV) : r.kind.toList = bBase.toList ∨ r.kind.toList = kCopy ∨ r.fired = true := by
  obtain ⟨k, hk, rfl⟩ := List.mem_map.1 hr
  have hk := List.mem_range.1 hk
  have h0 := hw.2 k (P.stAt k) hk (stAt_some hk)
  unfold PP.ruleV
  cases h1 : (P.stAt k).isK kAddr with
  | true => exact .inl rfl
  | false =>
  cases h2 : (P.stAt k).isK kNew with
  | true => exact .inl rfl
  | false =>
  cases h3 : (P.stAt k).isK kFun with
  | true => exact .inl rfl
  | false =>
  cases h4 : (P.stAt k).isK kCall with
  | true =>
    refine .inr (.inr ?_)
    show RV.fired ⟨bCall, _, _, _, _⟩ = true
    have hb : bCall.toList = kCall := by decide +kernel
    unfold RV.fired
    simp only [hb]
    decide
  | false =>
    show _ ∨ (P.stAt k).kind.toList = kCopy ∨ RV.fired ⟨(P.stAt k).kind, _, _, _, _⟩ = true
    rcases kind_cases h0 with h | h | h | h | h | h | h
    · rw [h1] at h; cases h
    · exact .inr (.inl (eq_of_beq h))
    · have h := eq_of_beq h
      exact .inr (.inr (by unfold RV.fired; simp only [h]; decide))
    · have h := eq_of_beq h
      exact .inr (.inr (by unfold RV.fired; simp only [h]; decide))
    · rw [h2] at h; cases h
    · rw [h3] at h; cases h
    · rw [h4] at h; cases h
theorem Full.added {P : PP} {S : List (List Int)} {s : SV} (hg : P.GoodS S) (hc : ClosedP P S) (h : Full P S s) {r : RV} (hr : r ∈ P.rulesV) : Full P S (s.add P r) ∧ (s.add P r).has = s.has ∧ (s.add P r).rules = s.rules ++ [r] := by
  have hcore0 : r.kind.toList ≠ bBase.toList → r.kind.toList ≠ kCopy → Core P S { s with rules := s.rules ++ [r] } := fun n1 n2 =>
    ⟨h.core.len, h.core.row, h.core.wait, h.core.bit, h.core.edge, h.core.along, fun q hq hk => by
      rcases List.mem_append.1 hq with hq | hq
      · exact h.core.base q hq hk
      · obtain rfl := List.mem_singleton.1 hq
        exact absurd hk n1, fun q hq hk => by
      rcases List.mem_append.1 hq with hq | hq
      · exact h.core.copy q hq hk
      · obtain rfl := List.mem_singleton.1 hq
        exact absurd hk n2⟩
  have hof : ∀ q ∈ s.rules ++ [r], q ∈ P.rulesV := fun q hq => by
    rcases List.mem_append.1 hq with hq | hq
    · exact h.of q hq
    · obtain rfl := List.mem_singleton.1 hq
      exact hr
  unfold SV.add
  cases h1 : (r.kind.toList == bBase.toList) with
  | true =>
    have hb := eq_of_beq h1
    obtain ⟨k, hk, hrk⟩ := List.mem_map.1 hr
    have hk := List.mem_range.1 hk
    have ha := rule_a_in hg.1 hk
    have hba := hc.base k hk (by rw [hrk]; exact hb)
    rw [hrk] at ha hba
    have hnv := nodes_vars P
    refine ⟨⟨⟨h.core.len, h.core.row, fun f hf => ?_, h.core.bit, h.core.edge, fun e he o h0 hbt => (h.core.along e he o h0 hbt).imp id fun g => List.mem_append_left _ g, fun q hq hqk => ?_, fun q hq hqk => ?_⟩, hof, fun q hq hqf o h0 hbt => ?_⟩, rfl, rfl⟩
    · rcases List.mem_append.1 hf with hf | hf
      · exact h.core.wait f hf
      · obtain rfl := List.mem_singleton.1 hf
        exact ⟨⟨ha.1, by omega⟩, hba⟩
    · rcases List.mem_append.1 hq with hq | hq
      · exact (h.core.base q hq hqk).imp id fun g => List.mem_append_left _ g
      · obtain rfl := List.mem_singleton.1 hq
        exact .inr (List.mem_append_right _ (List.mem_singleton.2 rfl))
    · rcases List.mem_append.1 hq with hq | hq
      · exact h.core.copy q hq hqk
      · obtain rfl := List.mem_singleton.1 hq
        rw [hb, eq_of_beq bBase_list] at hqk
        exact absurd hqk (by decide)
    · rcases List.mem_append.1 hq with hq | hq
      · exact h.told q hq hqf o h0 hbt
      · obtain rfl := List.mem_singleton.1 hq
        exact absurd hb (fired_kinds hqf).1
  | false =>
  have n1 : r.kind.toList ≠ bBase.toList := fun e => by rw [e] at h1; simp at h1
  cases h2 : (r.kind.toList == kCopy) with
  | true =>
    have hb := eq_of_beq h2
    have hsnd : SndE P S (r.a, r.b) := sndE_of hg hc hr (by unfold PP.redges; rw [h2, cond_true]; exact List.mem_singleton.2 rfl)
    obtain ⟨t, ht⟩ : ∃ t : SV, t = { s with rules := s.rules ++ [r] } := ⟨_, rfl⟩
    have hin := edge_in t (r.a, r.b)
    have hcore1 : Core P S ({ s with rules := s.rules }.edge (r.a, r.b)) := h.core.edgeTo hsnd
    have e1 : (t.edge (r.a, r.b)).edges = (s.edge (r.a, r.b)).edges := by rw [ht]; unfold SV.edge; split <;> rfl
    have e2 : (t.edge (r.a, r.b)).wait = (s.edge (r.a, r.b)).wait := by rw [ht]; unfold SV.edge; split <;> rfl
    have e3 : (t.edge (r.a, r.b)).has = s.has := by rw [edge_has, ht]
    have e4 : (t.edge (r.a, r.b)).rules = s.rules ++ [r] := by rw [edge_rules, ht]
    have e5 : ∀ f, (t.edge (r.a, r.b)).bit f = s.bit f := bit_has e3
    have k := h.core.edgeTo hsnd
    have hmore : ∀ g ∈ s.edges, g ∈ (t.edge (r.a, r.b)).edges := fun g hg => by rw [e1]; exact edge_more hg
    rw [cond_false, cond_true, ← ht]
    refine ⟨⟨⟨by rw [e3]; exact h.core.len, by rw [e3]; exact h.core.row, fun f hf => by rw [e2] at hf; exact k.wait f hf, fun f hf h0 => by rw [e5] at hf; exact h.core.bit f hf h0, fun e he => by rw [e1] at he; exact k.edge e he, fun e he o h0 hbt => ?_, fun q hq hqk => ?_, fun q hq hqk => ?_⟩, fun q hq => by rw [e4] at hq; exact hof q hq, fun q hq hqf o h0 hbt => ?_⟩, e3, e4⟩
    · rw [e1] at he
      rw [e5] at hbt ⊢
      rw [e2]
      have := k.along e he o h0 (by rw [edge_bit]; exact hbt)
      rwa [edge_bit] at this
    · rw [e4] at hq
      rw [e5, e2]
      rcases List.mem_append.1 hq with hq | hq
      · have := k.base q (by rw [edge_rules]; exact hq) hqk
        rwa [edge_bit] at this
      · obtain rfl := List.mem_singleton.1 hq
        exact absurd hqk n1
    · rw [e4] at hq
      rcases List.mem_append.1 hq with hq | hq
      · exact (h.core.copy q hq hqk).imp id fun g => hmore _ g
      · obtain rfl := List.mem_singleton.1 hq
        exact hin
    · rw [e4] at hq
      rw [e5] at hbt
      rcases List.mem_append.1 hq with hq | hq
      · exact told_more hmore (h.told q hq hqf o h0 hbt)
      · obtain rfl := List.mem_singleton.1 hq
        exact absurd hb (fired_kinds hqf).2
  | false =>
  have n2 : r.kind.toList ≠ kCopy := fun e => by rw [e] at h2; simp at h2
  have hf : r.fired = true := by
    rcases rule_kinds hg.1 hr with g | g | g
    · exact absurd g n1
    · exact absurd g n2
    · exact g
  obtain ⟨k1, k2, k3, k4, k5⟩ := fires_objs hg hc hr hf (s.objs r.pivot) (hcore0 n1 n2) fun o ho => by
    obtain ⟨h0, hb⟩ := mem_objs.1 ho
    exact h.core.bit (r.pivot, o) hb h0
  rw [cond_false, cond_false]
  refine ⟨⟨k1, fun q hq => by rw [k3] at hq; exact hof q hq, fun q hq hqf o h0 hbt => ?_⟩, k2, k3⟩
  rw [k3] at hq
  rw [bit_has k2] at hbt
  rcases List.mem_append.1 hq with hq | hq
  · exact told_more k4 (h.told q hq hqf o h0 hbt)
  · obtain rfl := List.mem_singleton.1 hq
    exact k5 o (mem_objs.2 ⟨h0, hbt⟩)
def SV.zero (P : PP) : SV := ⟨List.replicate P.nodesV (List.replicate P.objectsV false), [], [], []⟩
theorem zero_bit (P : PP) (f : Int × Int) : (SV.zero P).bit f = false := by
  unfold SV.bit SV.zero
  simp only [List.getD_eq_getElem?_getD, List.getElem?_replicate]
  split
  · simp only [Option.getD_some, List.getElem?_replicate]
    split <;> rfl
  · rfl
theorem Full.zero (P : PP) (S : List (List Int)) : Full P S (SV.zero P) := by
  refine ⟨⟨List.length_replicate, fun l hl => ?_, fun f hf => (by cases hf), fun f hb _ => ?_, fun e he => (by cases he), fun e he => (by cases he), fun r hr => (by cases hr), fun r hr => (by cases hr)⟩, fun r hr => (by cases hr), fun r hr => (by cases hr)⟩
  · obtain rfl := List.eq_of_mem_replicate hl
    exact List.length_replicate
  · rw [zero_bit] at hb; cases hb
theorem objs_srt (s : SV) (n : Int) : Srt (s.objs n) := by
  unfold SV.objs
  show List.Pairwise (· < ·) _
  rw [List.pairwise_map]
  exact List.Pairwise.imp (R := (· < ·)) (fun h => by omega) (List.Pairwise.sublist List.filter_sublist List.pairwise_lt_range)
theorem bit_few {P : PP} {S : List (List Int)} {s : SV} (h : Core P S s) {f : Int × Int} (h0 : 0 ≤ f.2) (hb : s.bit f = true) : f.2 < P.objectsV := by
  unfold SV.bit at hb
  rcases Nat.lt_or_ge f.1.toNat s.has.length with g | g
  · have hl : (s.has.getD f.1.toNat []).length = P.objectsV := by
      rw [List.getD_eq_getElem?_getD, List.getElem?_eq_getElem g]
      exact h.row _ (List.getElem_mem g)
    rcases Nat.lt_or_ge f.2.toNat P.objectsV with k | k
    · omega
    · rw [List.getD_eq_getElem?_getD (l := s.has.getD f.1.toNat []), List.getElem?_eq_none (by omega)] at hb; cases hb
  · rw [List.getD_eq_getElem?_getD (l := s.has), List.getElem?_eq_none g] at hb; cases hb
theorem redges_nil' {P : PP} {r : RV} {has : List (List Int)} (h : r.kind.toList = bBase.toList) : P.redges r has = [] := by
  have e := eq_of_beq bBase_list
  unfold PP.redges kCopy kLoad kStore kCall
  rw [h, e]; rfl
theorem redges_out {P : PP} {H : List (List Int)} {r : RV} (hf : r.fired = true) {e : Int × Int} (he : e ∈ P.redges r H) : ∃ o, o ∈ H.getD r.pivot.toNat [] ∧ e ∈ P.fires r o := by
  unfold PP.redges at he
  unfold PP.fires RV.pivot
  unfold RV.fired at hf
  cases h0 : (r.kind.toList == kCopy) with
  | true =>
    have e0 := eq_of_beq h0
    rw [e0] at hf
    exact absurd hf (by decide)
  | false =>
  rw [h0, cond_false] at he
  cases h1 : (r.kind.toList == kLoad) with
  | true =>
    have e1 := eq_of_beq h1
    have h2 : (r.kind.toList == kStore) = false := by rw [e1]; decide
    have h3 : (r.kind.toList == kCall) = false := by rw [e1]; decide
    rw [h1, cond_true] at he
    obtain ⟨o, ho, rfl⟩ := List.mem_map.1 he
    obtain ⟨k1, k2⟩ := List.mem_filter.1 ho
    have hn : ¬ (P.nodesV : Int) ≤ o := fun g => by rw [decide_eq_true g] at k2; cases k2
    rw [h2, h3, cond_false]
    refine ⟨o, k1, ?_⟩
    rw [cond_false, if_neg hn, cond_true]
    exact List.mem_singleton.2 rfl
  | false =>
  rw [h1, cond_false] at he
  cases h2 : (r.kind.toList == kStore) with
  | true =>
    have e1 := eq_of_beq h2
    have h3 : (r.kind.toList == kCall) = false := by rw [e1]; decide
    rw [h2, cond_true] at he
    obtain ⟨o, ho, rfl⟩ := List.mem_map.1 he
    obtain ⟨k1, k2⟩ := List.mem_filter.1 ho
    have hn : ¬ (P.nodesV : Int) ≤ o := fun g => by rw [decide_eq_true g] at k2; cases k2
    rw [h3, cond_true]
    refine ⟨o, k1, ?_⟩
    rw [cond_false, if_neg hn, cond_false]
    exact List.mem_singleton.2 rfl
  | false =>
  rw [h2, cond_false] at he
  cases h3 : (r.kind.toList == kCall) with
  | true =>
    rw [h3, cond_true] at he
    obtain ⟨o, ho, hc⟩ := List.mem_flatMap.1 he
    exact ⟨o, ho, hc⟩
  | false => rw [h3, cond_false] at he; cases he
def SV.sets (P : PP) (s : SV) : List (List Int) := (List.range P.nodesV).map fun n : Nat => s.objs (n : Int)
theorem sets_getD {P : PP} {s : SV} {n : Nat} (hn : n < P.nodesV) : (s.sets P).getD n [] = s.objs n := by
  unfold SV.sets
  rw [List.getD_eq_getElem?_getD, List.getElem?_map, List.getElem?_range hn]; rfl
theorem Core.sub {P : PP} {S : List (List Int)} {s : SV} (h : Core P S s) (n : Nat) : ∀ o ∈ s.objs n, o ∈ S.getD n [] := fun o ho => by
  obtain ⟨h0, hb⟩ := mem_objs.1 ho
  exact h.bit ((n : Int), o) hb h0
theorem Core.good {P : PP} {S : List (List Int)} {s : SV} (hw : P.Well) (h : Core P S s) : P.GoodS (s.sets P) := by
  have h126 := nodesV_le P hw
  have hf := hw.few
  refine ⟨hw, by unfold SV.sets; rw [List.length_map, List.length_range], fun l hl => ?_⟩
  obtain ⟨n, hn, rfl⟩ := List.mem_map.1 hl
  have hlt : ∀ x ∈ s.objs n, 0 ≤ x ∧ x < (P.objectsV : Int) := fun x hx => by
    obtain ⟨h0, hb⟩ := mem_objs.1 hx
    exact ⟨h0, bit_few h (f := ((n : Int), x)) h0 hb⟩
  refine setE_of (chkE_zero.2 ⟨fun x hx => ?_, objs_srt s n⟩) fun x hx => (hlt x hx).2
  have := hlt x hx
  unfold PP.objectsV at this
  omega
theorem Full.done {P : PP} {S : List (List Int)} {s : SV} {m : Nat} (hL : LeastAt P m S) (hw : P.Well) (h : Full P S s) (hr : ∀ r ∈ P.rulesV, r ∈ s.rules) (hwt : s.wait = []) {n : Nat} (hn : n < P.nodesV) : s.objs n = S.getD n [] := by
  have hg := hL.good hw
  have hgs := h.core.good hw
  have hcl : ClosedP P (s.sets P) := by
    refine ⟨fun k hk hb => ?_, fun e he hne q hq => ?_⟩
    · have hrk : P.ruleV k (P.stAt k) ∈ P.rulesV := List.mem_map.2 ⟨k, List.mem_range.2 hk, rfl⟩
      have ha := rule_a_in hw hk
      have hnv := nodes_vars P
      have hbi := base_b_in hw hk hb
      rcases h.core.base _ (hr _ hrk) hb with g | g
      · rw [sets_getD (by omega)]
        refine mem_objs.2 ⟨hbi.1, ?_⟩
        rw [show (((P.ruleV k (P.stAt k)).a.toNat : Nat) : Int) = (P.ruleV k (P.stAt k)).a by omega]
        exact g
      · rw [hwt] at g; cases g
    · obtain ⟨r, hrv, her⟩ := List.mem_flatMap.1 he
      obtain ⟨i1, i2, i3, i4⟩ := edges0_in hw hgs.ok e he
      have hin : e ∈ s.edges := by
        have hrs := hr r hrv
        cases hfd : r.fired with
        | false =>
          rcases rule_kinds hw hrv with g | g | g
          · rw [redges_nil' g] at her; cases her
          · have her2 : e = (r.a, r.b) := by
              unfold PP.redges at her
              rw [show (r.kind.toList == kCopy) = true from by rw [g]; decide, cond_true] at her
              exact List.mem_singleton.1 her
            rcases h.core.copy r hrs g with k | k
            · rw [her2] at hne; exact absurd k hne
            · rw [her2]; exact k
          · rw [hfd] at g; cases g
        | true =>
          obtain ⟨i, hi, hri⟩ := List.mem_map.1 hrv
          have hi := List.mem_range.1 hi
          have hp0 : 0 ≤ r.pivot := by rw [← hri]; exact pivot_in hw hi (by rw [hri]; exact hfd)
          obtain ⟨o, ho, hfo⟩ := redges_out hfd her
          have hpn : r.pivot.toNat < P.nodesV := by
            rcases Nat.lt_or_ge r.pivot.toNat P.nodesV with g | g
            · exact g
            · rw [List.getD_eq_getElem?_getD, List.getElem?_eq_none (by rw [hgs.2.1]; exact g)] at ho; cases ho
          rw [sets_getD hpn] at ho
          obtain ⟨o0, ob⟩ := mem_objs.1 ho
          rw [Int.toNat_of_nonneg hp0] at ob
          rcases h.told r hrs hfd o o0 ob e hfo with k | k
          · exact absurd k hne
          · exact k
      rw [sets_getD (by omega)] at hq ⊢
      obtain ⟨q0, qb⟩ := mem_objs.1 hq
      rw [Int.toNat_of_nonneg i1] at qb
      rcases h.core.along e hin q q0 qb with k | k
      · refine mem_objs.2 ⟨q0, ?_⟩
        rw [Int.toNat_of_nonneg i3]
        exact k
      · rw [hwt] at k; cases k
  have hsub := hL.within hgs hcl
  refine srt_uniq (objs_srt s n) ?_ fun o => ⟨h.core.sub n o, fun ho => ?_⟩
  · rw [List.getD_eq_getElem?_getD]
    cases hl : S[n]? with
    | none => exact List.Pairwise.nil
    | some l => exact (chkE_zero.1 (hg.ok.ok l (List.mem_of_getElem? hl)).1).2
  · have := hsub n o ho
    rwa [sets_getD hn] at this
theorem row_count (l : List Bool) : ((List.range l.length).filter fun o => l.getD o false).length = l.countP id := by
  have e : l = (List.range l.length).map fun o => l.getD o false := by
    refine List.ext_getElem (by simp) fun i h1 h2 => ?_
    rw [List.getElem_map, List.getElem_range, List.getD_eq_getElem?_getD, List.getElem?_eq_getElem h1]; rfl
  conv => rhs; rw [e]
  rw [List.countP_map, List.countP_eq_length_filter]
  rfl
theorem objs_len (s : SV) (n : Int) : (s.objs n).length = (s.has.getD n.toNat []).countP id := by
  unfold SV.objs
  rw [List.length_map]
  exact row_count _
theorem count_set : ∀ (l : List Bool) (k : Nat), k < l.length → l.getD k false = false → (l.set k true).countP id = l.countP id + 1
  | b :: l, 0, _, h => by
    have hb : b = false := h
    subst hb
    simp
  | b :: l, k + 1, hk, h => by
    have ih := count_set l k (by simpa using hk) (by simpa using h)
    rw [qS2, List.countP_cons, List.countP_cons, ih]
    omega
theorem sum_one (g g' : Nat → Nat) (i : Nat) (h : ∀ n, n ≠ i → g' n = g n) (hi : g' i = g i + 1) : ∀ N, ((List.range N).map g').sum = ((List.range N).map g).sum + if i < N then 1 else 0
  | 0 => by simp
  | N + 1 => by
    rw [List.range_succ, List.map_append, List.map_append, List.sum_append, List.sum_append, sum_one g g' i h hi N]
    simp only [List.map_cons, List.map_nil, List.sum_cons, List.sum_nil]
    by_cases e : N = i
    · subst e
      rw [hi, if_neg (Nat.lt_irrefl _), if_pos (Nat.lt_succ_self _)]
      omega
    · rw [h N e]
      by_cases k : i < N
      · rw [if_pos k, if_pos (by omega)]; omega
      · rw [if_neg k, if_neg (by omega)]; omega
theorem sum_le (g g' : Nat → Nat) : ∀ N, (∀ n, n < N → g n ≤ g' n) → ((List.range N).map g).sum ≤ ((List.range N).map g').sum ∧ (((List.range N).map g).sum = ((List.range N).map g').sum → ∀ n, n < N → g n = g' n)
  | 0, _ => ⟨Nat.le_refl _, fun _ n h => by omega⟩
  | N + 1, h => by
    obtain ⟨k1, k2⟩ := sum_le g g' N fun n hn => h n (by omega)
    have hN := h N (Nat.lt_succ_self _)
    rw [List.range_succ, List.map_append, List.map_append, List.sum_append, List.sum_append]
    simp only [List.map_cons, List.map_nil, List.sum_cons, List.sum_nil]
    refine ⟨by omega, fun e n hn => ?_⟩
    by_cases hc : n = N
    · subst hc; omega
    · exact k2 (by omega) n (by omega)
def SV.tot (P : PP) (s : SV) : Nat := ((List.range P.nodesV).map fun n : Nat => (s.objs (n : Int)).length).sum
def totS (P : PP) (S : List (List Int)) : Nat := ((List.range P.nodesV).map fun n : Nat => (S.getD n []).length).sum
theorem set_srt {P : PP} {S : List (List Int)} (hg : P.GoodS S) (n : Nat) : Srt (S.getD n []) := by
  rw [List.getD_eq_getElem?_getD]
  cases hl : S[n]? with
  | none => exact List.Pairwise.nil
  | some l => exact (chkE_zero.1 (hg.ok.ok l (List.mem_of_getElem? hl)).1).2
theorem tot_le {P : PP} {S : List (List Int)} {s : SV} (hg : P.GoodS S) (h : Core P S s) : s.tot P ≤ totS P S ∧ (s.tot P = totS P S → ∀ n, n < P.nodesV → s.objs (n : Int) = S.getD n []) := by
  obtain ⟨k1, k2⟩ := sum_le (fun n : Nat => (s.objs (n : Int)).length) (fun n => (S.getD n []).length) P.nodesV fun n _ => (srt_len (objs_srt s n) (set_srt hg n) (h.sub n)).1
  exact ⟨k1, fun e n hn => (srt_len (objs_srt s n) (set_srt hg n) (h.sub n)).2 (k2 e n hn)⟩
theorem tot_mark {P : PP} {s : SV} (hl : s.has.length = P.nodesV) {f : Int × Int} (h1 : 0 ≤ f.1 ∧ f.1 < P.nodesV) (h2 : 0 ≤ f.2 ∧ f.2.toNat < (s.has.getD f.1.toNat []).length) (hb : s.bit f = false) : (s.mark f).tot P = s.tot P + 1 := by
  unfold SV.tot
  have hn : f.1.toNat < s.has.length := by omega
  have h1' : ∀ n : Nat, n ≠ f.1.toNat → ((s.mark f).objs (n : Int)).length = (s.objs (n : Int)).length := fun n hne => by
    rw [objs_len, objs_len]
    unfold SV.mark
    rw [getD_set2 _ _ _ _ hn, if_neg (by omega)]
  have h2' : ((s.mark f).objs ((f.1.toNat : Nat) : Int)).length = (s.objs ((f.1.toNat : Nat) : Int)).length + 1 := by
    rw [objs_len, objs_len]
    unfold SV.mark
    rw [getD_set2 _ _ _ _ hn, if_pos (by omega), Int.toNat_natCast]
    exact count_set _ _ h2.2 hb
  have key := sum_one (fun n : Nat => (s.objs (n : Int)).length) (fun n : Nat => ((s.mark f).objs (n : Int)).length) f.1.toNat h1' h2' P.nodesV
  rw [if_pos (by omega)] at key
  exact key
def SV.one (P : PP) (s : SV) : SV := match s.wait with
  | [] => s
  | f :: _ => ((s.mark f).came P f).clean
def SV.ready (s : SV) : Prop := ∀ f r, s.wait = f :: r → s.bit f = false
theorem clean_ready (s : SV) : s.clean.ready := fun _ _ h => dropWhile_head h
theorem clean_has (s : SV) : s.clean.has = s.has := rfl
theorem tot_has {P : PP} {s t : SV} (h : t.has = s.has) : t.tot P = s.tot P := by unfold SV.tot; simp only [objs_has h]
theorem Full.one {P : PP} {S : List (List Int)} {s : SV} (hg : P.GoodS S) (hc : ClosedP P S) (h : Full P S s) (hr : s.ready) {f : Int × Int} {r : List (Int × Int)} (hw : s.wait = f :: r) :
    Full P S (s.one P) ∧ (s.one P).ready ∧ (s.one P).rules = s.rules ∧ (s.one P).tot P = s.tot P + 1 := by
  have hfw := h.core.wait f (by rw [hw]; exact List.mem_cons_self)
  have hlen := hg.2.1
  have hin : f.2 ∈ S.getD f.1.toNat [] := hfw.2
  have h2 : 0 ≤ f.2 ∧ f.2 < P.objectsV := by
    rw [List.getD_eq_getElem?_getD, List.getElem?_eq_getElem (show f.1.toNat < S.length by omega)] at hin
    have hk := hg.ok.ok _ (List.getElem_mem (show f.1.toNat < S.length by omega))
    exact ⟨((chkE_zero.1 hk.1).1 _ hin).1, hk.2 _ hin⟩
  obtain ⟨k1, k2, k3⟩ := h.came hg hc hfw h2
  have hrow : (s.has.getD f.1.toNat []).length = P.objectsV := by
    have hl1 : f.1.toNat < s.has.length := by rw [h.core.len]; omega
    rw [List.getD_eq_getElem?_getD, List.getElem?_eq_getElem hl1]
    exact h.core.row _ (List.getElem_mem hl1)
  have e : s.one P = ((s.mark f).came P f).clean := by unfold SV.one; rw [hw]
  rw [e]
  refine ⟨k1.cleaned, clean_ready _, k3, ?_⟩
  rw [tot_has (clean_has _), tot_has k2]
  exact tot_mark h.core.len hfw.1 ⟨h2.1, by rw [hrow]; omega⟩ (hr f r hw)
def SV.steps (P : PP) : Nat → SV → SV × Nat
  | 0, s => (s, 0)
  | k + 1, s => match s.wait with
    | [] => (s, 0)
    | _ :: _ => ((SV.steps P k (s.one P)).1, (SV.steps P k (s.one P)).2 + 1)
theorem steps_keep {P : PP} {S : List (List Int)} (hg : P.GoodS S) (hc : ClosedP P S) : ∀ (k : Nat) {s : SV}, Full P S s → s.ready →
    Full P S (s.steps P k).1 ∧ (s.steps P k).1.ready ∧ (s.steps P k).1.rules = s.rules ∧ (s.steps P k).1.tot P = s.tot P + (s.steps P k).2 ∧ (s.steps P k).2 ≤ k ∧ ((s.steps P k).2 < k → (s.steps P k).1.wait = [])
  | 0, s, h, hr => ⟨h, hr, rfl, rfl, Nat.le_refl _, fun g => absurd g (Nat.lt_irrefl _)⟩
  | k + 1, s, h, hr => by
    unfold SV.steps
    cases hw : s.wait with
    | nil => exact ⟨h, hr, rfl, rfl, Nat.zero_le _, fun _ => hw⟩
    | cons f r =>
      obtain ⟨k1, k2, k3, k4⟩ := h.one hg hc hr hw
      obtain ⟨j1, j2, j3, j4, j5, j6⟩ := steps_keep hg hc k k1 k2
      refine ⟨j1, j2, j3.trans k3, ?_, by simp only; omega, fun g => j6 (by simp only at g; omega)⟩
      simp only
      omega
theorem Full.all {P : PP} {S : List (List Int)} {s : SV} {m : Nat} (hL : LeastAt P m S) (hw : P.Well) (h : Full P S s) (hr : ∀ r ∈ P.rulesV, r ∈ s.rules) (hrd : s.ready) : s.wait = [] ↔ s.tot P = totS P S := by
  have hg := hL.good hw
  constructor
  · intro hwt
    unfold SV.tot totS
    congr 1
    refine List.map_congr_left fun n hn => ?_
    rw [h.done hL hw hr hwt (List.mem_range.1 hn)]
  · intro e
    cases hwt : s.wait with
    | nil => rfl
    | cons f r =>
      have hfw := h.core.wait f (by rw [hwt]; exact List.mem_cons_self)
      have hb := hrd f r hwt
      have heq := (tot_le hg h.core).2 e f.1.toNat (by omega)
      have hin := hfw.2
      rw [← heq] at hin
      obtain ⟨_, hb2⟩ := mem_objs.1 hin
      rw [Int.toNat_of_nonneg hfw.1.1] at hb2
      rw [hb] at hb2
      cases hb2
end Go.Proofs.YtihdpijgngooaaaGreatDoor
