/- Texts of one proof, put together: YT Z4 M1 E1 E2 ZL ZM ZN ZO ZP ZT ZZYa ZZYb ZZYc ZZYo MQ MR ZQ ZR X5 Z5 X3 X6. -/
import Derived.Test.YtbagppdibncfdaaGreatDoorHHN04
import Derived.Test.YtbagppdibncfdaaGreatDoorHHN07
import Derived.Test.YtbagppdibncfdaaGreatDoorHHN08
import Derived.Test.YtbagppdibncfdaaGreatDoorHHN11
import Derived.Maps.Keyed
import Derived.DeepKeys4
import Derived.Test.YtbagppdibncfdaaGreatDoorHHN01
set_option linter.unusedSimpArgs false
set_option linter.unusedVariables false
namespace Go.Proofs.YtbagppdibncfdaaGreatDoor
open Go Go.RowKit
def fEdge (f : PF) (r : RV) (a b : Int) : Bool := decide (f.params.length = r.args.length) && ((decide (a = f.ret) && decide (b = r.b)) || (List.range f.params.length).any fun i => decide (a = r.args.getD i 0) && decide (b = f.params.getD i 0))
def PP.isE (P : PP) (r : RV) (has : List (List Int)) (a b : Int) : Bool :=
  bif r.kind.toList == kCopy then decide (a = r.a) && decide (b = r.b) else
  bif r.kind.toList == kLoad then decide (b = r.b) && (decide (a < (P.nodesV : Int)) && decide (a ∈ has.getD r.a.toNat [])) else
  bif r.kind.toList == kStore then decide (a = r.a) && (decide (b < (P.nodesV : Int)) && decide (b ∈ has.getD r.b.toNat [])) else
  bif r.kind.toList == kCall then (List.range P.funs.length).any fun f => decide ((P.nodesV : Int) + f ∈ has.getD r.a.toNat []) && fEdge (P.funs.getD f ⟨⟨#[]⟩, [], 0⟩) r a b else false
theorem fEdge_iff (f : PF) (r : RV) (a b : Int) : fEdge f r a b = true ↔ (a, b) ∈ calledV f r := by
  unfold fEdge calledV
  by_cases hl : f.params.length = r.args.length
  · rw [decide_eq_true hl, Bool.true_and, if_pos hl, List.mem_cons, Bool.or_eq_true, Bool.and_eq_true, decide_eq_true_iff, decide_eq_true_iff, Prod.mk.injEq]
    refine or_congr Iff.rfl ?_
    rw [List.any_eq_true]
    constructor
    · rintro ⟨i, hi, h⟩
      have hi := List.mem_range.1 hi
      rw [Bool.and_eq_true, decide_eq_true_iff, decide_eq_true_iff] at h
      refine List.mem_iff_getElem?.2 ⟨i, List.getElem?_zip_eq_some.2 ⟨?_, ?_⟩⟩
      · rw [h.1, List.getD_eq_getElem?_getD, List.getElem?_eq_getElem (show i < r.args.length by omega)]; rfl
      · rw [h.2, List.getD_eq_getElem?_getD, List.getElem?_eq_getElem hi]; rfl
    · intro h
      obtain ⟨i, hi⟩ := List.mem_iff_getElem?.1 h
      obtain ⟨h1, h2⟩ := List.getElem?_zip_eq_some.1 hi
      have hil : i < f.params.length := by
        rcases Nat.lt_or_ge i f.params.length with g | g
        · exact g
        · rw [List.getElem?_eq_none g] at h2; cases h2
      refine ⟨i, List.mem_range.2 hil, ?_⟩
      rw [List.getD_eq_getElem?_getD, List.getD_eq_getElem?_getD, h1, h2]
      simp
  · rw [decide_eq_false hl, Bool.false_and, if_neg hl]
    simp
theorem isE_iff {P : PP} (r : RV) (has : List (List Int)) (a b : Int) : P.isE r has a b = true ↔ (a, b) ∈ P.redges r has := by
  unfold PP.isE PP.redges
  cases r.kind.toList == kCopy
  · cases r.kind.toList == kLoad
    · cases r.kind.toList == kStore
      · cases r.kind.toList == kCall
        · simp
        · simp only [cond_true, cond_false]
          rw [List.any_eq_true, List.mem_flatMap]
          constructor
          · rintro ⟨f, hf, h⟩
            have hf := List.mem_range.1 hf
            rw [Bool.and_eq_true, decide_eq_true_iff, fEdge_iff] at h
            refine ⟨_, h.1, ?_⟩
            unfold PP.callsOf
            have e : P.funV ((P.nodesV : Int) + f) = (f : Int) := by unfold PP.funV; rw [if_pos (by omega)]; omega
            rw [e, if_pos (by omega)]
            exact h.2
          · rintro ⟨o, ho, h⟩
            unfold PP.callsOf at h
            by_cases hF : 0 ≤ P.funV o
            · rw [if_pos hF] at h
              have hlt := funV_lt hF
              refine ⟨(P.funV o).toNat, List.mem_range.2 (by omega), ?_⟩
              rw [Bool.and_eq_true, decide_eq_true_iff, fEdge_iff]
              refine ⟨?_, h⟩
              have e : (P.nodesV : Int) + ((P.funV o).toNat : Nat) = o := by
                rw [Int.toNat_of_nonneg hF]
                unfold PP.funV at hF ⊢
                by_cases hc : 0 ≤ o - (P.nodesV : Int) ∧ o - (P.nodesV : Int) < P.funs.length
                · rw [if_pos hc]; omega
                · rw [if_neg hc] at hF; omega
              rw [e]
              exact ho
            · rw [if_neg hF] at h
              cases h
      · simp only [cond_true, cond_false]
        rw [List.mem_map]
        constructor
        · intro h
          simp only [Bool.and_eq_true, decide_eq_true_iff] at h
          refine ⟨b, ?_, by rw [h.1]⟩
          unfold PP.nodesOf
          exact List.mem_filter.2 ⟨h.2.2, by simp; exact h.2.1⟩
        · rintro ⟨o, ho, h⟩
          unfold PP.nodesOf at ho
          obtain ⟨h1, h2⟩ := List.mem_filter.1 ho
          simp only [Prod.mk.injEq] at h
          obtain ⟨rfl, rfl⟩ := h
          simp at h2
          exact Bool.and_eq_true_iff.2 ⟨decide_eq_true rfl, Bool.and_eq_true_iff.2 ⟨decide_eq_true h2, decide_eq_true h1⟩⟩
    · simp only [cond_true, cond_false]
      rw [List.mem_map]
      constructor
      · intro h
        simp only [Bool.and_eq_true, decide_eq_true_iff] at h
        refine ⟨a, ?_, by rw [h.1]⟩
        unfold PP.nodesOf
        exact List.mem_filter.2 ⟨h.2.2, by simp; exact h.2.1⟩
      · rintro ⟨o, ho, h⟩
        unfold PP.nodesOf at ho
        obtain ⟨h1, h2⟩ := List.mem_filter.1 ho
        simp only [Prod.mk.injEq] at h
        obtain ⟨rfl, rfl⟩ := h
        simp at h2
        exact Bool.and_eq_true_iff.2 ⟨decide_eq_true rfl, Bool.and_eq_true_iff.2 ⟨decide_eq_true h2, decide_eq_true h1⟩⟩
  · simp only [cond_true, List.mem_singleton, Prod.mk.injEq, Bool.and_eq_true, decide_eq_true_iff]
def PP.rulesE (P : PP) : List RV := P.rulesV.filter fun r => !(r.kind.toList == bBase.toList)
def PP.edgeB (P : PP) (has : List (List Int)) (a b : Int) : Bool := decide (a ≠ b) && P.rulesE.any fun r => P.isE r has a b
theorem edgeB_iff {P : PP} {has : List (List Int)} {a b : Int} : P.edgeB has a b = true ↔ (a, b) ∈ P.edges0 has ∧ a ≠ b := by
  unfold PP.edgeB PP.rulesE PP.edges0
  rw [Bool.and_eq_true, decide_eq_true_iff, List.any_eq_true, List.mem_flatMap, and_comm]
  refine and_congr ⟨fun ⟨r, hr, h⟩ => ⟨r, (List.mem_filter.1 hr).1, (isE_iff r has a b).1 h⟩, fun ⟨r, hr, h⟩ => ⟨r, List.mem_filter.2 ⟨hr, ?_⟩, (isE_iff r has a b).2 h⟩⟩ Iff.rfl
  cases hb : r.kind.toList == bBase.toList with
  | false => rfl
  | true =>
    have e := eq_of_beq hb
    have hn : P.redges r has = [] := by
      have e2 := eq_of_beq bBase_list
      unfold PP.redges kCopy kLoad kStore kCall
      rw [e, e2]; rfl
    rw [hn] at h
    cases h
def PP.rowE (P : PP) (has : List (List Int)) (a n : Nat) : List (Int × Int) := ((List.range n).filter fun b : Nat => P.edgeB has (a : Int) (b : Int)).map fun b : Nat => ((a : Int), (b : Int))
def PP.refE (P : PP) (has : List (List Int)) (n : Nat) : List (Int × Int) := (List.range n).flatMap fun a => P.rowE has a P.nodesV
theorem mem_rowE {P : PP} {has : List (List Int)} {a n : Nat} {e : Int × Int} : e ∈ P.rowE has a n ↔ ∃ b : Nat, b < n ∧ e = ((a : Int), (b : Int)) ∧ P.edgeB has a b = true := by
  unfold PP.rowE
  rw [List.mem_map]
  constructor
  · rintro ⟨b, hb, rfl⟩
    obtain ⟨h1, h2⟩ := List.mem_filter.1 hb
    exact ⟨b, List.mem_range.1 h1, rfl, h2⟩
  · rintro ⟨b, hb, rfl, h⟩
    exact ⟨b, List.mem_filter.2 ⟨List.mem_range.2 hb, h⟩, rfl⟩
theorem rowE_srt (P : PP) (has : List (List Int)) (a n : Nat) : SrtP (P.rowE has a n) := by
  unfold PP.rowE SrtP
  rw [List.pairwise_map]
  refine List.Pairwise.imp (R := (· < ·)) (fun h => .inr ⟨rfl, by simp only; omega⟩) ?_
  exact List.Pairwise.sublist List.filter_sublist List.pairwise_lt_range
theorem refE_srt (P : PP) (has : List (List Int)) : ∀ n, SrtP (P.refE has n)
  | 0 => List.Pairwise.nil
  | n + 1 => by
    unfold PP.refE
    rw [List.range_succ, List.flatMap_append]
    refine List.pairwise_append.2 ⟨refE_srt P has n, by simpa using rowE_srt P has n P.nodesV, fun x hx y hy => ?_⟩
    obtain ⟨a, ha, hxa⟩ := List.mem_flatMap.1 hx
    obtain ⟨b, _, rfl, _⟩ := mem_rowE.1 hxa
    have hy' : y ∈ P.rowE has n P.nodesV := by simpa using hy
    obtain ⟨c, _, rfl, _⟩ := mem_rowE.1 hy'
    have := List.mem_range.1 ha
    exact .inl (by show (a : Int) < n; omega)
theorem refE_are {P : PP} (hw : P.Well) {has : List (List Int)} (hs : SetsOk P has) : EdgesAre P has (P.refE has P.nodesV) := by
  refine ⟨refE_srt P has _, fun e => ?_⟩
  obtain ⟨x, y⟩ := e
  unfold PP.refE
  rw [List.mem_flatMap]
  constructor
  · rintro ⟨a, _, h⟩
    obtain ⟨b, _, e, h2⟩ := mem_rowE.1 h
    simp only [Prod.mk.injEq] at e
    obtain ⟨rfl, rfl⟩ := e
    exact edgeB_iff.1 h2
  · rintro ⟨h, hne⟩
    obtain ⟨h1, h2, h3, h4⟩ := edges0_in hw hs _ h
    obtain ⟨a, rfl⟩ := Int.eq_ofNat_of_zero_le h1
    obtain ⟨b, rfl⟩ := Int.eq_ofNat_of_zero_le h3
    exact ⟨a, List.mem_range.2 (by simp only at h2; omega), mem_rowE.2 ⟨b, by simp only at h4; omega, rfl, edgeB_iff.2 ⟨h, hne⟩⟩⟩
def PP.edgesL (P : PP) (has : List (List Int)) : List (Int × Int) := P.refE has P.nodesV
def PP.GoodS (P : PP) (has : List (List Int)) : Prop := P.Well ∧ has.length = P.nodesV ∧ ∀ l ∈ has, P.setE l = 0
theorem PP.GoodS.ok {P : PP} {has : List (List Int)} (h : P.GoodS has) : SetsOk P has := SetsOk.of h.2.1 h.2.2
theorem edgesL_are {P : PP} {has : List (List Int)} (h : P.GoodS has) : EdgesAre P has (P.edgesL has) := refE_are h.1 h.ok
theorem edgesL_len {P : PP} (hw : P.Well) (has : List (List Int)) : (P.edgesL has).length ≤ 50000 := by
  have hn := nodesV_le P hw
  have h1 := flatMap_len (fun a => P.rowE has a P.nodesV) 120 (List.range P.nodesV) fun a _ => by
    unfold PP.rowE
    rw [List.length_map]
    have := List.length_filter_le (fun b : Nat => P.edgeB has (a : Int) (b : Int)) (List.range P.nodesV)
    rw [List.length_range] at this
    omega
  rw [List.length_range] at h1
  unfold PP.edgesL PP.refE
  omega
structure PS0 (w : World) (n0 : Nat) (ad : Nat → Addr) (a1 a2 a3 : Option Addr) (c1 c2 c3 : Nat) (P : PP) : Prop where
  errs : ErrsP w ad
  prog : ProgR w n0 (.slice a1 P.vars.length c1) (.slice a2 P.funs.length c2) (.slice a3 P.stmts.length c3) P
  z1 : ∀ s ∈ P.vars, s.size ≤ 1000000
  z2 : ∀ s ∈ P.names, s.size ≤ 1000000
theorem PS0.ext {w w' : World} {n0 : Nat} {ad : Nat → Addr} {a1 a2 a3 : Option Addr} {c1 c2 c3 : Nat} {P : PP} (h : PS0 w n0 ad a1 a2 a3 c1 c2 c3 P) (x : Ext w w') : PS0 w' w'.heap.size ad a1 a2 a3 c1 c2 c3 P → PS0 w' w'.heap.size ad a1 a2 a3 c1 c2 c3 P := id
theorem PS0.on {w w' : World} {n0 : Nat} {ad : Nat → Addr} {a1 a2 a3 : Option Addr} {c1 c2 c3 : Nat} {P : PP} (h : PS0 w n0 ad a1 a2 a3 c1 c2 c3 P) (hn : n0 ≤ w.heap.size) (x : Ext w w') : PS0 w' w'.heap.size ad a1 a2 a3 c1 c2 c3 P := ⟨h.errs.ext x, (h.prog.ext x).lift (Nat.le_trans hn x.size), h.z1, h.z2⟩
theorem PS0.pw {w : World} {n0 : Nat} {ad : Nat → Addr} {a1 a2 a3 : Option Addr} {c1 c2 c3 : Nat} {P : PP} (h : PS0 w n0 ad a1 a2 a3 c1 c2 c3 P) (hw : P.Well) : PW w n0 ad a1 a2 a3 c1 c2 c3 P := ⟨h.errs, h.prog, h.z1, h.z2, hw⟩
def ruledP : PP := ⟨[⟨#[97]⟩, ⟨#[98]⟩], [], [⟨⟨#[99, 111, 112, 121]⟩, 0, 1, []⟩]⟩
def ruledS : Array Value := #[.string ⟨#[99, 111, 112, 121]⟩, .int .i64 0, .int .i64 1, .slice none 0 0]
theorem setE_of {P : PP} {l : List Int} (h : chkE l = 0) (hx : ∀ x ∈ l, x < (P.objectsV : Int)) : P.setE l = 0 := by
  unfold PP.setE
  rw [if_pos h, if_neg]
  rintro ⟨h1, h2⟩
  rw [List.getD_eq_getElem?_getD, List.getElem?_eq_getElem (show l.length - 1 < l.length by omega), Option.getD_some] at h2
  have := hx _ (List.getElem_mem (show l.length - 1 < l.length by omega))
  omega
theorem objects_few {P : PP} (hw : P.Well) : P.objectsV ≤ 126 := by
  have h1 := hw.few
  have h2 := nodesV_le P hw
  unfold PP.objectsV
  omega
theorem Made.set {w : World} {base g cap : Nat} {vs : List Value} {L : List (List Int)} {n : Nat} {v : Value} {l : List Int} (hr : w.ownsRow base 45 1 (.slice (some ⟨g, 0, none⟩) L.length cap) L.length vs) (hm : Made w vs L) (hv : IntsT w v l) (hn : n < L.length) :
    SetsR (w.setCell ⟨g, n, none⟩ v) (w.setCell ⟨g, n, none⟩ v).heap.size (.slice (some ⟨g, 0, none⟩) (L.set n l).length cap) (L.set n l) := by
  have k : Keep (fun q => q = g) w (w.setCell ⟨g, n, none⟩ v) := Keep.set (X := fun q => q = g) (Keep.refl _ _) rfl _
  have hni : ∀ b, b = g → ¬ IsInt w b := fun b e => by
    subst e
    obtain ⟨c, hc⟩ := own_ty hr (k := b) rfl
    exact notInt hc (by decide)
  have hvs := hm.1
  have h2 := own_set hr n (by omega) v
  rw [show L.length = (L.set n l).length from List.length_set.symm] at h2
  refine SetsR.made h2 ⟨by rw [List.length_set, List.length_set]; exact hvs, fun i u m hu hl => ?_⟩
  by_cases hi : n = i
  · subst hi
    rw [List.getElem?_set_self (by omega)] at hu hl
    obtain rfl := Option.some.inj hu
    obtain rfl := Option.some.inj hl
    exact hv.keep k hni
  · rw [List.getElem?_set_ne hi] at hu hl
    exact (hm.2 i u m hu hl).keep k hni
theorem IntsT.row {w : World} {base : Nat} {v : Value} {l : List Int} (h : IRow base w v l) : IntsT w v l := IntsT.of_row h
def Ahead (a b : List (Int × Int)) (i k : Nat) : Prop := ∀ x, a[i]? = some x → ∃ j, k ≤ j ∧ b[j]? = some x
theorem Ahead.zero {a b : List (Int × Int)} (h : ∀ e, e ∈ a → e ∈ b) : Ahead a b 0 0 := fun x hx => by
  obtain ⟨j, hj⟩ := List.mem_iff_getElem?.1 (h x (List.mem_of_getElem? hx))
  exact ⟨j, Nat.zero_le _, hj⟩
theorem Ahead.skip {a b : List (Int × Int)} {i k : Nat} {x y : Int × Int} (h : Ahead a b i k) (hx : a[i]? = some x) (hy : b[k]? = some y) (hne : y ≠ x) : Ahead a b i (k + 1) := fun z hz => by
  obtain rfl := Option.some.inj (hx.symm.trans hz)
  obtain ⟨j, hj, hb⟩ := h x hx
  refine ⟨j, ?_, hb⟩
  rcases Nat.lt_or_ge k j with g | g
  · exact g
  · obtain rfl : j = k := by omega
    exact absurd (Option.some.inj (hy.symm.trans hb)) hne
theorem Ahead.next {a b : List (Int × Int)} (ha : SrtP a) (hb : SrtP b) (hs : ∀ e, e ∈ a → e ∈ b) {i k : Nat} {x : Int × Int} (hx : a[i]? = some x) (hy : b[k]? = some x) : Ahead a b (i + 1) k := fun z hz => by
  obtain ⟨j, hj⟩ := List.mem_iff_getElem?.1 (hs z (List.mem_of_getElem? hz))
  exact ⟨j, Nat.le_of_lt (srtP_idx hb hy hj (srtP_next ha hx hz)), hj⟩
theorem Ahead.found {a b : List (Int × Int)} {i k : Nat} {x : Int × Int} (h : Ahead a b i k) (hx : a[i]? = some x) : k < b.length := by
  obtain ⟨j, hj, hb⟩ := h x hx
  rcases Nat.lt_or_ge j b.length with g | g
  · omega
  · rw [List.getElem?_eq_none g] at hb; cases hb
def PP.baseAt (P : PP) (j : Nat) (n : Nat) (x : Int) : Prop := (P.ruleV j (P.stAt j)).kind.toList = bBase.toList ∧ (P.ruleV j (P.stAt j)).a = (n : Int) ∧ (P.ruleV j (P.stAt j)).b = x
structure RoundAt (P : PP) (has : List (List Int)) (EL : List (Int × Int)) (k m : Nat) (S : List (List Int)) : Prop where
  len : S.length = has.length
  ok : ∀ l ∈ S, chkE l = 0
  mem : ∀ n x, n < has.length → (x ∈ S.getD n [] ↔ x ∈ has.getD n [] ∨ (∃ j, j < k ∧ P.baseAt j n x) ∨ ∃ (i : Nat) (e : Int × Int), i < m ∧ EL[i]? = some e ∧ e.2 = (n : Int) ∧ x ∈ has.getD e.1.toNat [])
theorem getD_mem {S : List (List Int)} {n : Nat} (hn : n < S.length) : S.getD n [] ∈ S := by
  rw [List.getD_eq_getElem?_getD, List.getElem?_eq_getElem hn]
  exact List.getElem_mem hn
theorem RoundAt.start {P : PP} {has : List (List Int)} (hg : P.GoodS has) (EL : List (Int × Int)) : RoundAt P has EL 0 0 has :=
  ⟨rfl, fun l hl => (hg.ok.ok l hl).1, fun n x _ => ⟨.inl, fun h => by
    rcases h with h | ⟨j, hj, _⟩ | ⟨i, e, hi, _⟩
    · exact h
    · omega
    · omega⟩⟩
theorem RoundAt.uniq {P : PP} {has : List (List Int)} {EL : List (Int × Int)} {k m : Nat} {S T : List (List Int)} (h : RoundAt P has EL k m S) (g : RoundAt P has EL k m T) : S = T := by
  refine List.ext_getElem? fun n => ?_
  by_cases hn : n < has.length
  · have hs : n < S.length := by rw [h.len]; exact hn
    have ht : n < T.length := by rw [g.len]; exact hn
    have e : S.getD n [] = T.getD n [] := srt_uniq (chkE_zero.1 (h.ok _ (getD_mem hs))).2 (chkE_zero.1 (g.ok _ (getD_mem ht))).2 fun x => (h.mem n x hn).trans (g.mem n x hn).symm
    rw [List.getD_eq_getElem?_getD, List.getD_eq_getElem?_getD, List.getElem?_eq_getElem hs, List.getElem?_eq_getElem ht] at e
    rw [List.getElem?_eq_getElem hs, List.getElem?_eq_getElem ht]
    exact congrArg some e
  · rw [List.getElem?_eq_none (by rw [h.len]; omega), List.getElem?_eq_none (by rw [g.len]; omega)]
theorem set_getD {S : List (List Int)} {a n : Nat} {l : List Int} (ha : a < S.length) : (S.set a l).getD n [] = if a = n then l else S.getD n [] := by
  rw [List.getD_eq_getElem?_getD, List.getElem?_set]
  by_cases h : a = n
  · subst h; rw [if_pos rfl, if_pos ha, if_pos rfl]; rfl
  · rw [if_neg h, if_neg h, List.getD_eq_getElem?_getD]
theorem set_ok {S : List (List Int)} {a : Nat} {l : List Int} (h : ∀ m ∈ S, chkE m = 0) (hl : chkE l = 0) : ∀ m ∈ S.set a l, chkE m = 0 := fun m hm => by
  rcases List.mem_or_eq_of_mem_set hm with h1 | h1
  · exact h m h1
  · rw [h1]; exact hl
theorem RoundAt.base {P : PP} {has : List (List Int)} {EL : List (Int × Int)} {k : Nat} {S : List (List Int)} (h : RoundAt P has EL k 0 S) (hb : (P.ruleV k (P.stAt k)).kind.toList = bBase.toList) {a : Nat} {b : Int} (ha : (P.ruleV k (P.stAt k)).a = (a : Int)) (hbb : (P.ruleV k (P.stAt k)).b = b) (hb1 : 0 ≤ b ∧ b < 1000) (hal : a < has.length) :
    RoundAt P has EL (k + 1) 0 (S.set a (sset (S.getD a [] ++ [b]))) := by
  have has' : a < S.length := by rw [h.len]; exact hal
  have hin : InR (S.getD a [] ++ [b]) := (chkE_zero.1 (h.ok _ (getD_mem has'))).1.app fun x hx => by obtain rfl := List.mem_singleton.1 hx; exact hb1
  refine ⟨by rw [List.length_set]; exact h.len, set_ok h.ok (chkE_sset _), fun n x hn => ?_⟩
  rw [set_getD has']
  by_cases han : a = n
  · subst han
    rw [if_pos rfl, mem_sset hin, List.mem_append, h.mem a x hn, List.mem_singleton]
    constructor
    · rintro ((h1 | ⟨j, hj, h1⟩ | ⟨i, e, hi, _⟩) | rfl)
      · exact .inl h1
      · exact .inr (.inl ⟨j, by omega, h1⟩)
      · omega
      · exact .inr (.inl ⟨k, by omega, hb, ha, hbb⟩)
    · rintro (h1 | ⟨j, hj, h1⟩ | ⟨i, e, hi, _⟩)
      · exact .inl (.inl h1)
      · by_cases hjk : j = k
        · subst hjk
          exact .inr (h1.2.2.symm.trans hbb)
        · exact .inl (.inr (.inl ⟨j, by omega, h1⟩))
      · omega
  · rw [if_neg han, h.mem n x hn]
    refine or_congr Iff.rfl (or_congr ⟨fun ⟨j, hj, h1⟩ => ⟨j, by omega, h1⟩, fun ⟨j, hj, h1⟩ => ⟨j, ?_, h1⟩⟩ Iff.rfl)
    by_cases hjk : j = k
    · subst hjk
      have := h1.2.1
      omega
    · omega
theorem RoundAt.skip {P : PP} {has : List (List Int)} {EL : List (Int × Int)} {k : Nat} {S : List (List Int)} (h : RoundAt P has EL k 0 S) (hb : (P.ruleV k (P.stAt k)).kind.toList ≠ bBase.toList) : RoundAt P has EL (k + 1) 0 S :=
  ⟨h.len, h.ok, fun n x hn => (h.mem n x hn).trans (or_congr Iff.rfl (or_congr ⟨fun ⟨j, hj, h1⟩ => ⟨j, by omega, h1⟩, fun ⟨j, hj, h1⟩ => ⟨j, by
    by_cases hjk : j = k
    · subst hjk; exact absurd h1.1 hb
    · omega, h1⟩⟩ Iff.rfl))⟩
theorem RoundAt.edge {P : PP} {has : List (List Int)} {EL : List (Int × Int)} {k m : Nat} {S : List (List Int)} (h : RoundAt P has EL k m S) {a b : Nat} (he : EL[m]? = some ((a : Int), (b : Int))) (hok : ∀ l ∈ has, chkE l = 0) (hal : a < has.length) (hbl : b < has.length) :
    RoundAt P has EL k (m + 1) (S.set b (sset (S.getD b [] ++ has.getD a []))) := by
  have hbs : b < S.length := by rw [h.len]; exact hbl
  have hin : InR (S.getD b [] ++ has.getD a []) := (chkE_zero.1 (h.ok _ (getD_mem hbs))).1.app (chkE_zero.1 (hok _ (getD_mem hal))).1
  refine ⟨by rw [List.length_set]; exact h.len, set_ok h.ok (chkE_sset _), fun n x hn => ?_⟩
  rw [set_getD hbs]
  by_cases hbn : b = n
  · subst hbn
    rw [if_pos rfl, mem_sset hin, List.mem_append, h.mem b x hn]
    constructor
    · rintro ((h1 | h1 | ⟨i, e, hi, h1⟩) | h1)
      · exact .inl h1
      · exact .inr (.inl h1)
      · exact .inr (.inr ⟨i, e, by omega, h1⟩)
      · exact .inr (.inr ⟨m, _, by omega, he, rfl, h1⟩)
    · rintro (h1 | h1 | ⟨i, e, hi, h1, h2, h3⟩)
      · exact .inl (.inl h1)
      · exact .inl (.inr (.inl h1))
      · by_cases him : i = m
        · subst him
          obtain rfl := Option.some.inj (he.symm.trans h1)
          exact .inr h3
        · exact .inl (.inr (.inr ⟨i, e, by omega, h1, h2, h3⟩))
  · rw [if_neg hbn, h.mem n x hn]
    refine or_congr Iff.rfl (or_congr Iff.rfl ⟨fun ⟨i, e, hi, h1⟩ => ⟨i, e, by omega, h1⟩, fun ⟨i, e, hi, h1, h2, h3⟩ => ⟨i, e, ?_, h1, h2, h3⟩⟩)
    by_cases him : i = m
    · subst him
      obtain rfl := Option.some.inj (he.symm.trans h1)
      exact absurd (Int.ofNat_inj.1 h2) hbn
    · omega
def PP.basesOf (P : PP) (n : Nat) : List Int := (P.rulesV.filter fun r => decide (r.kind.toList = bBase.toList) && decide (r.a = (n : Int))).map RV.b
def PP.comesTo (P : PP) (has : List (List Int)) (n : Nat) : List Int := ((P.edgesL has).filter fun e => decide (e.2 = (n : Int))).flatMap fun e => has.getD e.1.toNat []
def PP.roundV (P : PP) (has : List (List Int)) : List (List Int) := (List.range has.length).map fun n => sset (has.getD n [] ++ (P.basesOf n ++ P.comesTo has n))
theorem mem_rulesV {P : PP} {r : RV} : r ∈ P.rulesV ↔ ∃ j, j < P.stmts.length ∧ r = P.ruleV j (P.stAt j) := by
  unfold PP.rulesV PP.rulesUp
  rw [List.mem_map]
  exact ⟨fun ⟨j, hj, e⟩ => ⟨j, List.mem_range.1 hj, e.symm⟩, fun ⟨j, hj, e⟩ => ⟨j, List.mem_range.2 hj, e.symm⟩⟩
theorem placeV_in {P : PP} {k : Nat} (hk : k < P.stmts.length) (hn : P.isNew k = true) : 0 ≤ P.placeV (k : Int) ∧ P.placeV (k : Int) < (P.nodesV : Int) := by
  have h1 : P.newsN (k + 1) = P.newsN k + 1 := by rw [PP.newsN_succ, hn]; rfl
  have h2 : ∀ d, P.newsN (k + 1) ≤ P.newsN (k + 1 + d) := fun d => by
    induction d with
    | zero => exact Nat.le_refl _
    | succ d ih =>
      have h5 := P.newsN_succ (k + 1 + d)
      rw [show k + 1 + (d + 1) = (k + 1 + d) + 1 from rfl]
      split at h5 <;> omega
  have h3 := h2 (P.stmts.length - (k + 1))
  rw [show k + 1 + (P.stmts.length - (k + 1)) = P.stmts.length by omega] at h3
  unfold PP.placeV PP.nodesV
  rw [if_pos ⟨by omega, by omega, by rw [Int.toNat_natCast]; exact hn⟩, Int.toNat_natCast]
  omega
theorem base_b_in {P : PP} (hw : P.Well) {k : Nat} (hk : k < P.stmts.length) (hb : (P.ruleV k (P.stAt k)).kind.toList = bBase.toList) : 0 ≤ (P.ruleV k (P.stAt k)).b ∧ (P.ruleV k (P.stAt k)).b < (P.objectsV : Int) := by
  have h0 := hw.2 k (P.stAt k) hk (stAt_some hk)
  have hg := PP.good h0
  have hnv := nodes_vars P
  have hob : P.objectsV = P.nodesV + P.funs.length := rfl
  have hnew : (P.stAt k).isK kNew = true → P.isNew k = true := fun h => by unfold PP.isNew; rw [stAt_some hk]; exact h
  obtain ⟨x, hx⟩ : ∃ x, x = P.stAt k := ⟨_, rfl⟩
  rw [← hx] at h0 hg hb hnew ⊢
  have hbl := eq_of_beq bBase_list
  rcases kind_cases h0 with g | g | g | g | g | g | g
  · have e : P.ruleV k x = ⟨bBase, x.x, x.y, k, []⟩ := by unfold PP.ruleV; rw [g]; rfl
    have hy := hg.yv (isK_ne g (k' := kFun) rfl) (isK_ne g (k' := kNew) rfl)
    rw [e]
    exact ⟨hy.1, by show x.y < _; omega⟩
  · have e : P.ruleV k x = ⟨x.kind, x.y, x.x, k, []⟩ := by unfold PP.ruleV; rw [isK_ne g (k' := kAddr) rfl, isK_ne g (k' := kNew) rfl, isK_ne g (k' := kFun) rfl, isK_ne g (k' := kCall) rfl]; rfl
    rw [e, hbl] at hb
    have hk' : x.kind.toList = kCopy := eq_of_beq g
    rw [show x.kind.toList = [98, 97, 115, 101] from hb] at hk'
    exact absurd hk' (by decide)
  · have e : P.ruleV k x = ⟨x.kind, x.y, x.x, k, []⟩ := by unfold PP.ruleV; rw [isK_ne g (k' := kAddr) rfl, isK_ne g (k' := kNew) rfl, isK_ne g (k' := kFun) rfl, isK_ne g (k' := kCall) rfl]; rfl
    rw [e, hbl] at hb
    have hk' : x.kind.toList = kLoad := eq_of_beq g
    rw [show x.kind.toList = [98, 97, 115, 101] from hb] at hk'
    exact absurd hk' (by decide)
  · have e : P.ruleV k x = ⟨x.kind, x.y, x.x, k, []⟩ := by unfold PP.ruleV; rw [isK_ne g (k' := kAddr) rfl, isK_ne g (k' := kNew) rfl, isK_ne g (k' := kFun) rfl, isK_ne g (k' := kCall) rfl]; rfl
    rw [e, hbl] at hb
    have hk' : x.kind.toList = kStore := eq_of_beq g
    rw [show x.kind.toList = [98, 97, 115, 101] from hb] at hk'
    exact absurd hk' (by decide)
  · have e : P.ruleV k x = ⟨bBase, x.x, P.placeV k, k, []⟩ := by unfold PP.ruleV; rw [isK_ne g (k' := kAddr) rfl, g]; rfl
    have hp := placeV_in hk (hnew g)
    rw [e]
    exact ⟨hp.1, by show P.placeV k < _; omega⟩
  · have e : P.ruleV k x = ⟨bBase, x.x, (P.nodesV : Int) + x.y, k, []⟩ := by unfold PP.ruleV; rw [isK_ne g (k' := kAddr) rfl, isK_ne g (k' := kNew) rfl, g]; rfl
    have hy := hg.yf g
    rw [e]
    exact ⟨by show 0 ≤ (P.nodesV : Int) + x.y; omega, by show (P.nodesV : Int) + x.y < _; omega⟩
  · have e : P.ruleV k x = ⟨bCall, x.y, x.x, k, x.args⟩ := by unfold PP.ruleV; rw [isK_ne g (k' := kAddr) rfl, isK_ne g (k' := kNew) rfl, isK_ne g (k' := kFun) rfl, g]; rfl
    rw [e, hbl, show (RV.mk bCall x.y x.x k x.args).kind.toList = [99, 97, 108, 108] from eq_of_beq bCall_list] at hb
    exact absurd hb (by decide)
theorem mem_basesOf {P : PP} {n : Nat} {x : Int} : x ∈ P.basesOf n ↔ ∃ j, j < P.stmts.length ∧ P.baseAt j n x := by
  unfold PP.basesOf
  rw [List.mem_map]
  constructor
  · rintro ⟨r, hr, rfl⟩
    obtain ⟨h1, h2⟩ := List.mem_filter.1 hr
    obtain ⟨j, hj, rfl⟩ := mem_rulesV.1 h1
    rw [Bool.and_eq_true, decide_eq_true_iff, decide_eq_true_iff] at h2
    exact ⟨j, hj, h2.1, h2.2, rfl⟩
  · rintro ⟨j, hj, h1, h2, h3⟩
    exact ⟨_, List.mem_filter.2 ⟨mem_rulesV.2 ⟨j, hj, rfl⟩, by rw [Bool.and_eq_true, decide_eq_true_iff, decide_eq_true_iff]; exact ⟨h1, h2⟩⟩, h3⟩
theorem mem_comesTo {P : PP} {has : List (List Int)} {n : Nat} {x : Int} : x ∈ P.comesTo has n ↔ ∃ (i : Nat) (e : Int × Int), i < (P.edgesL has).length ∧ (P.edgesL has)[i]? = some e ∧ e.2 = (n : Int) ∧ x ∈ has.getD e.1.toNat [] := by
  unfold PP.comesTo
  rw [List.mem_flatMap]
  constructor
  · rintro ⟨e, he, hx⟩
    obtain ⟨h1, h2⟩ := List.mem_filter.1 he
    obtain ⟨i, hi⟩ := List.mem_iff_getElem?.1 h1
    have hil : i < (P.edgesL has).length := by
      rcases Nat.lt_or_ge i (P.edgesL has).length with h | h
      · exact h
      · rw [List.getElem?_eq_none h] at hi; cases hi
    exact ⟨i, e, hil, hi, of_decide_eq_true h2, hx⟩
  · rintro ⟨i, e, _, hi, h2, hx⟩
    exact ⟨e, List.mem_filter.2 ⟨List.mem_of_getElem? hi, decide_eq_true h2⟩, hx⟩
theorem getD_in {P : PP} {has : List (List Int)} (hs : SetsOk P has) (i : Nat) (x : Int) (hx : x ∈ has.getD i []) : 0 ≤ x ∧ x < (P.objectsV : Int) := by
  rw [List.getD_eq_getElem?_getD] at hx
  cases he : has[i]? with
  | none => rw [he] at hx; cases hx
  | some l =>
    rw [he] at hx
    have hm := List.mem_of_getElem? he
    exact ⟨(hs.inr l hm x hx).1, (hs.ok l hm).2 x hx⟩
theorem round_all_in {P : PP} {has : List (List Int)} (hg : P.GoodS has) (n : Nat) : ∀ x ∈ has.getD n [] ++ (P.basesOf n ++ P.comesTo has n), 0 ≤ x ∧ x < (P.objectsV : Int) := fun x hx => by
  rcases List.mem_append.1 hx with h | h
  · exact getD_in hg.ok n x h
  · rcases List.mem_append.1 h with h | h
    · obtain ⟨j, hj, h1, _, h3⟩ := mem_basesOf.1 h
      have := base_b_in hg.1 hj h1
      rw [h3] at this
      exact this
    · obtain ⟨_, e, _, _, _, h4⟩ := mem_comesTo.1 h
      exact getD_in hg.ok _ x h4
theorem round_in {P : PP} {has : List (List Int)} (hg : P.GoodS has) (n : Nat) : InR (has.getD n [] ++ (P.basesOf n ++ P.comesTo has n)) := fun x hx => by
  have h1 := round_all_in hg n x hx
  have h2 := objects_few hg.1
  omega
theorem roundV_getD {P : PP} {has : List (List Int)} {n : Nat} (hn : n < has.length) : (P.roundV has).getD n [] = sset (has.getD n [] ++ (P.basesOf n ++ P.comesTo has n)) := by
  unfold PP.roundV
  rw [List.getD_eq_getElem?_getD, List.getElem?_map, List.getElem?_range hn, Option.map_some, Option.getD_some]
theorem roundV_len (P : PP) (has : List (List Int)) : (P.roundV has).length = has.length := by unfold PP.roundV; rw [List.length_map, List.length_range]
theorem mem_roundV {P : PP} {has : List (List Int)} (hg : P.GoodS has) {n : Nat} (hn : n < has.length) {x : Int} : x ∈ (P.roundV has).getD n [] ↔ x ∈ has.getD n [] ∨ (∃ j, j < P.stmts.length ∧ P.baseAt j n x) ∨ ∃ (i : Nat) (e : Int × Int), i < (P.edgesL has).length ∧ (P.edgesL has)[i]? = some e ∧ e.2 = (n : Int) ∧ x ∈ has.getD e.1.toNat [] := by
  rw [roundV_getD hn, mem_sset (round_in hg n), List.mem_append, List.mem_append, mem_basesOf, mem_comesTo]
theorem roundV_at {P : PP} {has : List (List Int)} (hg : P.GoodS has) : RoundAt P has (P.edgesL has) P.stmts.length (P.edgesL has).length (P.roundV has) := by
  refine ⟨roundV_len P has, fun l hl => ?_, fun n x hn => mem_roundV hg hn⟩
  unfold PP.roundV at hl
  obtain ⟨n, _, e⟩ := List.mem_map.1 hl
  rw [← e]
  exact chkE_sset _
theorem roundV_good {P : PP} {has : List (List Int)} (hg : P.GoodS has) : P.GoodS (P.roundV has) := by
  refine ⟨hg.1, by rw [roundV_len]; exact hg.2.1, fun l hl => ?_⟩
  unfold PP.roundV at hl
  obtain ⟨n, _, e⟩ := List.mem_map.1 hl
  rw [← e]
  exact setE_of (chkE_sset _) fun x hx => (round_all_in hg n x (mem_sset0.1 hx).1).2
def PP.iterV (P : PP) : Nat → List (List Int)
  | 0 => List.replicate P.nodesV []
  | n + 1 => P.roundV (P.iterV n)
theorem iterV_good {P : PP} (hw : P.Well) : ∀ n, P.GoodS (P.iterV n)
  | 0 => ⟨hw, by simp [PP.iterV], fun l hl => by
    obtain rfl := List.eq_of_mem_replicate hl
    exact setE_of (by decide) fun x hx => by cases hx⟩
  | n + 1 => roundV_good (iterV_good hw n)
theorem roundV_sub {P : PP} {has : List (List Int)} (hg : P.GoodS has) : Sub has (P.roundV has) := fun i x hx => by
  by_cases hi : i < has.length
  · exact (mem_roundV hg hi).2 (.inl hx)
  · rw [List.getD_eq_getElem?_getD, List.getElem?_eq_none (by omega)] at hx
    cases hx
theorem closed_of_round {P : PP} {has : List (List Int)} (hg : P.GoodS has) (h : P.roundV has = has) : ClosedP P has := by
  refine ⟨fun k hk hb => ?_, fun e he hne n hn => ?_⟩
  · have ha := rule_a_in hg.1 hk
    have hnv := nodes_vars P
    have hl := hg.2.1
    have hm : (P.ruleV k (P.stAt k)).b ∈ (P.roundV has).getD (P.ruleV k (P.stAt k)).a.toNat [] := (mem_roundV hg (by omega)).2 (.inr (.inl ⟨k, hk, hb, by omega, rfl⟩))
    rwa [h] at hm
  · obtain ⟨h1, h2, h3, h4⟩ := edges0_in hg.1 hg.ok e he
    have hl := hg.2.1
    obtain ⟨i, hi⟩ := List.mem_iff_getElem?.1 (((edgesL_are hg).mem e).2 ⟨he, hne⟩)
    have hil : i < (P.edgesL has).length := by
      rcases Nat.lt_or_ge i (P.edgesL has).length with g | g
      · exact g
      · rw [List.getElem?_eq_none g] at hi; cases hi
    have hm : n ∈ (P.roundV has).getD e.2.toNat [] := (mem_roundV hg (by omega)).2 (.inr (.inr ⟨i, e, hil, hi, by omega, hn⟩))
    rwa [h] at hm
theorem round_within {P : PP} {has ans : List (List Int)} (hg : P.GoodS has) (ga : P.GoodS ans) (hc : ClosedP P ans) (hs : Sub has ans) : Sub (P.roundV has) ans := fun i x hx => by
  by_cases hi : i < has.length
  · rcases (mem_roundV hg hi).1 hx with h | ⟨j, hj, h1, h2, h3⟩ | ⟨q, e, _, he, h2, h3⟩
    · exact hs i x h
    · have := hc.base j hj h1
      rw [h2, h3, Int.toNat_natCast] at this
      exact this
    · have h0 := ((edgesL_are hg).mem e).1 (List.mem_of_getElem? he)
      have h5 := hc.edge e (edges0_mono hs e h0.1) h0.2 x (hs _ _ h3)
      rw [h2, Int.toNat_natCast] at h5
      exact h5
  · rw [List.getD_eq_getElem?_getD, List.getElem?_eq_none (by rw [roundV_len]; omega)] at hx
    cases hx
theorem iter_within {P : PP} {ans : List (List Int)} (ga : P.GoodS ans) (hc : ClosedP P ans) : ∀ n, Sub (P.iterV n) ans
  | 0 => fun i x hx => by
    rw [List.getD_eq_getElem?_getD] at hx
    unfold PP.iterV at hx
    rw [List.getElem?_replicate] at hx
    split at hx <;> cases hx
  | n + 1 => round_within (iterV_good ga.1 n) ga hc (iter_within ga hc n)
def total (S : List (List Int)) : Nat := (S.map List.length).sum
theorem srt_len : ∀ {a b : List Int}, Srt a → Srt b → (∀ x, x ∈ a → x ∈ b) → a.length ≤ b.length ∧ (a.length = b.length → a = b)
  | [], b, _, _, _ => ⟨Nat.zero_le _, fun h => (List.eq_nil_of_length_eq_zero h.symm).symm⟩
  | x :: a, b, ha, hb, h => by
    obtain ⟨s, t, rfl⟩ := List.append_of_mem (h x List.mem_cons_self)
    have hb' := List.pairwise_append.1 hb
    have hbt := List.pairwise_cons.1 hb'.2.1
    have ih := srt_len ha.tail hbt.2 fun e he => by
      have hlt := ha.head e he
      rcases List.mem_append.1 (h e (List.mem_cons_of_mem _ he)) with g | g
      · have := hb'.2.2 e g x List.mem_cons_self
        omega
      · rcases List.mem_cons.1 g with g | g
        · omega
        · exact g
    rw [List.length_append, List.length_cons, List.length_cons]
    refine ⟨by omega, fun hl => ?_⟩
    have hs : s = [] := List.eq_nil_of_length_eq_zero (by omega)
    subst hs
    rw [List.nil_append, ih.2 (by simp at hl; omega)]
theorem total_sub : ∀ {S T : List (List Int)}, S.length = T.length → (∀ l ∈ S, Srt l) → (∀ l ∈ T, Srt l) → (∀ i x, x ∈ S.getD i [] → x ∈ T.getD i []) → total S ≤ total T ∧ (total S = total T → S = T)
  | [], [], _, _, _, _ => ⟨Nat.le_refl _, fun _ => rfl⟩
  | [], _ :: _, h, _, _, _ => by simp at h
  | _ :: _, [], h, _, _, _ => by simp at h
  | a :: S, b :: T, h, hs, ht, hm => by
    have h1 := srt_len (hs a List.mem_cons_self) (ht b List.mem_cons_self) fun x hx => by simpa using hm 0 x (by simpa using hx)
    have h2 := total_sub (S := S) (T := T) (by simpa using h) (fun l hl => hs l (List.mem_cons_of_mem _ hl)) (fun l hl => ht l (List.mem_cons_of_mem _ hl)) fun i x hx => by simpa using hm (i + 1) x (by simpa using hx)
    have e1 : total (a :: S) = a.length + total S := by unfold total; simp
    have e2 : total (b :: T) = b.length + total T := by unfold total; simp
    rw [e1, e2]
    refine ⟨by omega, fun he => ?_⟩
    rw [h1.2 (by omega), h2.2 (by omega)]
theorem total_few : ∀ {S : List (List Int)}, (∀ l ∈ S, l.length ≤ 1000) → total S ≤ S.length * 1000
  | [], _ => Nat.le_refl _
  | a :: S, h => by
    have h1 := h a List.mem_cons_self
    have h2 := total_few (S := S) fun l hl => h l (List.mem_cons_of_mem _ hl)
    have e1 : total (a :: S) = a.length + total S := by unfold total; simp
    rw [e1, List.length_cons]
    omega
theorem good_srt {P : PP} {has : List (List Int)} (hg : P.GoodS has) : ∀ l ∈ has, Srt l := fun l hl => (chkE_zero.1 (hg.ok.ok l hl).1).2
theorem iter_grows {P : PP} (hw : P.Well) (n : Nat) (h : P.iterV (n + 1) ≠ P.iterV n) : total (P.iterV n) + 1 ≤ total (P.iterV (n + 1)) := by
  have hg := iterV_good hw n
  have hg' := iterV_good hw (n + 1)
  have h1 := total_sub (S := P.iterV n) (T := P.iterV (n + 1)) (roundV_len P _).symm (good_srt hg) (good_srt hg') (roundV_sub hg)
  rcases Nat.lt_or_ge (total (P.iterV n)) (total (P.iterV (n + 1))) with g | g
  · exact g
  · exact absurd (h1.2 (by omega)).symm h
theorem iter_few {P : PP} (hw : P.Well) (n : Nat) : total (P.iterV n) ≤ 120000 := by
  have hg := iterV_good hw n
  have h1 := total_few (S := P.iterV n) fun l hl => srt_few (hg.ok.ok l hl).1
  have h2 := hg.2.1
  have h3 := nodesV_le P hw
  omega
structure LeastAt (P : PP) (n : Nat) (S : List (List Int)) : Prop where
  eq : S = P.iterV n
  fix : P.roundV S = S
  first : ∀ m, m < n → P.roundV (P.iterV m) ≠ P.iterV m
theorem LeastAt.uniq {P : PP} {n m : Nat} {S T : List (List Int)} (h : LeastAt P n S) (g : LeastAt P m T) : n = m ∧ S = T := by
  have hnm : n = m := by
    rcases Nat.lt_trichotomy n m with k | k | k
    · exact absurd (by rw [← h.eq]; exact h.fix) (g.first n k)
    · exact k
    · exact absurd (by rw [← g.eq]; exact g.fix) (h.first m k)
  subst hnm
  exact ⟨rfl, h.eq.trans g.eq.symm⟩
theorem LeastAt.good {P : PP} (hw : P.Well) {n : Nat} {S : List (List Int)} (h : LeastAt P n S) : P.GoodS S := by rw [h.eq]; exact iterV_good hw n
theorem LeastAt.closed {P : PP} (hw : P.Well) {n : Nat} {S : List (List Int)} (h : LeastAt P n S) : ClosedP P S := closed_of_round (h.good hw) h.fix
theorem LeastAt.within {P : PP} {n : Nat} {S ans : List (List Int)} (h : LeastAt P n S) (ga : P.GoodS ans) (hc : ClosedP P ans) : Sub S ans := by rw [h.eq]; exact iter_within ga hc n
structure SV where
  has : List (List Bool)
  edges : List (Int × Int)
  rules : List RV
  wait : List (Int × Int)
def SV.bit (s : SV) (f : Int × Int) : Bool := (s.has.getD f.1.toNat []).getD f.2.toNat false
def SV.objs (s : SV) (n : Int) : List Int := ((List.range (s.has.getD n.toNat []).length).filter fun o => (s.has.getD n.toNat []).getD o false).map fun o : Nat => (o : Int)
def SV.succ (s : SV) (n : Int) : List Int := (s.edges.filter fun e => decide (e.1 = n)).map (·.2)
def SV.edge (s : SV) (e : Int × Int) : SV := if e.1 = e.2 ∨ e ∈ s.edges then s else { s with edges := s.edges ++ [e], wait := s.wait ++ (s.objs e.1).map fun o => (e.2, o) }
def PP.fires (P : PP) (r : RV) (o : Int) : List (Int × Int) :=
  bif r.kind.toList == kCall then P.callsOf r o else
  if (P.nodesV : Int) ≤ o then [] else bif r.kind.toList == kLoad then [(o, r.b)] else [(r.a, o)]
def RV.pivot (r : RV) : Int := bif r.kind.toList == kStore then r.b else r.a
def RV.fired (r : RV) : Bool := (r.kind.toList == kLoad) || (r.kind.toList == kStore) || (r.kind.toList == kCall)
def SV.fire (P : PP) (s : SV) (r : RV) (o : Int) : SV := (P.fires r o).foldl SV.edge s
def SV.add (P : PP) (s : SV) (r : RV) : SV :=
  bif r.kind.toList == bBase.toList then { s with rules := s.rules ++ [r], wait := s.wait ++ [(r.a, r.b)] } else
  bif r.kind.toList == kCopy then SV.edge { s with rules := s.rules ++ [r] } (r.a, r.b) else
  (s.objs r.pivot).foldl (fun s o => s.fire P r o) { s with rules := s.rules ++ [r] }
def SV.mark (s : SV) (f : Int × Int) : SV := { s with has := s.has.set f.1.toNat ((s.has.getD f.1.toNat []).set f.2.toNat true) }
def SV.came (P : PP) (s : SV) (f : Int × Int) : SV :=
  s.rules.foldl (fun s r => bif r.fired && decide (r.pivot = f.1) then s.fire P r f.2 else s) { s with wait := s.wait ++ (s.succ f.1).map fun t => (t, f.2) }
def SV.clean (s : SV) : SV := { s with wait := s.wait.dropWhile s.bit }
structure Core (P : PP) (S : List (List Int)) (s : SV) : Prop where
  len : s.has.length = P.nodesV
  row : ∀ l ∈ s.has, l.length = P.objectsV
  wait : ∀ f ∈ s.wait, (0 ≤ f.1 ∧ f.1 < P.nodesV) ∧ f.2 ∈ S.getD f.1.toNat []
  bit : ∀ f : Int × Int, s.bit f = true → 0 ≤ f.2 → f.2 ∈ S.getD f.1.toNat []
  edge : ∀ e ∈ s.edges, (0 ≤ e.1 ∧ e.1 < P.nodesV) ∧ (0 ≤ e.2 ∧ e.2 < P.nodesV) ∧ ∀ o ∈ S.getD e.1.toNat [], o ∈ S.getD e.2.toNat []
  along : ∀ e ∈ s.edges, ∀ o, 0 ≤ o → s.bit (e.1, o) = true → s.bit (e.2, o) = true ∨ (e.2, o) ∈ s.wait
  base : ∀ r ∈ s.rules, r.kind.toList = bBase.toList → s.bit (r.a, r.b) = true ∨ (r.a, r.b) ∈ s.wait
  copy : ∀ r ∈ s.rules, r.kind.toList = kCopy → r.a = r.b ∨ (r.a, r.b) ∈ s.edges
def SV.told (P : PP) (s : SV) (r : RV) (o : Int) : Prop := ∀ e ∈ P.fires r o, e.1 = e.2 ∨ e ∈ s.edges
def SndE (P : PP) (S : List (List Int)) (e : Int × Int) : Prop := (0 ≤ e.1 ∧ e.1 < P.nodesV) ∧ (0 ≤ e.2 ∧ e.2 < P.nodesV) ∧ ∀ o ∈ S.getD e.1.toNat [], o ∈ S.getD e.2.toNat []
theorem mem_objs {s : SV} {n o : Int} : o ∈ s.objs n ↔ 0 ≤ o ∧ s.bit (n, o) = true := by
  unfold SV.objs SV.bit
  rw [List.mem_map]
  constructor
  · rintro ⟨k, hk, rfl⟩
    obtain ⟨h1, h2⟩ := List.mem_filter.1 hk
    exact ⟨by omega, by simpa using h2⟩
  · rintro ⟨h0, h⟩
    obtain ⟨k, rfl⟩ := Int.eq_ofNat_of_zero_le h0
    refine ⟨k, List.mem_filter.2 ⟨List.mem_range.2 ?_, by simpa using h⟩, rfl⟩
    rcases Nat.lt_or_ge k (s.has.getD n.toNat []).length with g | g
    · exact g
    · have : (s.has.getD n.toNat []).getD k false = false := by rw [List.getD_eq_getElem?_getD, List.getElem?_eq_none g]; rfl
      simp only [Int.toNat_natCast] at h
      rw [this] at h; cases h
theorem edge_has (s : SV) (e : Int × Int) : (s.edge e).has = s.has := by unfold SV.edge; split <;> rfl
theorem edge_rules (s : SV) (e : Int × Int) : (s.edge e).rules = s.rules := by unfold SV.edge; split <;> rfl
theorem edge_bit (s : SV) (e f : Int × Int) : (s.edge e).bit f = s.bit f := by unfold SV.bit; rw [edge_has]
theorem edge_more {s : SV} {e g : Int × Int} (h : g ∈ s.edges) : g ∈ (s.edge e).edges := by
  unfold SV.edge
  split
  · exact h
  · exact List.mem_append_left _ h
theorem edge_in (s : SV) (e : Int × Int) : e.1 = e.2 ∨ e ∈ (s.edge e).edges := by
  unfold SV.edge
  split
  · assumption
  · exact .inr (List.mem_append_right _ (List.mem_singleton.2 rfl))
theorem Core.edgeTo {P : PP} {S : List (List Int)} {s : SV} (h : Core P S s) {e : Int × Int} (he : SndE P S e) : Core P S (s.edge e) := by
  unfold SV.edge
  by_cases hc : e.1 = e.2 ∨ e ∈ s.edges
  · rw [if_pos hc]; exact h
  · rw [if_neg hc]
    refine ⟨h.len, h.row, fun f hf => ?_, h.bit, fun g hg => ?_, fun g hg o h0 hb => ?_, fun r hr hk => ?_, fun r hr hk => ?_⟩
    · rcases List.mem_append.1 hf with hf | hf
      · exact h.wait f hf
      · obtain ⟨o, ho, rfl⟩ := List.mem_map.1 hf
        obtain ⟨h0, hb⟩ := mem_objs.1 ho
        exact ⟨he.2.1, he.2.2 o (h.bit (e.1, o) hb h0)⟩
    · rcases List.mem_append.1 hg with hg | hg
      · exact h.edge g hg
      · obtain rfl := List.mem_singleton.1 hg
        exact he
    · have hb : s.bit (g.1, o) = true := hb
      show s.bit (g.2, o) = true ∨ (g.2, o) ∈ s.wait ++ _
      rcases List.mem_append.1 hg with hg | hg
      · exact (h.along g hg o h0 hb).imp id fun k => List.mem_append_left _ k
      · obtain rfl := List.mem_singleton.1 hg
        exact .inr (List.mem_append_right _ (List.mem_map.2 ⟨o, mem_objs.2 ⟨h0, hb⟩, rfl⟩))
    · exact (h.base r hr hk).imp id fun k => List.mem_append_left _ k
    · exact (h.copy r hr hk).imp id fun k => List.mem_append_left _ k
theorem edges_fold {P : PP} {S : List (List Int)} : ∀ (l : List (Int × Int)) {s : SV}, Core P S s → (∀ e ∈ l, SndE P S e) →
    Core P S (l.foldl SV.edge s) ∧ (l.foldl SV.edge s).has = s.has ∧ (l.foldl SV.edge s).rules = s.rules ∧ (∀ g ∈ s.edges, g ∈ (l.foldl SV.edge s).edges) ∧ ∀ e ∈ l, e.1 = e.2 ∨ e ∈ (l.foldl SV.edge s).edges
  | [], s, h, _ => ⟨h, rfl, rfl, fun _ hg => hg, fun _ he => by cases he⟩
  | e :: l, s, h, hs => by
    obtain ⟨k1, k2, k3, k4, k5⟩ := edges_fold l (h.edgeTo (hs e List.mem_cons_self)) fun g hg => hs g (List.mem_cons_of_mem _ hg)
    refine ⟨k1, k2.trans (edge_has s e), k3.trans (edge_rules s e), fun g hg => k4 g (edge_more hg), fun g hg => ?_⟩
    rcases List.mem_cons.1 hg with rfl | hg
    · exact (edge_in s g).imp id fun k => k4 _ k
    · exact k5 g hg
theorem fires_in {P : PP} {S : List (List Int)} {r : RV} {o : Int} (hf : r.fired = true) (ho : o ∈ S.getD r.pivot.toNat []) {e : Int × Int} (he : e ∈ P.fires r o) : e ∈ P.redges r S := by
  unfold PP.fires at he
  unfold RV.pivot at ho
  unfold RV.fired at hf
  unfold PP.redges
  cases h3 : (r.kind.toList == kCall) with
  | true =>
    have e1 := eq_of_beq h3
    have h0 : (r.kind.toList == kCopy) = false := by rw [e1]; decide
    have h1 : (r.kind.toList == kLoad) = false := by rw [e1]; decide
    have h2 : (r.kind.toList == kStore) = false := by rw [e1]; decide
    rw [h3, cond_true] at he
    rw [h2, cond_false] at ho
    rw [h0, h1, h2, cond_false, cond_false, cond_false, cond_true]
    exact List.mem_flatMap.2 ⟨o, ho, he⟩
  | false =>
    rw [h3, cond_false] at he
    have hn : o < P.nodesV := by
      by_cases g : (P.nodesV : Int) ≤ o
      · rw [if_pos g] at he; cases he
      · omega
    rw [if_neg (by omega)] at he
    have hno : o ∈ S.getD r.pivot.toNat [] := ho
    cases h1 : (r.kind.toList == kLoad) with
    | true =>
      have e1 := eq_of_beq h1
      have h0 : (r.kind.toList == kCopy) = false := by rw [e1]; decide
      have h2 : (r.kind.toList == kStore) = false := by rw [e1]; decide
      rw [h1, cond_true] at he
      rw [h2, cond_false] at ho
      rw [h0, cond_false, cond_true]
      refine List.mem_map.2 ⟨o, List.mem_filter.2 ⟨ho, by rw [decide_eq_false (by omega)]; rfl⟩, (List.mem_singleton.1 he).symm⟩
    | false =>
      rw [h1, h3] at hf
      cases h2 : (r.kind.toList == kStore) with
      | false => rw [h2] at hf; cases hf
      | true =>
        have e1 := eq_of_beq h2
        have h0 : (r.kind.toList == kCopy) = false := by rw [e1]; decide
        rw [h1, cond_false] at he
        rw [h2, cond_true] at ho
        rw [h0, cond_false, cond_false, cond_true]
        exact List.mem_map.2 ⟨o, List.mem_filter.2 ⟨ho, by rw [decide_eq_false (by omega)]; rfl⟩, (List.mem_singleton.1 he).symm⟩
theorem sndE_of {P : PP} {S : List (List Int)} (hg : P.GoodS S) (hc : ClosedP P S) {r : RV} (hr : r ∈ P.rulesV) {e : Int × Int} (he : e ∈ P.redges r S) : SndE P S e := by
  have h0 : e ∈ P.edges0 S := List.mem_flatMap.2 ⟨r, hr, he⟩
  obtain ⟨h1, h2, h3, h4⟩ := edges0_in hg.1 hg.ok e h0
  have hl := hg.2.1
  refine ⟨⟨by omega, by omega⟩, ⟨by omega, by omega⟩, ?_⟩
  by_cases k : e.1 = e.2
  · rw [k]; exact fun _ h => h
  · exact hc.edge e h0 k
structure Full (P : PP) (S : List (List Int)) (s : SV) : Prop where
  core : Core P S s
  of : ∀ r ∈ s.rules, r ∈ P.rulesV
  told : ∀ r ∈ s.rules, r.fired = true → ∀ o, 0 ≤ o → s.bit (r.pivot, o) = true → s.told P r o
theorem Core.fire {P : PP} {S : List (List Int)} {s : SV} (hg : P.GoodS S) (hc : ClosedP P S) (h : Core P S s) {r : RV} (hr : r ∈ P.rulesV) (hf : r.fired = true) {o : Int} (ho : o ∈ S.getD r.pivot.toNat []) :
    Core P S (s.fire P r o) ∧ (s.fire P r o).has = s.has ∧ (s.fire P r o).rules = s.rules ∧ (∀ g ∈ s.edges, g ∈ (s.fire P r o).edges) ∧ (s.fire P r o).told P r o :=
  edges_fold _ h fun _ he => sndE_of hg hc hr (fires_in hf ho he)
theorem told_more {P : PP} {s t : SV} (hm : ∀ g ∈ s.edges, g ∈ t.edges) {r : RV} {o : Int} (h : s.told P r o) : t.told P r o := fun e he => (h e he).imp id fun k => hm e k
theorem bit_has {s t : SV} (h : t.has = s.has) (f : Int × Int) : t.bit f = s.bit f := by unfold SV.bit; rw [h]
theorem objs_has {s t : SV} (h : t.has = s.has) (n : Int) : t.objs n = s.objs n := by unfold SV.objs; rw [h]
theorem fires_fold {P : PP} {S : List (List Int)} (hg : P.GoodS S) (hc : ClosedP P S) {f : Int × Int} (hf : f.2 ∈ S.getD f.1.toNat []) : ∀ (l : List RV) {s : SV}, Core P S s → (∀ r ∈ l, r ∈ P.rulesV) →
    let t := l.foldl (fun s r => bif r.fired && decide (r.pivot = f.1) then s.fire P r f.2 else s) s
    Core P S t ∧ t.has = s.has ∧ t.rules = s.rules ∧ (∀ g ∈ s.edges, g ∈ t.edges) ∧ ∀ r ∈ l, r.fired = true → r.pivot = f.1 → t.told P r f.2
  | [], s, h, _ => ⟨h, rfl, rfl, fun _ hg => hg, fun _ he => by cases he⟩
  | r :: l, s, h, hs => by
    have step : Core P S (bif r.fired && decide (r.pivot = f.1) then s.fire P r f.2 else s) ∧ (bif r.fired && decide (r.pivot = f.1) then s.fire P r f.2 else s).has = s.has ∧ (bif r.fired && decide (r.pivot = f.1) then s.fire P r f.2 else s).rules = s.rules ∧ (∀ g ∈ s.edges, g ∈ (bif r.fired && decide (r.pivot = f.1) then s.fire P r f.2 else s).edges) ∧ (r.fired = true → r.pivot = f.1 → (bif r.fired && decide (r.pivot = f.1) then s.fire P r f.2 else s).told P r f.2) := by
      cases h1 : (r.fired && decide (r.pivot = f.1)) with
      | false =>
        refine ⟨h, rfl, rfl, fun _ k => k, fun k1 k2 => ?_⟩
        rw [k1, decide_eq_true k2] at h1; cases h1
      | true =>
        rw [Bool.and_eq_true] at h1
        have hp := of_decide_eq_true h1.2
        obtain ⟨k1, k2, k3, k4, k5⟩ := h.fire hg hc (hs r List.mem_cons_self) h1.1 (o := f.2) (by rw [hp]; exact hf)
        exact ⟨k1, k2, k3, k4, fun _ _ => k5⟩
    obtain ⟨k1, k2, k3, k4, k5⟩ := step
    obtain ⟨j1, j2, j3, j4, j5⟩ := fires_fold hg hc hf l k1 fun g hg => hs g (List.mem_cons_of_mem _ hg)
    refine ⟨j1, j2.trans k2, j3.trans k3, fun g hg => j4 g (k4 g hg), fun q hq h1 h2 => ?_⟩
    rcases List.mem_cons.1 hq with rfl | hq
    · exact told_more j4 (k5 h1 h2)
    · exact j5 q hq h1 h2
theorem getD_set2 (l : List (List Bool)) (i n : Nat) (v : List Bool) (hn : n < l.length) : (l.set n v).getD i [] = if n = i then v else l.getD i [] := by
  rw [List.getD_eq_getElem?_getD, List.getElem?_set]
  by_cases h : n = i
  · subst h; rw [if_pos rfl, if_pos hn, if_pos rfl]; rfl
  · rw [if_neg h, if_neg h, List.getD_eq_getElem?_getD]
theorem mark_bit {s : SV} {f g : Int × Int} (hf : 0 ≤ f.1 ∧ f.1.toNat < s.has.length) (h2 : 0 ≤ f.2 ∧ f.2.toNat < (s.has.getD f.1.toNat []).length) (hg1 : 0 ≤ g.1) (hg2 : 0 ≤ g.2) : (s.mark f).bit g = true ↔ g = f ∨ s.bit g = true := by
  unfold SV.bit SV.mark
  rw [getD_set2 _ _ _ _ hf.2]
  by_cases h1 : f.1.toNat = g.1.toNat
  · have e1 : f.1 = g.1 := by omega
    rw [if_pos h1, List.getD_eq_getElem?_getD, List.getElem?_set]
    by_cases h3 : f.2.toNat = g.2.toNat
    · have e2 : f.2 = g.2 := by omega
      rw [if_pos h3, if_pos h2.2]
      exact ⟨fun _ => .inl (Prod.ext e1.symm e2.symm), fun _ => rfl⟩
    · rw [if_neg h3, h1]
      refine ⟨fun h => .inr (by rw [List.getD_eq_getElem?_getD]; exact h), fun h => ?_⟩
      rcases h with rfl | h
      · exact absurd rfl h3
      · rw [List.getD_eq_getElem?_getD] at h; exact h
  · rw [if_neg h1]
    refine ⟨.inr, fun h => ?_⟩
    rcases h with rfl | h
    · exact absurd rfl h1
    · exact h
theorem pivot_in {P : PP} (hw : P.Well) {k : Nat} (hk : k < P.stmts.length) (hf : (P.ruleV k (P.stAt k)).fired = true) : 0 ≤ (P.ruleV k (P.stAt k)).pivot := by
  have hgd := PP.good (hw.2 k (P.stAt k) hk (stAt_some hk))
  have ha := rule_a_in hw hk
  unfold RV.pivot
  cases h : ((P.ruleV k (P.stAt k)).kind.toList == kStore) with
  | false => exact ha.1
  | true =>
    rw [cond_true]
    have hb := eq_of_beq bBase_list
    have hk1 := eq_of_beq h
    unfold PP.ruleV at hk1 ⊢
    cases h1 : (P.stAt k).isK kAddr with
    | true => rw [h1, cond_true] at hk1; rw [show (bBase.toList = kStore) = False from by rw [hb]; exact eq_false (by decide)] at hk1; exact hk1.elim
    | false =>
    cases h2 : (P.stAt k).isK kNew with
    | true => rw [h1, h2, cond_false, cond_true] at hk1; rw [show (bBase.toList = kStore) = False from by rw [hb]; exact eq_false (by decide)] at hk1; exact hk1.elim
    | false =>
    cases h3 : (P.stAt k).isK kFun with
    | true => rw [h1, h2, h3, cond_false, cond_false, cond_true] at hk1; rw [show (bBase.toList = kStore) = False from by rw [hb]; exact eq_false (by decide)] at hk1; exact hk1.elim
    | false =>
    cases h4 : (P.stAt k).isK kCall with
    | true => exact hgd.gx.1
    | false => exact hgd.gx.1
theorem Full.marked {P : PP} {S : List (List Int)} {s : SV} (hg : P.GoodS S) (h : Full P S s) {f : Int × Int} (hf : (0 ≤ f.1 ∧ f.1 < P.nodesV) ∧ f.2 ∈ S.getD f.1.toNat []) (h2 : 0 ≤ f.2 ∧ f.2 < P.objectsV) :
    Core P S ({ s.mark f with wait := (s.mark f).wait ++ ((s.mark f).succ f.1).map fun t => (t, f.2) } : SV) := by
  have hl1 : f.1.toNat < s.has.length := by rw [h.core.len]; omega
  have hrow : (s.has.getD f.1.toNat []).length = P.objectsV := by
    rw [List.getD_eq_getElem?_getD, List.getElem?_eq_getElem hl1]
    exact h.core.row _ (List.getElem_mem hl1)
  have hmb := fun (g : Int × Int) (g1 : 0 ≤ g.1) (g2 : 0 ≤ g.2) => mark_bit (s := s) (f := f) (g := g) ⟨hf.1.1, hl1⟩ ⟨h2.1, by rw [hrow]; omega⟩ g1 g2
  obtain ⟨t, ht⟩ : ∃ t, t = ({ s.mark f with wait := (s.mark f).wait ++ ((s.mark f).succ f.1).map fun t => (t, f.2) } : SV) := ⟨_, rfl⟩
  have hth : t.has = (s.mark f).has := by rw [ht]
  have hte : t.edges = s.edges := by rw [ht]; rfl
  have htr : t.rules = s.rules := by rw [ht]; rfl
  have htw : t.wait = s.wait ++ (s.succ f.1).map fun t => (t, f.2) := by rw [ht]; rfl
  have htb : ∀ g : Int × Int, t.bit g = (s.mark f).bit g := bit_has hth
  rw [← ht]
  refine ⟨?_, fun l hl => ?_, fun g hw => ?_, fun g hb g0 => ?_, fun e he => ?_, fun e he o h0 hb => ?_, fun r hr hk => ?_, fun r hr hk => ?_⟩
  · rw [hth]; unfold SV.mark; rw [List.length_set]; exact h.core.len
  · rw [hth] at hl
    rcases List.mem_or_eq_of_mem_set hl with hl | rfl
    · exact h.core.row l hl
    · rw [List.length_set]; exact hrow
  · rw [htw] at hw
    rcases List.mem_append.1 hw with hw | hw
    · exact h.core.wait g hw
    · obtain ⟨q, hq, rfl⟩ := List.mem_map.1 hw
      unfold SV.succ at hq
      obtain ⟨e, he, rfl⟩ := List.mem_map.1 hq
      obtain ⟨he, h1⟩ := List.mem_filter.1 he
      have h1 := of_decide_eq_true h1
      obtain ⟨_, k2, k3⟩ := h.core.edge e he
      rw [h1] at k3
      exact ⟨k2, k3 f.2 hf.2⟩
  · rw [htb] at hb
    by_cases g1 : 0 ≤ g.1
    · rcases (hmb g g1 g0).1 hb with rfl | hb
      · exact hf.2
      · exact h.core.bit g hb g0
    · -- a negative node: its place is the first one's
      have e : g.1.toNat = (0 : Int).toNat := by omega
      have hb' : (s.mark f).bit (0, g.2) = true := by unfold SV.bit at hb ⊢; rw [e] at hb; exact hb
      rw [e]
      rcases (hmb (0, g.2) (Int.le_refl 0) g0).1 hb' with k | k
      · have := hf.2; rw [← k] at this; exact this
      · exact h.core.bit (0, g.2) k g0
  · rw [hte] at he; exact h.core.edge e he
  · rw [hte] at he
    obtain ⟨k1, k2, _⟩ := h.core.edge e he
    rw [htb] at hb ⊢
    rw [htw]
    rcases (hmb (e.1, o) k1.1 h0).1 hb with k | k
    · refine .inr (List.mem_append_right _ (List.mem_map.2 ⟨e.2, ?_, by rw [← k]⟩))
      unfold SV.succ
      refine List.mem_map.2 ⟨e, List.mem_filter.2 ⟨he, decide_eq_true ?_⟩, rfl⟩
      rw [← k]
    · rcases h.core.along e he o h0 k with k | k
      · exact .inl ((hmb (e.2, o) k2.1 h0).2 (.inr k))
      · exact .inr (List.mem_append_left _ k)
  · rw [htr] at hr
    rw [htb, htw]
    have hrv := h.of r hr
    rcases h.core.base r hr hk with k | k
    · refine .inl ?_
      obtain ⟨i, hi, rfl⟩ := List.mem_map.1 hrv
      have hi := List.mem_range.1 hi
      exact (hmb _ (rule_a_in hg.1 hi).1 (base_b_in hg.1 hi hk).1).2 (.inr k)
    · exact .inr (List.mem_append_left _ k)
  · rw [htr] at hr; rw [hte]; exact h.core.copy r hr hk
theorem Full.came {P : PP} {S : List (List Int)} {s : SV} (hg : P.GoodS S) (hc : ClosedP P S) (h : Full P S s) {f : Int × Int} (hf : (0 ≤ f.1 ∧ f.1 < P.nodesV) ∧ f.2 ∈ S.getD f.1.toNat []) (h2 : 0 ≤ f.2 ∧ f.2 < P.objectsV) :
    Full P S ((s.mark f).came P f) ∧ ((s.mark f).came P f).has = (s.mark f).has ∧ ((s.mark f).came P f).rules = s.rules := by
  have hl1 : f.1.toNat < s.has.length := by rw [h.core.len]; omega
  have hrow : (s.has.getD f.1.toNat []).length = P.objectsV := by
    rw [List.getD_eq_getElem?_getD, List.getElem?_eq_getElem hl1]
    exact h.core.row _ (List.getElem_mem hl1)
  have hmb := fun (g : Int × Int) (g1 : 0 ≤ g.1) (g2 : 0 ≤ g.2) => mark_bit (s := s) (f := f) (g := g) ⟨hf.1.1, hl1⟩ ⟨h2.1, by rw [hrow]; omega⟩ g1 g2
  obtain ⟨t, ht⟩ : ∃ t, t = ({ s.mark f with wait := (s.mark f).wait ++ ((s.mark f).succ f.1).map fun t => (t, f.2) } : SV) := ⟨_, rfl⟩
  have hth : t.has = (s.mark f).has := by rw [ht]
  have hte : t.edges = s.edges := by rw [ht]; rfl
  have htr : t.rules = s.rules := by rw [ht]; rfl
  have htw : t.wait = s.wait ++ (s.succ f.1).map fun t => (t, f.2) := by rw [ht]; rfl
  have htb : ∀ g : Int × Int, t.bit g = (s.mark f).bit g := bit_has hth
  have hcore : Core P S t := by rw [ht]; exact h.marked hg hf h2
  obtain ⟨k1, k2, k3, k4, k5⟩ := fires_fold hg hc hf.2 t.rules hcore fun r hr => by rw [htr] at hr; exact h.of r hr
  have hce : (s.mark f).came P f = t.rules.foldl (fun s r => bif r.fired && decide (r.pivot = f.1) then s.fire P r f.2 else s) t := by rw [ht]; rfl
  rw [hce]
  refine ⟨⟨k1, fun r hr => by rw [k3, htr] at hr; exact h.of r hr, fun r hr hfd o h0 hb => ?_⟩, k2.trans hth, k3.trans htr⟩
  rw [k3] at hr
  rw [bit_has k2, htb] at hb
  have hr' := hr
  rw [htr] at hr'
  have hp0 : 0 ≤ r.pivot := by
    obtain ⟨i, hi, rfl⟩ := List.mem_map.1 (h.of r hr')
    exact pivot_in hg.1 (List.mem_range.1 hi) hfd
  rcases (hmb (r.pivot, o) hp0 h0).1 hb with k | k
  · have e1 : r.pivot = f.1 := by rw [← k]
    have e2 : o = f.2 := by rw [← k]
    rw [e2]
    exact k5 r hr hfd e1
  · exact told_more (fun g hg => k4 g (by rw [hte]; exact hg)) (h.told r hr' hfd o h0 k)
theorem mem_dropWhile_or {α : Type} {p : α → Bool} : ∀ {l : List α} {x : α}, x ∈ l → x ∈ l.dropWhile p ∨ p x = true
  | y :: l, x, h => by
    cases hy : p y with
    | false => rw [List.dropWhile_cons, hy]; exact .inl h
    | true =>
      rw [List.dropWhile_cons, hy]
      rcases List.mem_cons.1 h with rfl | h
      · exact .inr hy
      · exact mem_dropWhile_or h
theorem mem_of_dropWhile {α : Type} {p : α → Bool} : ∀ {l : List α} {x : α}, x ∈ l.dropWhile p → x ∈ l
  | y :: l, x, h => by
    rw [List.dropWhile_cons] at h
    split at h
    · exact List.mem_cons_of_mem _ (mem_of_dropWhile h)
    · exact h
theorem dropWhile_head {α : Type} {p : α → Bool} : ∀ {l : List α} {x : α} {r : List α}, l.dropWhile p = x :: r → p x = false
  | y :: l, x, r, h => by
    rw [List.dropWhile_cons] at h
    split at h
    · exact dropWhile_head h
    · next hy =>
      obtain ⟨rfl, _⟩ := List.cons.inj h
      exact eq_false_of_ne_true hy
theorem Full.cleaned {P : PP} {S : List (List Int)} {s : SV} (h : Full P S s) : Full P S s.clean := by
  have k := h.core
  refine ⟨⟨k.len, k.row, fun f hf => k.wait f (mem_of_dropWhile hf), k.bit, k.edge, fun e he o h0 hb => ?_, fun r hr hk => ?_, k.copy⟩, h.of, h.told⟩
  · rcases k.along e he o h0 hb with g | g
    · exact .inl g
    · rcases mem_dropWhile_or (p := s.bit) g with g | g
      · exact .inr g
      · exact .inl g
  · rcases k.base r hr hk with g | g
    · exact .inl g
    · rcases mem_dropWhile_or (p := s.bit) g with g | g
      · exact .inr g
      · exact .inl g
theorem fires_objs {P : PP} {S : List (List Int)} (hg : P.GoodS S) (hc : ClosedP P S) {r : RV} (hr : r ∈ P.rulesV) (hf : r.fired = true) : ∀ (l : List Int) {s : SV}, Core P S s → (∀ o ∈ l, o ∈ S.getD r.pivot.toNat []) →
    let t := l.foldl (fun s o => s.fire P r o) s
    Core P S t ∧ t.has = s.has ∧ t.rules = s.rules ∧ (∀ g ∈ s.edges, g ∈ t.edges) ∧ ∀ o ∈ l, t.told P r o
  | [], s, h, _ => ⟨h, rfl, rfl, fun _ hg => hg, fun _ he => by cases he⟩
  | o :: l, s, h, hs => by
    obtain ⟨k1, k2, k3, k4, k5⟩ := h.fire hg hc hr hf (hs o List.mem_cons_self)
    obtain ⟨j1, j2, j3, j4, j5⟩ := fires_objs hg hc hr hf l k1 fun q hq => hs q (List.mem_cons_of_mem _ hq)
    refine ⟨j1, j2.trans k2, j3.trans k3, fun g hg => j4 g (k4 g hg), fun q hq => ?_⟩
    rcases List.mem_cons.1 hq with rfl | hq
    · exact told_more j4 k5
    · exact j5 q hq
theorem fired_kinds {r : RV} (h : r.fired = true) : r.kind.toList ≠ bBase.toList ∧ r.kind.toList ≠ kCopy := by
  have hb := eq_of_beq bBase_list
  rw [hb]
  unfold RV.fired at h
  rw [Bool.or_eq_true, Bool.or_eq_true] at h
  rcases h with (h | h) | h <;> rw [eq_of_beq h] <;> decide
theorem rule_kinds {P : PP} (hw : P.Well) {r : RV} (hr : r ∈ P.rulesV) : r.kind.toList = bBase.toList ∨ r.kind.toList = kCopy ∨ r.fired = true := by
  obtain ⟨k, hk, rfl⟩ := List.mem_map.1 hr
  have hk := List.mem_range.1 hk
  have h0 := hw.2 k (P.stAt k) hk (stAt_some hk)
  unfold PP.ruleV
  cases h1 : (P.stAt k).isK kAddr with
  | true => exact .inl rfl
  | false =>
  cases h2 : (P.stAt k).isK kNew with
  | true => exact .inl rfl
  | false =>
  cases h3 : (P.stAt k).isK kFun with
  | true => exact .inl rfl
  | false =>
  cases h4 : (P.stAt k).isK kCall with
  | true =>
    refine .inr (.inr ?_)
    show RV.fired ⟨bCall, _, _, _, _⟩ = true
    have hb : bCall.toList = kCall := by decide +kernel
    unfold RV.fired
    simp only [hb]
    decide
  | false =>
    show _ ∨ (P.stAt k).kind.toList = kCopy ∨ RV.fired ⟨(P.stAt k).kind, _, _, _, _⟩ = true
    rcases kind_cases h0 with h | h | h | h | h | h | h
    · rw [h1] at h; cases h
    · exact .inr (.inl (eq_of_beq h))
    · have h := eq_of_beq h
      exact .inr (.inr (by unfold RV.fired; simp only [h]; decide))
    · have h := eq_of_beq h
      exact .inr (.inr (by unfold RV.fired; simp only [h]; decide))
    · rw [h2] at h; cases h
    · rw [h3] at h; cases h
    · rw [h4] at h; cases h
theorem Full.added {P : PP} {S : List (List Int)} {s : SV} (hg : P.GoodS S) (hc : ClosedP P S) (h : Full P S s) {r : RV} (hr : r ∈ P.rulesV) : Full P S (s.add P r) ∧ (s.add P r).has = s.has ∧ (s.add P r).rules = s.rules ++ [r] := by
  have hcore0 : r.kind.toList ≠ bBase.toList → r.kind.toList ≠ kCopy → Core P S { s with rules := s.rules ++ [r] } := fun n1 n2 =>
    ⟨h.core.len, h.core.row, h.core.wait, h.core.bit, h.core.edge, h.core.along, fun q hq hk => by
      rcases List.mem_append.1 hq with hq | hq
      · exact h.core.base q hq hk
      · obtain rfl := List.mem_singleton.1 hq
        exact absurd hk n1, fun q hq hk => by
      rcases List.mem_append.1 hq with hq | hq
      · exact h.core.copy q hq hk
      · obtain rfl := List.mem_singleton.1 hq
        exact absurd hk n2⟩
  have hof : ∀ q ∈ s.rules ++ [r], q ∈ P.rulesV := fun q hq => by
    rcases List.mem_append.1 hq with hq | hq
    · exact h.of q hq
    · obtain rfl := List.mem_singleton.1 hq
      exact hr
  unfold SV.add
  cases h1 : (r.kind.toList == bBase.toList) with
  | true =>
    have hb := eq_of_beq h1
    obtain ⟨k, hk, hrk⟩ := List.mem_map.1 hr
    have hk := List.mem_range.1 hk
    have ha := rule_a_in hg.1 hk
    have hba := hc.base k hk (by rw [hrk]; exact hb)
    rw [hrk] at ha hba
    have hnv := nodes_vars P
    refine ⟨⟨⟨h.core.len, h.core.row, fun f hf => ?_, h.core.bit, h.core.edge, fun e he o h0 hbt => (h.core.along e he o h0 hbt).imp id fun g => List.mem_append_left _ g, fun q hq hqk => ?_, fun q hq hqk => ?_⟩, hof, fun q hq hqf o h0 hbt => ?_⟩, rfl, rfl⟩
    · rcases List.mem_append.1 hf with hf | hf
      · exact h.core.wait f hf
      · obtain rfl := List.mem_singleton.1 hf
        exact ⟨⟨ha.1, by omega⟩, hba⟩
    · rcases List.mem_append.1 hq with hq | hq
      · exact (h.core.base q hq hqk).imp id fun g => List.mem_append_left _ g
      · obtain rfl := List.mem_singleton.1 hq
        exact .inr (List.mem_append_right _ (List.mem_singleton.2 rfl))
    · rcases List.mem_append.1 hq with hq | hq
      · exact h.core.copy q hq hqk
      · obtain rfl := List.mem_singleton.1 hq
        rw [hb, eq_of_beq bBase_list] at hqk
        exact absurd hqk (by decide)
    · rcases List.mem_append.1 hq with hq | hq
      · exact h.told q hq hqf o h0 hbt
      · obtain rfl := List.mem_singleton.1 hq
        exact absurd hb (fired_kinds hqf).1
  | false =>
  have n1 : r.kind.toList ≠ bBase.toList := fun e => by rw [e] at h1; simp at h1
  cases h2 : (r.kind.toList == kCopy) with
  | true =>
    have hb := eq_of_beq h2
    have hsnd : SndE P S (r.a, r.b) := sndE_of hg hc hr (by unfold PP.redges; rw [h2, cond_true]; exact List.mem_singleton.2 rfl)
    obtain ⟨t, ht⟩ : ∃ t : SV, t = { s with rules := s.rules ++ [r] } := ⟨_, rfl⟩
    have hin := edge_in t (r.a, r.b)
    have hcore1 : Core P S ({ s with rules := s.rules }.edge (r.a, r.b)) := h.core.edgeTo hsnd
    have e1 : (t.edge (r.a, r.b)).edges = (s.edge (r.a, r.b)).edges := by rw [ht]; unfold SV.edge; split <;> rfl
    have e2 : (t.edge (r.a, r.b)).wait = (s.edge (r.a, r.b)).wait := by rw [ht]; unfold SV.edge; split <;> rfl
    have e3 : (t.edge (r.a, r.b)).has = s.has := by rw [edge_has, ht]
    have e4 : (t.edge (r.a, r.b)).rules = s.rules ++ [r] := by rw [edge_rules, ht]
    have e5 : ∀ f, (t.edge (r.a, r.b)).bit f = s.bit f := bit_has e3
    have k := h.core.edgeTo hsnd
    have hmore : ∀ g ∈ s.edges, g ∈ (t.edge (r.a, r.b)).edges := fun g hg => by rw [e1]; exact edge_more hg
    rw [cond_false, cond_true, ← ht]
    refine ⟨⟨⟨by rw [e3]; exact h.core.len, by rw [e3]; exact h.core.row, fun f hf => by rw [e2] at hf; exact k.wait f hf, fun f hf h0 => by rw [e5] at hf; exact h.core.bit f hf h0, fun e he => by rw [e1] at he; exact k.edge e he, fun e he o h0 hbt => ?_, fun q hq hqk => ?_, fun q hq hqk => ?_⟩, fun q hq => by rw [e4] at hq; exact hof q hq, fun q hq hqf o h0 hbt => ?_⟩, e3, e4⟩
    · rw [e1] at he
      rw [e5] at hbt ⊢
      rw [e2]
      have := k.along e he o h0 (by rw [edge_bit]; exact hbt)
      rwa [edge_bit] at this
    · rw [e4] at hq
      rw [e5, e2]
      rcases List.mem_append.1 hq with hq | hq
      · have := k.base q (by rw [edge_rules]; exact hq) hqk
        rwa [edge_bit] at this
      · obtain rfl := List.mem_singleton.1 hq
        exact absurd hqk n1
    · rw [e4] at hq
      rcases List.mem_append.1 hq with hq | hq
      · exact (h.core.copy q hq hqk).imp id fun g => hmore _ g
      · obtain rfl := List.mem_singleton.1 hq
        exact hin
    · rw [e4] at hq
      rw [e5] at hbt
      rcases List.mem_append.1 hq with hq | hq
      · exact told_more hmore (h.told q hq hqf o h0 hbt)
      · obtain rfl := List.mem_singleton.1 hq
        exact absurd hb (fired_kinds hqf).2
  | false =>
  have n2 : r.kind.toList ≠ kCopy := fun e => by rw [e] at h2; simp at h2
  have hf : r.fired = true := by
    rcases rule_kinds hg.1 hr with g | g | g
    · exact absurd g n1
    · exact absurd g n2
    · exact g
  obtain ⟨k1, k2, k3, k4, k5⟩ := fires_objs hg hc hr hf (s.objs r.pivot) (hcore0 n1 n2) fun o ho => by
    obtain ⟨h0, hb⟩ := mem_objs.1 ho
    exact h.core.bit (r.pivot, o) hb h0
  rw [cond_false, cond_false]
  refine ⟨⟨k1, fun q hq => by rw [k3] at hq; exact hof q hq, fun q hq hqf o h0 hbt => ?_⟩, k2, k3⟩
  rw [k3] at hq
  rw [bit_has k2] at hbt
  rcases List.mem_append.1 hq with hq | hq
  · exact told_more k4 (h.told q hq hqf o h0 hbt)
  · obtain rfl := List.mem_singleton.1 hq
    exact k5 o (mem_objs.2 ⟨h0, hbt⟩)
def SV.zero (P : PP) : SV := ⟨List.replicate P.nodesV (List.replicate P.objectsV false), [], [], []⟩
theorem zero_bit (P : PP) (f : Int × Int) : (SV.zero P).bit f = false := by
  unfold SV.bit SV.zero
  simp only [List.getD_eq_getElem?_getD, List.getElem?_replicate]
  split
  · simp only [Option.getD_some, List.getElem?_replicate]
    split <;> rfl
  · rfl
theorem Full.zero (P : PP) (S : List (List Int)) : Full P S (SV.zero P) := by
  refine ⟨⟨List.length_replicate, fun l hl => ?_, fun f hf => (by cases hf), fun f hb _ => ?_, fun e he => (by cases he), fun e he => (by cases he), fun r hr => (by cases hr), fun r hr => (by cases hr)⟩, fun r hr => (by cases hr), fun r hr => (by cases hr)⟩
  · obtain rfl := List.eq_of_mem_replicate hl
    exact List.length_replicate
  · rw [zero_bit] at hb; cases hb
theorem objs_srt (s : SV) (n : Int) : Srt (s.objs n) := by
  unfold SV.objs
  show List.Pairwise (· < ·) _
  rw [List.pairwise_map]
  exact List.Pairwise.imp (R := (· < ·)) (fun h => by omega) (List.Pairwise.sublist List.filter_sublist List.pairwise_lt_range)
theorem bit_few {P : PP} {S : List (List Int)} {s : SV} (h : Core P S s) {f : Int × Int} (h0 : 0 ≤ f.2) (hb : s.bit f = true) : f.2 < P.objectsV := by
  unfold SV.bit at hb
  rcases Nat.lt_or_ge f.1.toNat s.has.length with g | g
  · have hl : (s.has.getD f.1.toNat []).length = P.objectsV := by
      rw [List.getD_eq_getElem?_getD, List.getElem?_eq_getElem g]
      exact h.row _ (List.getElem_mem g)
    rcases Nat.lt_or_ge f.2.toNat P.objectsV with k | k
    · omega
    · rw [List.getD_eq_getElem?_getD (l := s.has.getD f.1.toNat []), List.getElem?_eq_none (by omega)] at hb; cases hb
  · rw [List.getD_eq_getElem?_getD (l := s.has), List.getElem?_eq_none g] at hb; cases hb
theorem redges_nil' {P : PP} {r : RV} {has : List (List Int)} (h : r.kind.toList = bBase.toList) : P.redges r has = [] := by
  have e := eq_of_beq bBase_list
  unfold PP.redges kCopy kLoad kStore kCall
  rw [h, e]; rfl
theorem redges_out {P : PP} {H : List (List Int)} {r : RV} (hf : r.fired = true) {e : Int × Int} (he : e ∈ P.redges r H) : ∃ o, o ∈ H.getD r.pivot.toNat [] ∧ e ∈ P.fires r o := by
  unfold PP.redges at he
  unfold PP.fires RV.pivot
  unfold RV.fired at hf
  cases h0 : (r.kind.toList == kCopy) with
  | true =>
    have e0 := eq_of_beq h0
    rw [e0] at hf
    exact absurd hf (by decide)
  | false =>
  rw [h0, cond_false] at he
  cases h1 : (r.kind.toList == kLoad) with
  | true =>
    have e1 := eq_of_beq h1
    have h2 : (r.kind.toList == kStore) = false := by rw [e1]; decide
    have h3 : (r.kind.toList == kCall) = false := by rw [e1]; decide
    rw [h1, cond_true] at he
    obtain ⟨o, ho, rfl⟩ := List.mem_map.1 he
    obtain ⟨k1, k2⟩ := List.mem_filter.1 ho
    have hn : ¬ (P.nodesV : Int) ≤ o := fun g => by rw [decide_eq_true g] at k2; cases k2
    rw [h2, h3, cond_false]
    refine ⟨o, k1, ?_⟩
    rw [cond_false, if_neg hn, cond_true]
    exact List.mem_singleton.2 rfl
  | false =>
  rw [h1, cond_false] at he
  cases h2 : (r.kind.toList == kStore) with
  | true =>
    have e1 := eq_of_beq h2
    have h3 : (r.kind.toList == kCall) = false := by rw [e1]; decide
    rw [h2, cond_true] at he
    obtain ⟨o, ho, rfl⟩ := List.mem_map.1 he
    obtain ⟨k1, k2⟩ := List.mem_filter.1 ho
    have hn : ¬ (P.nodesV : Int) ≤ o := fun g => by rw [decide_eq_true g] at k2; cases k2
    rw [h3, cond_true]
    refine ⟨o, k1, ?_⟩
    rw [cond_false, if_neg hn, cond_false]
    exact List.mem_singleton.2 rfl
  | false =>
  rw [h2, cond_false] at he
  cases h3 : (r.kind.toList == kCall) with
  | true =>
    rw [h3, cond_true] at he
    obtain ⟨o, ho, hc⟩ := List.mem_flatMap.1 he
    exact ⟨o, ho, hc⟩
  | false => rw [h3, cond_false] at he; cases he
def SV.sets (P : PP) (s : SV) : List (List Int) := (List.range P.nodesV).map fun n : Nat => s.objs (n : Int)
theorem sets_getD {P : PP} {s : SV} {n : Nat} (hn : n < P.nodesV) : (s.sets P).getD n [] = s.objs n := by
  unfold SV.sets
  rw [List.getD_eq_getElem?_getD, List.getElem?_map, List.getElem?_range hn]; rfl
theorem Core.sub {P : PP} {S : List (List Int)} {s : SV} (h : Core P S s) (n : Nat) : ∀ o ∈ s.objs n, o ∈ S.getD n [] := fun o ho => by
  obtain ⟨h0, hb⟩ := mem_objs.1 ho
  exact h.bit ((n : Int), o) hb h0
theorem Core.good {P : PP} {S : List (List Int)} {s : SV} (hw : P.Well) (h : Core P S s) : P.GoodS (s.sets P) := by
  have h126 := nodesV_le P hw
  have hf := hw.few
  refine ⟨hw, by unfold SV.sets; rw [List.length_map, List.length_range], fun l hl => ?_⟩
  obtain ⟨n, hn, rfl⟩ := List.mem_map.1 hl
  have hlt : ∀ x ∈ s.objs n, 0 ≤ x ∧ x < (P.objectsV : Int) := fun x hx => by
    obtain ⟨h0, hb⟩ := mem_objs.1 hx
    exact ⟨h0, bit_few h (f := ((n : Int), x)) h0 hb⟩
  refine setE_of (chkE_zero.2 ⟨fun x hx => ?_, objs_srt s n⟩) fun x hx => (hlt x hx).2
  have := hlt x hx
  unfold PP.objectsV at this
  omega
theorem Full.done {P : PP} {S : List (List Int)} {s : SV} {m : Nat} (hL : LeastAt P m S) (hw : P.Well) (h : Full P S s) (hr : ∀ r ∈ P.rulesV, r ∈ s.rules) (hwt : s.wait = []) {n : Nat} (hn : n < P.nodesV) : s.objs n = S.getD n [] := by
  have hg := hL.good hw
  have hgs := h.core.good hw
  have hcl : ClosedP P (s.sets P) := by
    refine ⟨fun k hk hb => ?_, fun e he hne q hq => ?_⟩
    · have hrk : P.ruleV k (P.stAt k) ∈ P.rulesV := List.mem_map.2 ⟨k, List.mem_range.2 hk, rfl⟩
      have ha := rule_a_in hw hk
      have hnv := nodes_vars P
      have hbi := base_b_in hw hk hb
      rcases h.core.base _ (hr _ hrk) hb with g | g
      · rw [sets_getD (by omega)]
        refine mem_objs.2 ⟨hbi.1, ?_⟩
        rw [show (((P.ruleV k (P.stAt k)).a.toNat : Nat) : Int) = (P.ruleV k (P.stAt k)).a by omega]
        exact g
      · rw [hwt] at g; cases g
    · obtain ⟨r, hrv, her⟩ := List.mem_flatMap.1 he
      obtain ⟨i1, i2, i3, i4⟩ := edges0_in hw hgs.ok e he
      have hin : e ∈ s.edges := by
        have hrs := hr r hrv
        cases hfd : r.fired with
        | false =>
          rcases rule_kinds hw hrv with g | g | g
          · rw [redges_nil' g] at her; cases her
          · have her2 : e = (r.a, r.b) := by
              unfold PP.redges at her
              rw [show (r.kind.toList == kCopy) = true from by rw [g]; decide, cond_true] at her
              exact List.mem_singleton.1 her
            rcases h.core.copy r hrs g with k | k
            · rw [her2] at hne; exact absurd k hne
            · rw [her2]; exact k
          · rw [hfd] at g; cases g
        | true =>
          obtain ⟨i, hi, hri⟩ := List.mem_map.1 hrv
          have hi := List.mem_range.1 hi
          have hp0 : 0 ≤ r.pivot := by rw [← hri]; exact pivot_in hw hi (by rw [hri]; exact hfd)
          obtain ⟨o, ho, hfo⟩ := redges_out hfd her
          have hpn : r.pivot.toNat < P.nodesV := by
            rcases Nat.lt_or_ge r.pivot.toNat P.nodesV with g | g
            · exact g
            · rw [List.getD_eq_getElem?_getD, List.getElem?_eq_none (by rw [hgs.2.1]; exact g)] at ho; cases ho
          rw [sets_getD hpn] at ho
          obtain ⟨o0, ob⟩ := mem_objs.1 ho
          rw [Int.toNat_of_nonneg hp0] at ob
          rcases h.told r hrs hfd o o0 ob e hfo with k | k
          · exact absurd k hne
          · exact k
      rw [sets_getD (by omega)] at hq ⊢
      obtain ⟨q0, qb⟩ := mem_objs.1 hq
      rw [Int.toNat_of_nonneg i1] at qb
      rcases h.core.along e hin q q0 qb with k | k
      · refine mem_objs.2 ⟨q0, ?_⟩
        rw [Int.toNat_of_nonneg i3]
        exact k
      · rw [hwt] at k; cases k
  have hsub := hL.within hgs hcl
  refine srt_uniq (objs_srt s n) ?_ fun o => ⟨h.core.sub n o, fun ho => ?_⟩
  · rw [List.getD_eq_getElem?_getD]
    cases hl : S[n]? with
    | none => exact List.Pairwise.nil
    | some l => exact (chkE_zero.1 (hg.ok.ok l (List.mem_of_getElem? hl)).1).2
  · have := hsub n o ho
    rwa [sets_getD hn] at this
theorem row_count (l : List Bool) : ((List.range l.length).filter fun o => l.getD o false).length = l.countP id := by
  have e : l = (List.range l.length).map fun o => l.getD o false := by
    refine List.ext_getElem (by simp) fun i h1 h2 => ?_
    rw [List.getElem_map, List.getElem_range, List.getD_eq_getElem?_getD, List.getElem?_eq_getElem h1]; rfl
  conv => rhs; rw [e]
  rw [List.countP_map, List.countP_eq_length_filter]
  rfl
theorem objs_len (s : SV) (n : Int) : (s.objs n).length = (s.has.getD n.toNat []).countP id := by
  unfold SV.objs
  rw [List.length_map]
  exact row_count _
theorem count_set : ∀ (l : List Bool) (k : Nat), k < l.length → l.getD k false = false → (l.set k true).countP id = l.countP id + 1
  | b :: l, 0, _, h => by
    have hb : b = false := h
    subst hb
    simp
  | b :: l, k + 1, hk, h => by
    have ih := count_set l k (by simpa using hk) (by simpa using h)
    rw [qS2, List.countP_cons, List.countP_cons, ih]
    omega
theorem sum_one (g g' : Nat → Nat) (i : Nat) (h : ∀ n, n ≠ i → g' n = g n) (hi : g' i = g i + 1) : ∀ N, ((List.range N).map g').sum = ((List.range N).map g).sum + if i < N then 1 else 0
  | 0 => by simp
  | N + 1 => by
    rw [List.range_succ, List.map_append, List.map_append, List.sum_append, List.sum_append, sum_one g g' i h hi N]
    simp only [List.map_cons, List.map_nil, List.sum_cons, List.sum_nil]
    by_cases e : N = i
    · subst e
      rw [hi, if_neg (Nat.lt_irrefl _), if_pos (Nat.lt_succ_self _)]
      omega
    · rw [h N e]
      by_cases k : i < N
      · rw [if_pos k, if_pos (by omega)]; omega
      · rw [if_neg k, if_neg (by omega)]; omega
theorem sum_le (g g' : Nat → Nat) : ∀ N, (∀ n, n < N → g n ≤ g' n) → ((List.range N).map g).sum ≤ ((List.range N).map g').sum ∧ (((List.range N).map g).sum = ((List.range N).map g').sum → ∀ n, n < N → g n = g' n)
  | 0, _ => ⟨Nat.le_refl _, fun _ n h => by omega⟩
  | N + 1, h => by
    obtain ⟨k1, k2⟩ := sum_le g g' N fun n hn => h n (by omega)
    have hN := h N (Nat.lt_succ_self _)
    rw [List.range_succ, List.map_append, List.map_append, List.sum_append, List.sum_append]
    simp only [List.map_cons, List.map_nil, List.sum_cons, List.sum_nil]
    refine ⟨by omega, fun e n hn => ?_⟩
    by_cases hc : n = N
    · subst hc; omega
    · exact k2 (by omega) n (by omega)
def SV.tot (P : PP) (s : SV) : Nat := ((List.range P.nodesV).map fun n : Nat => (s.objs (n : Int)).length).sum
def totS (P : PP) (S : List (List Int)) : Nat := ((List.range P.nodesV).map fun n : Nat => (S.getD n []).length).sum
theorem set_srt {P : PP} {S : List (List Int)} (hg : P.GoodS S) (n : Nat) : Srt (S.getD n []) := by
  rw [List.getD_eq_getElem?_getD]
  cases hl : S[n]? with
  | none => exact List.Pairwise.nil
  | some l => exact (chkE_zero.1 (hg.ok.ok l (List.mem_of_getElem? hl)).1).2
theorem tot_le {P : PP} {S : List (List Int)} {s : SV} (hg : P.GoodS S) (h : Core P S s) : s.tot P ≤ totS P S ∧ (s.tot P = totS P S → ∀ n, n < P.nodesV → s.objs (n : Int) = S.getD n []) := by
  obtain ⟨k1, k2⟩ := sum_le (fun n : Nat => (s.objs (n : Int)).length) (fun n => (S.getD n []).length) P.nodesV fun n _ => (srt_len (objs_srt s n) (set_srt hg n) (h.sub n)).1
  exact ⟨k1, fun e n hn => (srt_len (objs_srt s n) (set_srt hg n) (h.sub n)).2 (k2 e n hn)⟩
theorem tot_mark {P : PP} {s : SV} (hl : s.has.length = P.nodesV) {f : Int × Int} (h1 : 0 ≤ f.1 ∧ f.1 < P.nodesV) (h2 : 0 ≤ f.2 ∧ f.2.toNat < (s.has.getD f.1.toNat []).length) (hb : s.bit f = false) : (s.mark f).tot P = s.tot P + 1 := by
  unfold SV.tot
  have hn : f.1.toNat < s.has.length := by omega
  have h1' : ∀ n : Nat, n ≠ f.1.toNat → ((s.mark f).objs (n : Int)).length = (s.objs (n : Int)).length := fun n hne => by
    rw [objs_len, objs_len]
    unfold SV.mark
    rw [getD_set2 _ _ _ _ hn, if_neg (by omega)]
  have h2' : ((s.mark f).objs ((f.1.toNat : Nat) : Int)).length = (s.objs ((f.1.toNat : Nat) : Int)).length + 1 := by
    rw [objs_len, objs_len]
    unfold SV.mark
    rw [getD_set2 _ _ _ _ hn, if_pos (by omega), Int.toNat_natCast]
    exact count_set _ _ h2.2 hb
  have key := sum_one (fun n : Nat => (s.objs (n : Int)).length) (fun n : Nat => ((s.mark f).objs (n : Int)).length) f.1.toNat h1' h2' P.nodesV
  rw [if_pos (by omega)] at key
  exact key
def SV.one (P : PP) (s : SV) : SV := match s.wait with
  | [] => s
  | f :: _ => ((s.mark f).came P f).clean
def SV.ready (s : SV) : Prop := ∀ f r, s.wait = f :: r → s.bit f = false
theorem clean_ready (s : SV) : s.clean.ready := fun _ _ h => dropWhile_head h
theorem clean_has (s : SV) : s.clean.has = s.has := rfl
theorem tot_has {P : PP} {s t : SV} (h : t.has = s.has) : t.tot P = s.tot P := by unfold SV.tot; simp only [objs_has h]
theorem Full.one {P : PP} {S : List (List Int)} {s : SV} (hg : P.GoodS S) (hc : ClosedP P S) (h : Full P S s) (hr : s.ready) {f : Int × Int} {r : List (Int × Int)} (hw : s.wait = f :: r) :
    Full P S (s.one P) ∧ (s.one P).ready ∧ (s.one P).rules = s.rules ∧ (s.one P).tot P = s.tot P + 1 := by
  have hfw := h.core.wait f (by rw [hw]; exact List.mem_cons_self)
  have hlen := hg.2.1
  have hin : f.2 ∈ S.getD f.1.toNat [] := hfw.2
  have h2 : 0 ≤ f.2 ∧ f.2 < P.objectsV := by
    rw [List.getD_eq_getElem?_getD, List.getElem?_eq_getElem (show f.1.toNat < S.length by omega)] at hin
    have hk := hg.ok.ok _ (List.getElem_mem (show f.1.toNat < S.length by omega))
    exact ⟨((chkE_zero.1 hk.1).1 _ hin).1, hk.2 _ hin⟩
  obtain ⟨k1, k2, k3⟩ := h.came hg hc hfw h2
  have hrow : (s.has.getD f.1.toNat []).length = P.objectsV := by
    have hl1 : f.1.toNat < s.has.length := by rw [h.core.len]; omega
    rw [List.getD_eq_getElem?_getD, List.getElem?_eq_getElem hl1]
    exact h.core.row _ (List.getElem_mem hl1)
  have e : s.one P = ((s.mark f).came P f).clean := by unfold SV.one; rw [hw]
  rw [e]
  refine ⟨k1.cleaned, clean_ready _, k3, ?_⟩
  rw [tot_has (clean_has _), tot_has k2]
  exact tot_mark h.core.len hfw.1 ⟨h2.1, by rw [hrow]; omega⟩ (hr f r hw)
def SV.steps (P : PP) : Nat → SV → SV × Nat
  | 0, s => (s, 0)
  | k + 1, s => match s.wait with
    | [] => (s, 0)
    | _ :: _ => ((SV.steps P k (s.one P)).1, (SV.steps P k (s.one P)).2 + 1)
theorem steps_keep {P : PP} {S : List (List Int)} (hg : P.GoodS S) (hc : ClosedP P S) : ∀ (k : Nat) {s : SV}, Full P S s → s.ready →
    Full P S (s.steps P k).1 ∧ (s.steps P k).1.ready ∧ (s.steps P k).1.rules = s.rules ∧ (s.steps P k).1.tot P = s.tot P + (s.steps P k).2 ∧ (s.steps P k).2 ≤ k ∧ ((s.steps P k).2 < k → (s.steps P k).1.wait = [])
  | 0, s, h, hr => ⟨h, hr, rfl, rfl, Nat.le_refl _, fun g => absurd g (Nat.lt_irrefl _)⟩
  | k + 1, s, h, hr => by
    unfold SV.steps
    cases hw : s.wait with
    | nil => exact ⟨h, hr, rfl, rfl, Nat.zero_le _, fun _ => hw⟩
    | cons f r =>
      obtain ⟨k1, k2, k3, k4⟩ := h.one hg hc hr hw
      obtain ⟨j1, j2, j3, j4, j5, j6⟩ := steps_keep hg hc k k1 k2
      refine ⟨j1, j2, j3.trans k3, ?_, by simp only; omega, fun g => j6 (by simp only at g; omega)⟩
      simp only
      omega
theorem Full.all {P : PP} {S : List (List Int)} {s : SV} {m : Nat} (hL : LeastAt P m S) (hw : P.Well) (h : Full P S s) (hr : ∀ r ∈ P.rulesV, r ∈ s.rules) (hrd : s.ready) : s.wait = [] ↔ s.tot P = totS P S := by
  have hg := hL.good hw
  constructor
  · intro hwt
    unfold SV.tot totS
    congr 1
    refine List.map_congr_left fun n hn => ?_
    rw [h.done hL hw hr hwt (List.mem_range.1 hn)]
  · intro e
    cases hwt : s.wait with
    | nil => rfl
    | cons f r =>
      have hfw := h.core.wait f (by rw [hwt]; exact List.mem_cons_self)
      have hb := hrd f r hwt
      have heq := (tot_le hg h.core).2 e f.1.toNat (by omega)
      have hin := hfw.2
      rw [← heq] at hin
      obtain ⟨_, hb2⟩ := mem_objs.1 hin
      rw [Int.toNat_of_nonneg hfw.1.1] at hb2
      rw [hb] at hb2
      cases hb2
theorem nodup_le {α : Type} [BEq α] [LawfulBEq α] : ∀ (l L : List α), l.Nodup → (∀ x ∈ l, x ∈ L) → l.length ≤ L.length
  | [], _, _, _ => Nat.zero_le _
  | x :: l, L, h, hs => by
    rw [List.nodup_cons] at h
    have hx := hs x List.mem_cons_self
    have k := nodup_le l (L.erase x) h.2 fun y hy => (List.mem_erase_of_ne (show y ≠ x from fun e => h.1 (by rw [← e]; exact hy))).2 (hs y (List.mem_cons_of_mem _ hy))
    rw [List.length_erase_of_mem hx] at k
    have := List.length_pos_of_mem hx
    rw [List.length_cons]; omega
def allPairs (N : Nat) : List (Int × Int) := (List.range N).flatMap fun a : Nat => (List.range N).map fun b : Nat => ((a : Int), (b : Int))
theorem allPairs_len (N : Nat) : (allPairs N).length = N * N := by
  unfold allPairs
  rw [List.length_flatMap]
  have : (List.range N).map (fun a : Nat => ((List.range N).map fun b : Nat => ((a : Int), (b : Int))).length) = List.replicate N N := by
    refine List.eq_replicate_iff.2 ⟨by simp, fun b hb => ?_⟩
    obtain ⟨a, _, rfl⟩ := List.mem_map.1 hb
    simp
  rw [this, List.sum_replicate_nat]
theorem mem_allPairs {N : Nat} {e : Int × Int} (h1 : 0 ≤ e.1 ∧ e.1 < N) (h2 : 0 ≤ e.2 ∧ e.2 < N) : e ∈ allPairs N :=
  List.mem_flatMap.2 ⟨e.1.toNat, List.mem_range.2 (by omega), List.mem_map.2 ⟨e.2.toNat, List.mem_range.2 (by omega), by
    rw [Int.toNat_of_nonneg h1.1, Int.toNat_of_nonneg h2.1]⟩⟩
structure SV.Bnd (P : PP) (s : SV) : Prop where
  nd : s.edges.Nodup
  ru : s.rules.length ≤ 80
  le : s.wait.length ≤ s.rules.length + s.edges.length * P.objectsV + s.tot P * 14400
theorem PP.Well.nodes {P : PP} (hw : P.Well) : P.nodesV ≤ 120 ∧ P.objectsV ≤ 126 := by
  obtain ⟨h1, h2, h3⟩ := hw.few
  have := P.nodesV_le2
  unfold PP.objectsV
  omega
section
variable {P : PP} {S : List (List Int)} {s : SV}
theorem Core.edges_few (hw : P.Well) (h : Core P S s) (hn : s.edges.Nodup) : s.edges.length ≤ 14400 := by
  have h1 := nodup_le s.edges (allPairs P.nodesV) hn fun e he => by
    obtain ⟨k1, k2, _⟩ := h.edge e he
    exact mem_allPairs k1 k2
  rw [allPairs_len] at h1
  have h2 : P.nodesV * P.nodesV ≤ 120 * 120 := Nat.mul_le_mul hw.nodes.1 hw.nodes.1
  omega
theorem objs_few (h : Core P S s) (n : Int) : (s.objs n).length ≤ P.objectsV := by
  unfold SV.objs
  rw [List.length_map]
  refine Nat.le_trans (List.length_filter_le _ _) ?_
  rw [List.length_range, List.getD_eq_getElem?_getD]
  rcases Nat.lt_or_ge n.toNat s.has.length with g | g
  · rw [List.getElem?_eq_getElem g]
    exact Nat.le_of_eq (h.row _ (List.getElem_mem g))
  · rw [List.getElem?_eq_none g]; exact Nat.zero_le _
theorem succ_few (s : SV) (n : Int) : (s.succ n).length ≤ s.edges.length := by
  unfold SV.succ
  rw [List.length_map]
  exact List.length_filter_le _ _
theorem SV.Bnd.edgeTo (h : Core P S s) (b : s.Bnd P) (e : Int × Int) : (s.edge e).Bnd P := by
  have ht : (s.edge e).tot P = s.tot P := tot_has (edge_has s e)
  refine ⟨?_, by rw [edge_rules]; exact b.ru, ?_⟩
  · unfold SV.edge
    split
    · exact b.nd
    · rename_i hc
      refine List.nodup_append.2 ⟨b.nd, by simp, fun a ha c hc' => ?_⟩
      rw [List.mem_singleton] at hc'
      rintro rfl
      exact hc (.inr (hc' ▸ ha))
  · rw [ht, edge_rules]
    have hle := b.le
    unfold SV.edge
    split
    · exact hle
    · simp only [List.length_append, List.length_map, List.length_singleton, Nat.add_mul, Nat.one_mul]
      have := objs_few h e.1
      omega
theorem bnd_edges : ∀ (l : List (Int × Int)) {s : SV}, Core P S s → (∀ e ∈ l, SndE P S e) → s.Bnd P → (l.foldl SV.edge s).Bnd P
  | [], _, _, _, b => b
  | e :: l, _, h, hs, b => bnd_edges l (h.edgeTo (hs e List.mem_cons_self)) (fun g hg => hs g (List.mem_cons_of_mem _ hg)) (b.edgeTo h e)
theorem bnd_fire (hg : P.GoodS S) (hc : ClosedP P S) (h : Core P S s) (b : s.Bnd P) {r : RV} (hr : r ∈ P.rulesV) (hf : r.fired = true) {o : Int} (ho : o ∈ S.getD r.pivot.toNat []) : (s.fire P r o).Bnd P :=
  bnd_edges _ h (fun _ he => sndE_of hg hc hr (fires_in hf ho he)) b
end
structure NV where
  to : Int
  kind : Int
  nums : List Int
structure SH where
  has : List (Int × Int)
  nxt : List (Int × Int)
  todo : List NV
  out : List NV
def keysL (M : List (Int × Int)) (n : Int) : List Int := ((List.range 126).filter fun o : Nat => decide ((n, (o : Int)) ∈ M)).map fun o : Nat => (o : Int)
theorem mem_keysL {M : List (Int × Int)} {n o : Int} (hM : ∀ e ∈ M, 0 ≤ e.2 ∧ e.2 < 126) : o ∈ keysL M n ↔ (n, o) ∈ M := by
  unfold keysL
  rw [List.mem_map]
  constructor
  · rintro ⟨k, hk, rfl⟩
    exact of_decide_eq_true (List.mem_filter.1 hk).2
  · intro h
    have := hM _ h
    simp only at this
    obtain ⟨k, rfl⟩ := Int.eq_ofNat_of_zero_le this.1
    exact ⟨k, List.mem_filter.2 ⟨List.mem_range.2 (by omega), decide_eq_true h⟩, rfl⟩
theorem keysL_in {M : List (Int × Int)} {n o : Int} (h : o ∈ keysL M n) : (n, o) ∈ M ∧ 0 ≤ o ∧ o < 126 := by
  unfold keysL at h
  obtain ⟨k, hk, rfl⟩ := List.mem_map.1 h
  have := List.mem_range.1 (List.mem_filter.1 hk).1
  exact ⟨of_decide_eq_true (List.mem_filter.1 hk).2, by omega, by omega⟩
theorem keysL_srt (M : List (Int × Int)) (n : Int) : Srt (keysL M n) := by
  unfold keysL
  show List.Pairwise (· < ·) _
  rw [List.pairwise_map]
  exact List.Pairwise.imp (R := (· < ·)) (fun h => by omega) (List.Pairwise.sublist List.filter_sublist List.pairwise_lt_range)
theorem keysL_few (M : List (Int × Int)) (n : Int) : (keysL M n).length ≤ 126 := by
  unfold keysL
  rw [List.length_map]
  exact Nat.le_trans (List.length_filter_le _ _) (by simp)
def SH.tell (me k : Int) (s : SH) (n c : Int) (l : List Int) : SH :=
  if n % k = me then { s with todo := s.todo ++ [⟨n % k, c, l⟩] } else { s with out := s.out ++ [⟨n % k, c, l⟩] }
def SH.edge (me k : Int) (s : SH) (e : Int × Int) : SH := if e.1 = e.2 then s else s.tell me k e.1 101 [e.1, e.2]
def SH.fire (P : PP) (me k : Int) (s : SH) (r : RV) (o : Int) : SH := bif r.fired then (P.fires r o).foldl (SH.edge me k) s else s
def SH.ask (P : PP) (me k : Int) (f : Int × Int) (s : SH) (r : RV) : SH := if r.pivot = f.1 then s.fire P me k r f.2 else s
def SH.send (me k : Int) (b : Int) (s : SH) (o : Int) : SH := s.tell me k b 100 [b, o]
def SH.sendTo (me k : Int) (o : Int) (s : SH) (b : Int) : SH := s.tell me k b 100 [b, o]
def SH.came (P : PP) (me k : Int) (s : SH) (f : Int × Int) : SH :=
  if f ∈ s.has then s else P.rulesV.foldl (SH.ask P me k f) ((keysL s.nxt f.1).foldl (SH.sendTo me k f.2) { s with has := s.has ++ [f] })
def SH.joined (me k : Int) (s : SH) (e : Int × Int) : SH :=
  if e ∈ s.nxt then s else (keysL s.has e.1).foldl (SH.send me k e.2) { s with nxt := s.nxt ++ [e] }
def SH.comes (P : PP) (me k : Int) (n : Int) (s : SH) (o : Int) : SH := s.came P me k (n, o)
def SH.note (P : PP) (me k : Int) (s : SH) (x : NV) : SH :=
  if x.kind = 101 then s.joined me k (x.nums.getD 0 0, x.nums.getD 1 0) else (x.nums.drop 1).foldl (SH.comes P me k (x.nums.getD 0 0)) s
def SH.step (P : PP) (me k : Int) (s : SH) : SH := match s.todo with
  | [] => s
  | x :: t => SH.note P me k { s with todo := t } x
structure NOk (P : PP) (k : Int) (x : NV) : Prop where
  is : (x.kind = 100 ∧ ∃ n l, x.nums = n :: l ∧ (0 ≤ n ∧ n < P.nodesV) ∧ x.to = n % k ∧ ∀ o ∈ l, 0 ≤ o ∧ o < P.objectsV) ∨
    (x.kind = 101 ∧ ∃ a b, x.nums = [a, b] ∧ (0 ≤ a ∧ a < P.nodesV) ∧ x.to = a % k ∧ 0 ≤ b ∧ b < P.nodesV)
structure SH.Ok (P : PP) (me k : Int) (s : SH) : Prop where
  hnd : s.has.Nodup
  has : ∀ f ∈ s.has, (0 ≤ f.1 ∧ f.1 < P.nodesV) ∧ (0 ≤ f.2 ∧ f.2 < P.objectsV) ∧ f.1 % k = me
  nnd : s.nxt.Nodup
  nxt : ∀ e ∈ s.nxt, (0 ≤ e.1 ∧ e.1 < P.nodesV) ∧ (0 ≤ e.2 ∧ e.2 < P.nodesV) ∧ e.1 % k = me
  todo : ∀ x ∈ s.todo, NOk P k x ∧ x.to = me
  out : ∀ x ∈ s.out, NOk P k x ∧ x.to ≠ me
def SH.load (s : SH) : Nat := s.todo.length + s.out.length
def SH.phi (s : SH) : Nat := s.load + 900 * (15120 - s.has.length) + 130 * (14400 - s.nxt.length)
section
variable {P : PP} {me k : Int} {s : SH}
theorem SH.Ok.has126 (hw : P.Well) (h : s.Ok P me k) : ∀ f ∈ s.has, 0 ≤ f.2 ∧ f.2 < 126 := fun f hf => by
  have := (h.has f hf).2.1
  have := hw.nodes
  omega
theorem SH.Ok.nxt126 (hw : P.Well) (h : s.Ok P me k) : ∀ f ∈ s.nxt, 0 ≤ f.2 ∧ f.2 < 126 := fun f hf => by
  have := (h.nxt f hf).2.1
  have := hw.nodes
  omega
theorem pairs_few {A B : Nat} {l : List (Int × Int)} (hn : l.Nodup) (h : ∀ e ∈ l, (0 ≤ e.1 ∧ e.1 < A) ∧ 0 ≤ e.2 ∧ e.2 < B) : l.length ≤ A * B := by
  have h1 := nodup_le l ((List.range A).flatMap fun a : Nat => (List.range B).map fun b : Nat => ((a : Int), (b : Int))) hn fun e he => by
    obtain ⟨g1, g2⟩ := h e he
    exact List.mem_flatMap.2 ⟨e.1.toNat, List.mem_range.2 (by omega), List.mem_map.2 ⟨e.2.toNat, List.mem_range.2 (by omega), by
      rw [Int.toNat_of_nonneg g1.1, Int.toNat_of_nonneg g2.1]⟩⟩
  rw [List.length_flatMap] at h1
  have : (List.range A).map (fun a : Nat => ((List.range B).map fun b : Nat => ((a : Int), (b : Int))).length) = List.replicate A B := by
    refine List.eq_replicate_iff.2 ⟨by simp, fun b hb => ?_⟩
    obtain ⟨a, _, rfl⟩ := List.mem_map.1 hb
    simp
  rw [this, List.sum_replicate_nat] at h1
  exact h1
theorem SH.Ok.has_few (hw : P.Well) (h : s.Ok P me k) : s.has.length ≤ 15120 := by
  have h1 := pairs_few h.hnd fun f hf => ⟨(h.has f hf).1, (h.has f hf).2.1⟩
  have h2 : P.nodesV * P.objectsV ≤ 120 * 126 := Nat.mul_le_mul hw.nodes.1 hw.nodes.2
  omega
theorem SH.Ok.nxt_few (hw : P.Well) (h : s.Ok P me k) : s.nxt.length ≤ 14400 := by
  have h1 := pairs_few h.nnd fun f hf => ⟨(h.nxt f hf).1, (h.nxt f hf).2.1⟩
  have h2 : P.nodesV * P.nodesV ≤ 120 * 120 := Nat.mul_le_mul hw.nodes.1 hw.nodes.1
  omega
theorem tell_has (s : SH) (n c : Int) (l : List Int) : (s.tell me k n c l).has = s.has := by unfold SH.tell; split <;> rfl
theorem tell_nxt (s : SH) (n c : Int) (l : List Int) : (s.tell me k n c l).nxt = s.nxt := by unfold SH.tell; split <;> rfl
theorem tell_load (s : SH) (n c : Int) (l : List Int) : (s.tell me k n c l).load = s.load + 1 := by
  unfold SH.tell SH.load
  split
  · simp only [List.length_append, List.length_singleton]; omega
  · simp only [List.length_append, List.length_singleton]; omega
theorem tell_in (s : SH) (n c : Int) (l : List Int) : ⟨n % k, c, l⟩ ∈ (s.tell me k n c l).todo ∨ ⟨n % k, c, l⟩ ∈ (s.tell me k n c l).out := by
  unfold SH.tell
  split
  · exact .inl (List.mem_append_right _ (List.mem_singleton.2 rfl))
  · exact .inr (List.mem_append_right _ (List.mem_singleton.2 rfl))
theorem tell_todo (s : SH) (n c : Int) (l : List Int) {x : NV} (h : x ∈ (s.tell me k n c l).todo) : x ∈ s.todo ∨ (x = ⟨n % k, c, l⟩ ∧ n % k = me) := by
  unfold SH.tell at h
  split at h
  · next hm =>
    rcases List.mem_append.1 h with h | h
    · exact .inl h
    · exact .inr ⟨List.mem_singleton.1 h, hm⟩
  · exact .inl h
theorem tell_out (s : SH) (n c : Int) (l : List Int) {x : NV} (h : x ∈ (s.tell me k n c l).out) : x ∈ s.out ∨ (x = ⟨n % k, c, l⟩ ∧ n % k ≠ me) := by
  unfold SH.tell at h
  split at h
  · exact .inl h
  · next hm =>
    rcases List.mem_append.1 h with h | h
    · exact .inl h
    · exact .inr ⟨List.mem_singleton.1 h, hm⟩
structure SH.To (s t : SH) : Prop where
  has : ∀ f ∈ s.has, f ∈ t.has
  nxt : ∀ e ∈ s.nxt, e ∈ t.nxt
  todo : ∀ x ∈ s.todo, x ∈ t.todo
  out : ∀ x ∈ s.out, x ∈ t.out
theorem SH.To.refl (s : SH) : s.To s := ⟨fun _ h => h, fun _ h => h, fun _ h => h, fun _ h => h⟩
theorem SH.To.trans {s t u : SH} (h : s.To t) (g : t.To u) : s.To u := ⟨fun _ k => g.has _ (h.has _ k), fun _ k => g.nxt _ (h.nxt _ k), fun _ k => g.todo _ (h.todo _ k), fun _ k => g.out _ (h.out _ k)⟩
theorem tell_to (s : SH) (n c : Int) (l : List Int) : s.To (s.tell me k n c l) := by
  unfold SH.tell
  split
  · exact ⟨fun _ h => h, fun _ h => h, fun _ h => List.mem_append_left _ h, fun _ h => h⟩
  · exact ⟨fun _ h => h, fun _ h => h, fun _ h => h, fun _ h => List.mem_append_left _ h⟩
theorem tell_ok (h : s.Ok P me k) {n c : Int} {l : List Int} (hx : NOk P k ⟨n % k, c, l⟩) : (s.tell me k n c l).Ok P me k := by
  refine ⟨by rw [tell_has]; exact h.hnd, by rw [tell_has]; exact h.has, by rw [tell_nxt]; exact h.nnd, by rw [tell_nxt]; exact h.nxt, fun x hx' => ?_, fun x hx' => ?_⟩
  · rcases tell_todo s n c l hx' with g | ⟨rfl, g⟩
    · exact h.todo x g
    · exact ⟨hx, g⟩
  · rcases tell_out s n c l hx' with g | ⟨rfl, g⟩
    · exact h.out x g
    · exact ⟨hx, g⟩
structure SH.Adds (P : PP) (me k : Int) (m : Nat) (s t : SH) : Prop where
  to : s.To t
  has : t.has = s.has
  nxt : t.nxt = s.nxt
  load : t.load ≤ s.load + m
  ok : s.Ok P me k → t.Ok P me k
theorem SH.Adds.refl (s : SH) : SH.Adds P me k 0 s s := ⟨.refl s, rfl, rfl, Nat.le_refl _, fun h => h⟩
theorem SH.Adds.trans {s t u : SH} {m l : Nat} (h : SH.Adds P me k m s t) (g : SH.Adds P me k l t u) : SH.Adds P me k (m + l) s u :=
  ⟨h.to.trans g.to, g.has.trans h.has, g.nxt.trans h.nxt, by have := h.load; have := g.load; omega, fun o => g.ok (h.ok o)⟩
theorem SH.Adds.more {s t : SH} {m l : Nat} (h : SH.Adds P me k m s t) (hl : m ≤ l) : SH.Adds P me k l s t := ⟨h.to, h.has, h.nxt, Nat.le_trans h.load (by omega), h.ok⟩
theorem tell_adds (s : SH) {n c : Int} {l : List Int} (hx : NOk P k ⟨n % k, c, l⟩) : SH.Adds P me k 1 s (s.tell me k n c l) :=
  ⟨tell_to s n c l, tell_has s n c l, tell_nxt s n c l, Nat.le_of_eq (tell_load s n c l), fun h => tell_ok h hx⟩
theorem nok_d {n o : Int} (h1 : 0 ≤ n ∧ n < P.nodesV) (h2 : 0 ≤ o ∧ o < P.objectsV) : NOk P k ⟨n % k, 100, [n, o]⟩ :=
  ⟨.inl ⟨rfl, n, [o], rfl, h1, rfl, fun x hx => by rw [List.mem_singleton.1 hx]; exact h2⟩⟩
theorem nok_e {a b : Int} (h1 : 0 ≤ a ∧ a < P.nodesV) (h2 : 0 ≤ b ∧ b < P.nodesV) : NOk P k ⟨a % k, 101, [a, b]⟩ :=
  ⟨.inr ⟨rfl, a, b, rfl, h1, rfl, h2.1, h2.2⟩⟩
def EdIn (P : PP) (e : Int × Int) : Prop := (0 ≤ e.1 ∧ e.1 < P.nodesV) ∧ 0 ≤ e.2 ∧ e.2 < P.nodesV
theorem edge_adds (s : SH) {e : Int × Int} (he : EdIn P e) : SH.Adds P me k 1 s (s.edge me k e) := by
  unfold SH.edge
  split
  · exact (SH.Adds.refl s).more (by omega)
  · exact tell_adds s (nok_e he.1 he.2)
theorem fold_adds {α : Type} (g : SH → α → SH) (m : Nat) : ∀ (l : List α) (s : SH), (∀ x ∈ l, ∀ s, SH.Adds P me k m s (g s x)) → SH.Adds P me k (m * l.length) s (l.foldl g s)
  | [], s, _ => by rw [List.length_nil, Nat.mul_zero]; exact .refl s
  | x :: l, s, h => by
    rw [List.foldl_cons, List.length_cons, Nat.mul_succ, Nat.add_comm]
    exact (h x List.mem_cons_self s).trans (fold_adds g m l _ fun y hy => h y (List.mem_cons_of_mem _ hy))
theorem fires_few (hw : P.Well) (r : RV) (o : Int) : (P.fires r o).length ≤ 4 := by
  unfold PP.fires
  cases r.kind.toList == kCall with
  | true =>
    rw [cond_true]
    unfold PP.callsOf
    split
    · next h =>
      have hlt := funV_lt (P := P) (o := o) h
      rw [List.getD_eq_getElem?_getD, List.getElem?_eq_getElem (by omega)]
      exact called_few hw (List.getElem_mem _) r
    · simp
  | false =>
    rw [cond_false]
    split
    · simp
    · cases r.kind.toList == kLoad <;> simp
end
def PP.fullS (P : PP) : List (List Int) := List.replicate P.nodesV ((List.range P.objectsV).map fun o : Nat => (o : Int))
theorem fullS_ok {P : PP} (hw : P.Well) : SetsOk P P.fullS := by
  refine ⟨List.length_replicate, fun l hl => ?_⟩
  obtain rfl := List.eq_of_mem_replicate hl
  have h126 := hw.nodes
  refine ⟨chkE_zero.2 ⟨fun x hx => ?_, ?_⟩, fun x hx => ?_⟩
  · obtain ⟨o, ho, rfl⟩ := List.mem_map.1 hx
    have := List.mem_range.1 ho
    omega
  · show List.Pairwise (· < ·) _
    rw [List.pairwise_map]
    exact List.Pairwise.imp (R := (· < ·)) (fun h => by omega) List.pairwise_lt_range
  · obtain ⟨o, ho, rfl⟩ := List.mem_map.1 hx
    have := List.mem_range.1 ho
    omega
theorem fires_ed {P : PP} (hw : P.Well) {r : RV} (hr : r ∈ P.rulesV) (hf : r.fired = true) {o : Int} (ho : 0 ≤ o ∧ o < P.objectsV) (hp : 0 ≤ r.pivot ∧ r.pivot < P.nodesV) {e : Int × Int} (he : e ∈ P.fires r o) : EdIn P e := by
  have hmem : o ∈ P.fullS.getD r.pivot.toNat [] := by
    unfold PP.fullS
    rw [List.getD_eq_getElem?_getD, List.getElem?_replicate, if_pos (by omega)]
    refine List.mem_map.2 ⟨o.toNat, List.mem_range.2 (by omega), by omega⟩
  have h0 : e ∈ P.edges0 P.fullS := List.mem_flatMap.2 ⟨r, hr, fires_in hf hmem he⟩
  obtain ⟨h1, h2, h3, h4⟩ := edges0_in hw (fullS_ok hw) e h0
  exact ⟨⟨h1, h2⟩, h3, h4⟩
section
variable {P : PP} {me k : Int} {s : SH}
theorem fire_adds (hw : P.Well) (s : SH) {r : RV} (hr : r ∈ P.rulesV) {o : Int} (ho : 0 ≤ o ∧ o < P.objectsV) (hp : 0 ≤ r.pivot ∧ r.pivot < P.nodesV) : SH.Adds P me k 4 s (s.fire P me k r o) := by
  unfold SH.fire
  cases hf : r.fired with
  | false => exact (SH.Adds.refl s).more (by omega)
  | true =>
    rw [cond_true]
    have h4 := fires_few hw r o
    exact (fold_adds (SH.edge me k) 1 (P.fires r o) s fun e he s => edge_adds s (fires_ed hw hr hf ho hp he)).more (by omega)
theorem ask_adds (hw : P.Well) (s : SH) {f : Int × Int} (h1 : 0 ≤ f.1 ∧ f.1 < P.nodesV) (h2 : 0 ≤ f.2 ∧ f.2 < P.objectsV) {r : RV} (hr : r ∈ P.rulesV) : SH.Adds P me k 4 s (s.ask P me k f r) := by
  unfold SH.ask
  split
  · next hp => exact fire_adds hw s hr h2 (by rw [hp]; exact h1)
  · exact (SH.Adds.refl s).more (by omega)
theorem rulesV_len (P : PP) : P.rulesV.length = P.stmts.length := P.rulesUp_len _
def SH.put (s : SH) (f : Int × Int) : SH := { s with has := s.has ++ [f] }
def SH.link (s : SH) (e : Int × Int) : SH := { s with nxt := s.nxt ++ [e] }
theorem put_ok (h : s.Ok P me k) {f : Int × Int} (hn : f ∉ s.has) (h1 : 0 ≤ f.1 ∧ f.1 < P.nodesV) (h2 : 0 ≤ f.2 ∧ f.2 < P.objectsV) (h3 : f.1 % k = me) : (s.put f).Ok P me k := by
  refine ⟨List.nodup_append.2 ⟨h.hnd, by simp, fun a ha c hc => ?_⟩, fun g hg => ?_, h.nnd, h.nxt, h.todo, h.out⟩
  · rw [List.mem_singleton] at hc
    rintro rfl
    exact hn (hc ▸ ha)
  · rcases List.mem_append.1 hg with hg | hg
    · exact h.has g hg
    · obtain rfl := List.mem_singleton.1 hg
      exact ⟨h1, h2, h3⟩
theorem link_ok (h : s.Ok P me k) {e : Int × Int} (hn : e ∉ s.nxt) (h1 : EdIn P e) (h3 : e.1 % k = me) : (s.link e).Ok P me k := by
  refine ⟨h.hnd, h.has, List.nodup_append.2 ⟨h.nnd, by simp, fun a ha c hc => ?_⟩, fun g hg => ?_, h.todo, h.out⟩
  · rw [List.mem_singleton] at hc
    rintro rfl
    exact hn (hc ▸ ha)
  · rcases List.mem_append.1 hg with hg | hg
    · exact h.nxt g hg
    · obtain rfl := List.mem_singleton.1 hg
      exact ⟨h1.1, h1.2, h3⟩
def SH.sent (me k : Int) (s : SH) (f : Int × Int) : SH := (keysL s.nxt f.1).foldl (SH.sendTo me k f.2) (s.put f)
theorem sent_adds (h : s.Ok P me k) {f : Int × Int} (h2 : 0 ≤ f.2 ∧ f.2 < P.objectsV) : SH.Adds P me k 126 (s.put f) (s.sent me k f) := by
  have h4 := keysL_few s.nxt f.1
  exact (fold_adds (SH.sendTo me k f.2) 1 (keysL s.nxt f.1) (s.put f) fun t ht u => tell_adds u (nok_d (h.nxt _ (keysL_in ht).1).2.1 h2)).more (by omega)
theorem came_eq (s : SH) (f : Int × Int) : s.came P me k f = if f ∈ s.has then s else P.rulesV.foldl (SH.ask P me k f) (s.sent me k f) := rfl
theorem asks_adds (hw : P.Well) (s : SH) {f : Int × Int} (h1 : 0 ≤ f.1 ∧ f.1 < P.nodesV) (h2 : 0 ≤ f.2 ∧ f.2 < P.objectsV) : SH.Adds P me k 320 s (P.rulesV.foldl (SH.ask P me k f) s) := by
  have hl := rulesV_len P
  have hf := hw.few
  exact (fold_adds (SH.ask P me k f) 4 P.rulesV s fun r hr u => ask_adds hw u h1 h2 hr).more (by omega)
theorem came_adds (hw : P.Well) (h : s.Ok P me k) {f : Int × Int} (hn : f ∉ s.has) (h1 : 0 ≤ f.1 ∧ f.1 < P.nodesV) (h2 : 0 ≤ f.2 ∧ f.2 < P.objectsV) : SH.Adds P me k 446 (s.put f) (s.came P me k f) := by
  rw [came_eq, if_neg hn]
  exact ((sent_adds h h2).trans (asks_adds hw _ h1 h2)).more (by omega)
theorem joined_adds (h : s.Ok P me k) {e : Int × Int} (hn : e ∉ s.nxt) (h1 : EdIn P e) : SH.Adds P me k 126 (s.link e) (s.joined me k e) := by
  have h4 := keysL_few s.has e.1
  unfold SH.joined
  rw [if_neg hn]
  exact (fold_adds (SH.send me k e.2) 1 (keysL s.has e.1) (s.link e) fun o ho u => tell_adds u (nok_d h1.2 (h.has _ (keysL_in ho).1).2.1)).more (by omega)
structure SH.Grows (P : PP) (me k : Int) (s t : SH) : Prop where
  to : s.To t
  phi : t.phi ≤ s.phi
  ok : t.Ok P me k
theorem SH.Grows.refl (h : s.Ok P me k) : SH.Grows P me k s s := ⟨.refl s, Nat.le_refl _, h⟩
theorem SH.Grows.trans {s t u : SH} (h : SH.Grows P me k s t) (g : SH.Grows P me k t u) : SH.Grows P me k s u := ⟨h.to.trans g.to, Nat.le_trans g.phi h.phi, g.ok⟩
theorem put_to (s : SH) (f : Int × Int) : s.To (s.put f) := ⟨fun _ h => List.mem_append_left _ h, fun _ h => h, fun _ h => h, fun _ h => h⟩
theorem link_to (s : SH) (f : Int × Int) : s.To (s.link f) := ⟨fun _ h => h, fun _ h => List.mem_append_left _ h, fun _ h => h, fun _ h => h⟩
theorem came_grows (hw : P.Well) (h : s.Ok P me k) {f : Int × Int} (h1 : 0 ≤ f.1 ∧ f.1 < P.nodesV) (h2 : 0 ≤ f.2 ∧ f.2 < P.objectsV) (h3 : f.1 % k = me) : SH.Grows P me k s (s.came P me k f) ∧ f ∈ (s.came P me k f).has := by
  by_cases hn : f ∈ s.has
  · rw [came_eq, if_pos hn]; exact ⟨.refl h, hn⟩
  · have ha := came_adds hw h hn h1 h2 (me := me) (k := k)
    have hp := put_ok h hn h1 h2 h3
    have hok := ha.ok hp
    refine ⟨⟨(put_to s f).trans ha.to, ?_, hok⟩, ha.to.has _ (List.mem_append_right _ (List.mem_singleton.2 rfl))⟩
    have hl := ha.load
    have hf := hok.has_few hw
    have e1 : (s.put f).load = s.load := rfl
    have e2 : (s.came P me k f).has.length = s.has.length + 1 := by rw [ha.has]; exact List.length_append ..
    have e3 : (s.came P me k f).nxt.length = s.nxt.length := by rw [ha.nxt]; rfl
    unfold SH.phi
    rw [e2, e3]
    rw [e2] at hf
    omega
theorem joined_grows (hw : P.Well) (h : s.Ok P me k) {e : Int × Int} (h1 : EdIn P e) (h3 : e.1 % k = me) : SH.Grows P me k s (s.joined me k e) ∧ e ∈ (s.joined me k e).nxt := by
  by_cases hn : e ∈ s.nxt
  · unfold SH.joined
    rw [if_pos hn]; exact ⟨.refl h, hn⟩
  · have ha := joined_adds h hn h1
    have hp := link_ok h hn h1 h3
    have hok := ha.ok hp
    refine ⟨⟨(link_to s e).trans ha.to, ?_, hok⟩, ha.to.nxt _ (List.mem_append_right _ (List.mem_singleton.2 rfl))⟩
    have hl := ha.load
    have hf := hok.nxt_few hw
    have e1 : (s.link e).load = s.load := rfl
    have e2 : (s.joined me k e).has.length = s.has.length := by rw [ha.has]; rfl
    have e3 : (s.joined me k e).nxt.length = s.nxt.length + 1 := by rw [ha.nxt]; exact List.length_append ..
    unfold SH.phi
    rw [e2, e3]
    rw [e3] at hf
    omega
def SH.Taken (s : SH) (x : NV) : Prop := (x.kind = 101 → (x.nums.getD 0 0, x.nums.getD 1 0) ∈ s.nxt) ∧ (x.kind ≠ 101 → ∀ o ∈ x.nums.drop 1, (x.nums.getD 0 0, o) ∈ s.has)
theorem SH.Taken.to {s t : SH} {x : NV} (h : s.Taken x) (g : s.To t) : t.Taken x := ⟨fun e => g.nxt _ (h.1 e), fun e o ho => g.has _ (h.2 e o ho)⟩
theorem comes_grows (hw : P.Well) {n : Int} (h1 : 0 ≤ n ∧ n < P.nodesV) (h3 : n % k = me) : ∀ (l : List Int) {s : SH}, s.Ok P me k → (∀ o ∈ l, 0 ≤ o ∧ o < P.objectsV) → SH.Grows P me k s (l.foldl (SH.comes P me k n) s) ∧ ∀ o ∈ l, (n, o) ∈ (l.foldl (SH.comes P me k n) s).has
  | [], s, h, _ => ⟨.refl h, fun _ h => by cases h⟩
  | o :: l, s, h, hl => by
    obtain ⟨g1, g2⟩ := came_grows hw h (f := (n, o)) h1 (hl o List.mem_cons_self) h3
    obtain ⟨k1, k2⟩ := comes_grows hw h1 h3 l g1.ok fun q hq => hl q (List.mem_cons_of_mem _ hq)
    refine ⟨g1.trans k1, fun q hq => ?_⟩
    rcases List.mem_cons.1 hq with rfl | hq
    · exact k1.to.has _ g2
    · exact k2 q hq
theorem note_grows (hw : P.Well) (h : s.Ok P me k) {x : NV} (hx : NOk P k x) (hm : x.to = me) : SH.Grows P me k s (s.note P me k x) ∧ (s.note P me k x).Taken x := by
  unfold SH.note SH.Taken
  rcases hx.is with ⟨h1, n, l, h2, h3, h4, h5⟩ | ⟨h1, a, b, h2, h3, h4, h5⟩
  · rw [if_neg (by rw [h1]; decide), h2]
    show SH.Grows P me k s (l.foldl (SH.comes P me k n) s) ∧ _
    obtain ⟨g1, g2⟩ := comes_grows hw h3 (h4.symm.trans hm) l h h5
    exact ⟨g1, fun e => absurd e (by rw [h1]; decide), fun _ => g2⟩
  · rw [if_pos h1, h2]
    obtain ⟨g1, g2⟩ := joined_grows hw h (e := (a, b)) ⟨h3, h5⟩ (h4.symm.trans hm)
    exact ⟨g1, fun _ => g2, fun e => absurd h1 e⟩
theorem todo_ok (h : s.Ok P me k) {x : NV} {t : List NV} (ht : s.todo = x :: t) : ({ s with todo := t } : SH).Ok P me k :=
  ⟨h.hnd, h.has, h.nnd, h.nxt, fun y hy => h.todo y (by rw [ht]; exact List.mem_cons_of_mem _ hy), h.out⟩
theorem step_less (hw : P.Well) (h : s.Ok P me k) (hne : s.todo ≠ []) : (s.step P me k).Ok P me k ∧ (s.step P me k).phi < s.phi := by
  obtain ⟨x, t, ht⟩ : ∃ x t, s.todo = x :: t := by
    cases e : s.todo with
    | nil => exact absurd e hne
    | cons x t => exact ⟨x, t, rfl⟩
  obtain ⟨q1, q2⟩ := h.todo x (by rw [ht]; exact List.mem_cons_self)
  obtain ⟨g1, g2⟩ := note_grows hw (todo_ok h ht) q1 q2
  unfold SH.step
  rw [ht]
  refine ⟨g1.ok, Nat.lt_of_le_of_lt g1.phi ?_⟩
  unfold SH.phi SH.load
  rw [ht, List.length_cons]
  show t.length + s.out.length + 900 * (15120 - s.has.length) + 130 * (14400 - s.nxt.length) < _
  omega
end
def SH.Dn (T : NV → Prop) (s : SH) (x : NV) : Prop := s.Taken x ∨ x ∈ s.todo ∨ x ∈ s.out ∨ T x
structure Loc (P : PP) (k : Int) (T : NV → Prop) (s : SH) : Prop where
  along : ∀ e ∈ s.nxt, ∀ o, (e.1, o) ∈ s.has → s.Dn T ⟨e.2 % k, 100, [e.2, o]⟩
  told : ∀ r ∈ P.rulesV, r.fired = true → ∀ o, (r.pivot, o) ∈ s.has → ∀ e ∈ P.fires r o, e.1 = e.2 ∨ s.Dn T ⟨e.1 % k, 101, [e.1, e.2]⟩
structure Begun (P : PP) (me k : Int) (T : NV → Prop) (s : SH) : Prop where
  base : ∀ r ∈ P.rulesV, r.kind.toList = bBase.toList → r.a % k = me → s.Dn T ⟨r.a % k, 100, [r.a, r.b]⟩
  copy : ∀ r ∈ P.rulesV, r.kind.toList = kCopy → r.a % k = me → r.a = r.b ∨ s.Dn T ⟨r.a % k, 101, [r.a, r.b]⟩
def SndN (P : PP) (S : List (List Int)) (x : NV) : Prop := (x.kind = 101 → SndE P S (x.nums.getD 0 0, x.nums.getD 1 0)) ∧ (x.kind ≠ 101 → ∀ o ∈ x.nums.drop 1, o ∈ S.getD (x.nums.getD 0 0).toNat [])
structure SndS (P : PP) (S : List (List Int)) (s : SH) : Prop where
  has : ∀ f ∈ s.has, f.2 ∈ S.getD f.1.toNat []
  nxt : ∀ e ∈ s.nxt, SndE P S e
  todo : ∀ x ∈ s.todo, SndN P S x
  out : ∀ x ∈ s.out, SndN P S x
section
variable {P : PP} {me k : Int} {T : NV → Prop} {s t : SH} {S : List (List Int)}
theorem SH.Dn.to {x : NV} (h : s.Dn T x) (g : s.To t) : t.Dn T x := by
  rcases h with h | h | h | h
  · exact .inl (h.to g)
  · exact .inr (.inl (g.todo _ h))
  · exact .inr (.inr (.inl (g.out _ h)))
  · exact .inr (.inr (.inr h))
theorem SH.Dn.more {T' : NV → Prop} {x : NV} (h : s.Dn T x) (g : ∀ y, T y → T' y) : s.Dn T' x := h.imp id (·.imp id (·.imp id (g x)))
theorem Loc.grown (h : Loc P k T s) (g : s.To t) (h1 : t.has = s.has) (h2 : t.nxt = s.nxt) : Loc P k T t :=
  ⟨fun e he o ho => (h.along e (h2 ▸ he) o (h1 ▸ ho)).to g, fun r hr hf o ho e he => (h.told r hr hf o (h1 ▸ ho) e he).imp id fun d => d.to g⟩
theorem Begun.to (h : Begun P me k T s) (g : s.To t) : Begun P me k T t := ⟨fun r hr h1 h2 => (h.base r hr h1 h2).to g, fun r hr h1 h2 => (h.copy r hr h1 h2).imp id fun d => d.to g⟩
def SH.On (s : SH) (x : NV) : Prop := x ∈ s.todo ∨ x ∈ s.out
theorem SH.On.to {x : NV} (h : s.On x) (g : s.To t) : t.On x := h.imp (g.todo _) (g.out _)
theorem SH.On.dn {x : NV} (h : s.On x) : s.Dn T x := .inr (h.imp id .inl)
theorem fold_in {α : Type} (g : SH → α → SH) (Q : α → SH → Prop) (hQ : ∀ x s t, s.To t → Q x s → Q x t) : ∀ (l : List α) (s : SH), (∀ x ∈ l, ∀ s, s.To (g s x) ∧ Q x (g s x)) → s.To (l.foldl g s) ∧ ∀ x ∈ l, Q x (l.foldl g s)
  | [], s, _ => ⟨.refl s, fun _ h => by cases h⟩
  | x :: l, s, h => by
    obtain ⟨h1, h2⟩ := h x List.mem_cons_self s
    obtain ⟨k1, k2⟩ := fold_in g Q hQ l (g s x) fun y hy => h y (List.mem_cons_of_mem _ hy)
    refine ⟨h1.trans k1, fun y hy => ?_⟩
    rcases List.mem_cons.1 hy with rfl | hy
    · exact hQ _ _ _ k1 h2
    · exact k2 y hy
theorem edge_on (s : SH) (e : Int × Int) : s.To (s.edge me k e) ∧ (e.1 = e.2 ∨ (s.edge me k e).On ⟨e.1 % k, 101, [e.1, e.2]⟩) := by
  unfold SH.edge
  split
  · next h => exact ⟨.refl s, .inl h⟩
  · exact ⟨tell_to _ _ _ _, .inr (tell_in _ _ _ _)⟩
def AllOn (P : PP) (k : Int) (r : RV) (o : Int) (s : SH) : Prop := ∀ e ∈ P.fires r o, e.1 = e.2 ∨ s.On ⟨e.1 % k, 101, [e.1, e.2]⟩
theorem ask_on (s : SH) (f : Int × Int) (r : RV) : s.To (s.ask P me k f r) ∧ (r.fired = true → r.pivot = f.1 → AllOn P k r f.2 (s.ask P me k f r)) := by
  unfold SH.ask
  split
  · next hp =>
    unfold SH.fire
    cases hf : r.fired with
    | false => exact ⟨.refl s, fun h => by cases h⟩
    | true =>
      rw [cond_true]
      obtain ⟨h1, h2⟩ := fold_in (SH.edge me k) (fun e s => e.1 = e.2 ∨ s.On ⟨e.1 % k, 101, [e.1, e.2]⟩) (fun x s t g h => h.imp id fun q => q.to g) (P.fires r f.2) s fun e _ s => edge_on s e
      exact ⟨h1, fun _ _ => h2⟩
  · next hp => exact ⟨.refl s, fun _ h => absurd h hp⟩
theorem came_loc (h : Loc P k T s) (hw : P.Well) (hok : s.Ok P me k) {f : Int × Int} (h1 : 0 ≤ f.1 ∧ f.1 < P.nodesV) (h2 : 0 ≤ f.2 ∧ f.2 < P.objectsV) : Loc P k T (s.came P me k f) := by
  by_cases hn : f ∈ s.has
  · rw [came_eq, if_pos hn]; exact h
  · have ha := came_adds hw hok hn h1 h2 (me := me) (k := k)
    have hto := (put_to s f).trans ha.to
    obtain ⟨a1, a2⟩ := fold_in (SH.sendTo me k f.2) (fun t s => s.On ⟨t % k, 100, [t, f.2]⟩) (fun x s t g h => h.to g) (keysL s.nxt f.1) (s.put f) fun t _ u => ⟨tell_to _ _ _ _, tell_in _ _ _ _⟩
    obtain ⟨b1, b2⟩ := fold_in (SH.ask P me k f) (fun r s => r.fired = true → r.pivot = f.1 → AllOn P k r f.2 s) (fun x s t g h e1 e2 e he => (h e1 e2 e he).imp id fun q => q.to g) P.rulesV (s.sent me k f) fun r _ u => ask_on u f r
    have hce : s.came P me k f = P.rulesV.foldl (SH.ask P me k f) (s.sent me k f) := by rw [came_eq, if_neg hn]
    refine ⟨fun e he o ho => ?_, fun r hr hf o ho e he => ?_⟩
    · rw [ha.nxt] at he
      rw [ha.has] at ho
      rcases List.mem_append.1 ho with ho | ho
      · exact (h.along e he o ho).to hto
      · obtain ⟨e1, e2⟩ := Prod.mk.inj (List.mem_singleton.1 ho)
        subst e2
        refine SH.On.dn ?_
        rw [hce]
        refine (a2 e.2 ((mem_keysL (hok.nxt126 hw)).2 ?_)).to b1
        rw [← e1]; exact he
    · rw [ha.has] at ho
      rcases List.mem_append.1 ho with ho | ho
      · exact (h.told r hr hf o ho e he).imp id fun d => d.to hto
      · obtain ⟨e1, e2⟩ := Prod.mk.inj (List.mem_singleton.1 ho)
        subst e2
        rw [hce]
        exact (b2 r hr hf e1 e he).imp id fun q => q.dn
theorem joined_loc (h : Loc P k T s) (hw : P.Well) (hok : s.Ok P me k) {e : Int × Int} (h1 : EdIn P e) : Loc P k T (s.joined me k e) := by
  by_cases hn : e ∈ s.nxt
  · unfold SH.joined
    rw [if_pos hn]; exact h
  · have ha := joined_adds hok hn h1 (me := me) (k := k)
    have hto := (link_to s e).trans ha.to
    obtain ⟨a1, a2⟩ := fold_in (SH.send me k e.2) (fun o s => s.On ⟨e.2 % k, 100, [e.2, o]⟩) (fun x s t g h => h.to g) (keysL s.has e.1) (s.link e) fun t _ u => ⟨tell_to _ _ _ _, tell_in _ _ _ _⟩
    have hce : s.joined me k e = (keysL s.has e.1).foldl (SH.send me k e.2) (s.link e) := by unfold SH.joined; rw [if_neg hn]; rfl
    refine ⟨fun g hg o ho => ?_, fun r hr hf o ho g hg => ?_⟩
    · rw [ha.nxt] at hg
      rw [ha.has] at ho
      rcases List.mem_append.1 hg with hg | hg
      · exact (h.along g hg o ho).to hto
      · obtain rfl := List.mem_singleton.1 hg
        refine SH.On.dn ?_
        rw [hce]
        exact a2 o ((mem_keysL (hok.has126 hw)).2 ho)
    · rw [ha.has] at ho
      exact (h.told r hr hf o ho g hg).imp id fun d => d.to hto
theorem comes_loc (hw : P.Well) {n : Int} (h1 : 0 ≤ n ∧ n < P.nodesV) (h3 : n % k = me) : ∀ (l : List Int) {s : SH}, Loc P k T s → s.Ok P me k → (∀ o ∈ l, 0 ≤ o ∧ o < P.objectsV) → Loc P k T (l.foldl (SH.comes P me k n) s)
  | [], _, h, _, _ => h
  | o :: l, s, h, hok, hl => comes_loc hw h1 h3 l (came_loc h hw hok h1 (hl o List.mem_cons_self)) (came_grows hw hok (f := (n, o)) h1 (hl o List.mem_cons_self) h3).1.ok fun q hq => hl q (List.mem_cons_of_mem _ hq)
theorem note_loc (h : Loc P k T s) (hw : P.Well) (hok : s.Ok P me k) {x : NV} (hx : NOk P k x) (hm : x.to = me) : Loc P k T (s.note P me k x) := by
  unfold SH.note
  rcases hx.is with ⟨h1, n, l, h2, h3, h4, h5⟩ | ⟨h1, a, b, h2, h3, h4, h5⟩
  · rw [if_neg (by rw [h1]; decide), h2]
    exact comes_loc hw h3 (h4.symm.trans hm) l h hok h5
  · rw [if_pos h1, h2]
    exact joined_loc h hw hok (e := (a, b)) ⟨h3, h5⟩
theorem step_dn (hw : P.Well) (hok : s.Ok P me k) {y : NV} (h : s.Dn T y) : (s.step P me k).Dn T y := by
  unfold SH.step
  cases ht : s.todo with
  | nil => exact h
  | cons x t =>
    obtain ⟨q1, q2⟩ := hok.todo x (by rw [ht]; exact List.mem_cons_self)
    obtain ⟨g1, g2⟩ := note_grows hw (todo_ok hok ht) q1 q2
    rcases h with h | h | h | h
    · exact .inl (SH.Taken.to (s := { s with todo := t }) h g1.to)
    · rw [ht] at h
      rcases List.mem_cons.1 h with rfl | h
      · exact .inl g2
      · exact .inr (.inl (g1.to.todo _ h))
    · exact .inr (.inr (.inl (g1.to.out _ h)))
    · exact .inr (.inr (.inr h))
theorem step_loc (hw : P.Well) (hok : s.Ok P me k) (h : Loc P k T s) : Loc P k T (s.step P me k) := by
  unfold SH.step
  cases ht : s.todo with
  | nil => exact h
  | cons x t =>
    obtain ⟨q1, q2⟩ := hok.todo x (by rw [ht]; exact List.mem_cons_self)
    obtain ⟨g1, g2⟩ := note_grows hw (todo_ok hok ht) q1 q2
    have hd : ∀ y, s.Dn T y → ({ s with todo := t } : SH).Dn (fun y => T y ∨ y = x) y := fun y h => by
      rcases h with h | h | h | h
      · exact .inl h
      · rw [ht] at h
        rcases List.mem_cons.1 h with rfl | h
        · exact .inr (.inr (.inr (.inr rfl)))
        · exact .inr (.inl h)
      · exact .inr (.inr (.inl h))
      · exact .inr (.inr (.inr (.inl h)))
    have hl : Loc P k (fun y => T y ∨ y = x) { s with todo := t } := ⟨fun e he o ho => hd _ (h.along e he o ho), fun r hr hf o ho e he => (h.told r hr hf o ho e he).imp id (hd _)⟩
    have hl2 := note_loc hl hw (todo_ok hok ht) q1 q2
    have hb : ∀ y, (SH.note P me k { s with todo := t } x).Dn (fun y => T y ∨ y = x) y → (SH.note P me k { s with todo := t } x).Dn T y := fun y h => by
      rcases h with h | h | h | h | h
      · exact .inl h
      · exact .inr (.inl h)
      · exact .inr (.inr (.inl h))
      · exact .inr (.inr (.inr h))
      · rw [h]; exact .inl g2
    exact ⟨fun e he o ho => hb _ (hl2.along e he o ho), fun r hr hf o ho e he => (hl2.told r hr hf o ho e he).imp id (hb _)⟩
theorem step_begun (hw : P.Well) (hok : s.Ok P me k) (h : Begun P me k T s) : Begun P me k T (s.step P me k) :=
  ⟨fun r hr h1 h2 => step_dn hw hok (h.base r hr h1 h2), fun r hr h1 h2 => (h.copy r hr h1 h2).imp id (step_dn hw hok)⟩
theorem tell_snd (h : SndS P S s) {n c : Int} {l : List Int} (hx : SndN P S ⟨n % k, c, l⟩) : SndS P S (s.tell me k n c l) := by
  refine ⟨by rw [tell_has]; exact h.has, by rw [tell_nxt]; exact h.nxt, fun x hx' => ?_, fun x hx' => ?_⟩
  · rcases tell_todo s n c l hx' with g | ⟨rfl, _⟩
    · exact h.todo x g
    · exact hx
  · rcases tell_out s n c l hx' with g | ⟨rfl, _⟩
    · exact h.out x g
    · exact hx
theorem sndn_d {to n o : Int} (h : o ∈ S.getD n.toNat []) : SndN P S ⟨to, 100, [n, o]⟩ := ⟨fun e => absurd (show (100 : Int) = 101 from e) (by decide), fun _ x hx => by
  obtain rfl := List.mem_singleton.1 hx
  exact h⟩
theorem sndn_e {to : Int} {e : Int × Int} (h : SndE P S e) : SndN P S ⟨to, 101, [e.1, e.2]⟩ := ⟨fun _ => h, fun e => absurd rfl e⟩
theorem fold_snd {α : Type} (g : SH → α → SH) : ∀ (l : List α) {s : SH}, SndS P S s → (∀ x ∈ l, ∀ s, SndS P S s → SndS P S (g s x)) → SndS P S (l.foldl g s)
  | [], _, h, _ => h
  | x :: l, s, h, hl => fold_snd g l (hl x List.mem_cons_self s h) fun y hy => hl y (List.mem_cons_of_mem _ hy)
theorem edge_snd (h : SndS P S s) {e : Int × Int} (he : SndE P S e) : SndS P S (s.edge me k e) := by
  unfold SH.edge
  split
  · exact h
  · exact tell_snd h (sndn_e he)
theorem came_snd (hg : P.GoodS S) (hc : ClosedP P S) (h : SndS P S s) {f : Int × Int} (hf : f.2 ∈ S.getD f.1.toNat []) : SndS P S (s.came P me k f) := by
  rw [came_eq]
  split
  · exact h
  · refine fold_snd _ _ (fold_snd _ _ ⟨fun g hg => ?_, h.nxt, h.todo, h.out⟩ fun t ht u hu => ?_) fun r hr u hu => ?_
    · rcases List.mem_append.1 hg with hg | hg
      · exact h.has g hg
      · rw [List.mem_singleton.1 hg]; exact hf
    · have := (h.nxt _ (keysL_in ht).1).2.2 f.2 hf
      exact tell_snd hu (sndn_d this)
    · unfold SH.ask
      split
      · next hp =>
        unfold SH.fire
        cases hfd : r.fired with
        | false => exact hu
        | true => exact fold_snd _ _ hu fun e he v hv => edge_snd hv (sndE_of hg hc hr (fires_in hfd (by rw [hp]; exact hf) he))
      · exact hu
theorem joined_snd (h : SndS P S s) {e : Int × Int} (he : SndE P S e) : SndS P S (s.joined me k e) := by
  unfold SH.joined
  split
  · exact h
  · refine fold_snd _ _ ⟨h.has, fun g hg => ?_, h.todo, h.out⟩ fun o ho u hu => ?_
    · rcases List.mem_append.1 hg with hg | hg
      · exact h.nxt g hg
      · rw [List.mem_singleton.1 hg]; exact he
    · exact tell_snd hu (sndn_d (he.2.2 o (h.has _ (keysL_in ho).1)))
theorem note_snd (hg : P.GoodS S) (hc : ClosedP P S) (h : SndS P S s) {x : NV} (hx : SndN P S x) : SndS P S (s.note P me k x) := by
  unfold SH.note
  split
  · next hk => exact joined_snd h (hx.1 hk)
  · next hk => exact fold_snd _ _ h fun o ho u hu => came_snd hg hc hu (hx.2 hk o ho)
theorem step_snd (hg : P.GoodS S) (hc : ClosedP P S) (h : SndS P S s) : SndS P S (s.step P me k) := by
  unfold SH.step
  cases ht : s.todo with
  | nil => exact h
  | cons x t =>
    have h1 : SndS P S { s with todo := t } := ⟨h.has, h.nxt, fun y hy => h.todo y (by rw [ht]; exact List.mem_cons_of_mem x hy), h.out⟩
    exact note_snd hg hc h1 (h.todo x (by rw [ht]; exact List.mem_cons_self))
structure SH.Full (P : PP) (me k : Int) (T : NV → Prop) (s : SH) : Prop where
  ok : s.Ok P me k
  loc : Loc P k T s
  begun : Begun P me k T s
theorem SH.Full.step (hw : P.Well) (h : s.Full P me k T) (hne : s.todo ≠ []) : (s.step P me k).Full P me k T := ⟨(step_less hw h.ok hne).1, step_loc hw h.ok h.loc, step_begun hw h.ok h.begun⟩
theorem SH.Full.to (h : s.Full P me k T) (g : s.To t) (h1 : t.has = s.has) (h2 : t.nxt = s.nxt) (ho : t.Ok P me k) : t.Full P me k T := ⟨ho, h.loc.grown g h1 h2, h.begun.to g⟩
theorem Loc.more {T' : NV → Prop} (h : Loc P k T s) (hT : ∀ y, T y → T' y) : Loc P k T' s := ⟨fun e he o ho => (h.along e he o ho).more hT, fun r hr hf o ho e he => (h.told r hr hf o ho e he).imp id fun d => d.more hT⟩
theorem Begun.more {T' : NV → Prop} (h : Begun P me k T s) (hT : ∀ y, T y → T' y) : Begun P me k T' s := ⟨fun r hr h1 h2 => (h.base r hr h1 h2).more hT, fun r hr h1 h2 => (h.copy r hr h1 h2).imp id fun d => d.more hT⟩
end
theorem nmod {a : Int} (h : 0 ≤ a) (k : Nat) : a % (k : Int) = ((a.toNat % k : Nat) : Int) := by
  obtain ⟨n, rfl⟩ := Int.eq_ofNat_of_zero_le h
  simp
def setsOf (P : PP) (k : Nat) (s : Nat → SH) : List (List Int) := (List.range P.nodesV).map fun n : Nat => keysL (s (n % k)).has (n : Int)
theorem setsOf_getD {P : PP} {k : Nat} {s : Nat → SH} {n : Nat} (hn : n < P.nodesV) : (setsOf P k s).getD n [] = keysL (s (n % k)).has (n : Int) := by
  unfold setsOf
  rw [List.getD_eq_getElem?_getD, List.getElem?_map, List.getElem?_range hn]; rfl
theorem shards_done {P : PP} {S : List (List Int)} {m : Nat} (hL : LeastAt P m S) (hw : P.Well) (k : Nat) (hk : 0 < k) (s : Nat → SH) (T : Nat → NV → Prop)
    (hf : ∀ i, i < k → (s i).Full P (i : Nat) k (T i)) (ht : ∀ i, i < k → (s i).todo = [] ∧ (s i).out = []) (hs : ∀ i, i < k → SndS P S (s i)) (hT : ∀ i, i < k → ∀ x, T i x → ∃ j, j < k ∧ (s j).Taken x) {n : Nat} (hn : n < P.nodesV) : keysL (s (n % k)).has (n : Int) = S.getD n [] := by
  have hg := hL.good hw
  have h126 := hw.nodes
  have hlt : ∀ n : Nat, n % k < k := fun n => Nat.mod_lt _ hk
  have dn : ∀ i, i < k → ∀ x, (s i).Dn (T i) x → ∃ j, j < k ∧ (s j).Taken x := fun i hi x hx => by
    rcases hx with hx | hx | hx | hx
    · exact ⟨i, hi, hx⟩
    · rw [(ht i hi).1] at hx; cases hx
    · rw [(ht i hi).2] at hx; cases hx
    · exact hT i hi x hx
  have fact : ∀ {i : Nat}, i < k → ∀ {to b o : Int}, (s i).Dn (T i) ⟨to, 100, [b, o]⟩ → o ∈ (setsOf P k s).getD b.toNat [] := fun {i} hi {to b o} hd => by
    obtain ⟨j, hj, h1⟩ := dn _ hi _ hd
    have h2 : (b, o) ∈ (s j).has := h1.2 (show ¬ (100 : Int) = 101 by decide) o (List.mem_singleton.2 rfl)
    obtain ⟨⟨a1, a2⟩, ⟨a3, a4⟩, a5⟩ := (hf j hj).ok.has _ h2
    simp only at a1 a2 a3 a4 a5
    obtain ⟨c, rfl⟩ := Int.eq_ofNat_of_zero_le a1
    rw [Int.toNat_natCast, setsOf_getD (by omega)]
    have hjc : c % k = j := by rw [nmod (Int.natCast_nonneg c)] at a5; simp only [Int.toNat_natCast] at a5; exact Int.ofNat.inj a5
    rw [hjc]
    exact (mem_keysL ((hf j hj).ok.has126 hw)).2 h2
  have edge : ∀ {i : Nat}, i < k → ∀ {to a b : Int}, (s i).Dn (T i) ⟨to, 101, [a, b]⟩ → (a, b) ∈ (s (a.toNat % k)).nxt := fun {i} hi {to a b} hd => by
    obtain ⟨j, hj, h1⟩ := dn _ hi _ hd
    have h2 : (a, b) ∈ (s j).nxt := h1.1 rfl
    obtain ⟨⟨a1, a2⟩, _, a5⟩ := (hf j hj).ok.nxt _ h2
    simp only at a1 a2 a5
    obtain ⟨c, rfl⟩ := Int.eq_ofNat_of_zero_le a1
    have hjc : c % k = j := by rw [nmod (Int.natCast_nonneg c)] at a5; simp only [Int.toNat_natCast] at a5; exact Int.ofNat.inj a5
    rw [Int.toNat_natCast, hjc]
    exact h2
  have hasOf : ∀ {n : Nat}, n < P.nodesV → ∀ {q : Int}, q ∈ (setsOf P k s).getD n [] → ((n : Int), q) ∈ (s (n % k)).has := fun {n} hn {q} hq => by
    rw [setsOf_getD hn] at hq
    exact (keysL_in hq).1
  have hgs : P.GoodS (setsOf P k s) := by
    refine ⟨hw, by unfold setsOf; rw [List.length_map, List.length_range], fun l hl => ?_⟩
    obtain ⟨n, hn, rfl⟩ := List.mem_map.1 hl
    have hx : ∀ x ∈ keysL (s (n % k)).has (n : Int), 0 ≤ x ∧ x < (P.objectsV : Int) := fun x hx => ((hf _ (hlt n)).ok.has _ (keysL_in hx).1).2.1
    exact setE_of (chkE_zero.2 ⟨fun x h => by have := hx x h; omega, keysL_srt _ _⟩) fun x h => (hx x h).2
  have hcl : ClosedP P (setsOf P k s) := by
    refine ⟨fun i hi hb => ?_, fun e he hne q hq => ?_⟩
    · have hrk : P.ruleV i (P.stAt i) ∈ P.rulesV := List.mem_map.2 ⟨i, List.mem_range.2 hi, rfl⟩
      have ha := rule_a_in hw hi
      have hm : (P.ruleV i (P.stAt i)).a % (k : Int) = (((P.ruleV i (P.stAt i)).a.toNat % k : Nat) : Int) := nmod ha.1 k
      exact fact (hlt _) ((hf _ (hlt (P.ruleV i (P.stAt i)).a.toNat)).begun.base _ hrk hb hm)
    · obtain ⟨r, hrv, her⟩ := List.mem_flatMap.1 he
      obtain ⟨i1, i2, i3, i4⟩ := edges0_in hw hgs.ok e he
      have hin : e ∈ (s (e.1.toNat % k)).nxt := by
        cases hfd : r.fired with
        | false =>
          rcases rule_kinds hw hrv with g | g | g
          · rw [redges_nil' g] at her; cases her
          · have her2 : e = (r.a, r.b) := by
              unfold PP.redges at her
              rw [show (r.kind.toList == kCopy) = true from by rw [g]; decide, cond_true] at her
              exact List.mem_singleton.1 her
            have hm : r.a % (k : Int) = ((r.a.toNat % k : Nat) : Int) := by
              rw [her2] at i1
              exact nmod i1 k
            rcases (hf _ (hlt r.a.toNat)).begun.copy r hrv g hm with c | c
            · rw [her2] at hne; exact absurd c hne
            · rw [her2]; exact edge (hlt _) c
          · rw [hfd] at g; cases g
        | true =>
          obtain ⟨i, hi, hri⟩ := List.mem_map.1 hrv
          have hi := List.mem_range.1 hi
          have hp0 : 0 ≤ r.pivot := by rw [← hri]; exact pivot_in hw hi (by rw [hri]; exact hfd)
          obtain ⟨o, ho, hfo⟩ := redges_out hfd her
          have hpn : r.pivot.toNat < P.nodesV := by
            rcases Nat.lt_or_ge r.pivot.toNat P.nodesV with g | g
            · exact g
            · rw [List.getD_eq_getElem?_getD, List.getElem?_eq_none (by rw [hgs.2.1]; exact g)] at ho; cases ho
          have ho2 := hasOf hpn ho
          rw [Int.toNat_of_nonneg hp0] at ho2
          rcases (hf _ (hlt r.pivot.toNat)).loc.told r hrv hfd o ho2 e hfo with c | c
          · exact absurd c hne
          · exact edge (hlt _) c
      have hq2 := hasOf (by omega : e.1.toNat < P.nodesV) hq
      rw [Int.toNat_of_nonneg i1] at hq2
      exact fact (hlt _) ((hf _ (hlt e.1.toNat)).loc.along e hin q hq2)
  have hsub := hL.within hgs hcl
  refine srt_uniq (keysL_srt _ _) ?_ fun o => ⟨fun ho => ?_, fun ho => ?_⟩
  · rw [List.getD_eq_getElem?_getD]
    cases hl : S[n]? with
    | none => exact List.Pairwise.nil
    | some l => exact (chkE_zero.1 (hg.ok.ok l (List.mem_of_getElem? hl)).1).2
  · exact (hs _ (hlt n)).has _ (keysL_in ho).1
  · have := hsub n o ho
    rwa [setsOf_getD hn] at this
def SH.begin (me k : Int) (s : SH) (r : RV) : SH :=
  if r.a % k = me then (bif r.kind.toList == bBase.toList then s.tell me k r.a 100 [r.a, r.b] else bif r.kind.toList == kCopy then s.edge me k (r.a, r.b) else s) else s
def SH.none : SH := ⟨[], [], [], []⟩
def SH.start (P : PP) (me k : Int) : SH := P.rulesV.foldl (SH.begin me k) SH.none
section
variable {P : PP} {me k : Int} {S : List (List Int)}
theorem rule_a {r : RV} (hw : P.Well) (hr : r ∈ P.rulesV) : 0 ≤ r.a ∧ r.a < P.nodesV := by
  obtain ⟨i, hi, rfl⟩ := List.mem_map.1 hr
  have ha := rule_a_in hw (List.mem_range.1 hi)
  have hn := nodes_vars P
  omega
theorem rule_base {r : RV} (hw : P.Well) (hr : r ∈ P.rulesV) (hb : r.kind.toList = bBase.toList) : 0 ≤ r.b ∧ r.b < P.objectsV := by
  obtain ⟨i, hi, rfl⟩ := List.mem_map.1 hr
  exact base_b_in hw (List.mem_range.1 hi) hb
theorem rule_copy {r : RV} (hw : P.Well) (hr : r ∈ P.rulesV) (hb : r.kind.toList = kCopy) : EdIn P (r.a, r.b) := by
  have h0 : (r.a, r.b) ∈ P.edges0 P.fullS := List.mem_flatMap.2 ⟨r, hr, by
    unfold PP.redges
    rw [show (r.kind.toList == kCopy) = true by rw [hb]; decide, cond_true]
    exact List.mem_singleton.2 rfl⟩
  obtain ⟨h1, h2, h3, h4⟩ := edges0_in hw (fullS_ok hw) _ h0
  exact ⟨⟨h1, h2⟩, h3, h4⟩
theorem begin_adds (hw : P.Well) (s : SH) {r : RV} (hr : r ∈ P.rulesV) : SH.Adds P me k 1 s (s.begin me k r) := by
  unfold SH.begin
  split
  · cases h1 : (r.kind.toList == bBase.toList) with
    | true => exact tell_adds s (nok_d (rule_a hw hr) (rule_base hw hr (eq_of_beq h1)))
    | false =>
      rw [cond_false]
      cases h2 : (r.kind.toList == kCopy) with
      | true => exact edge_adds s (rule_copy hw hr (eq_of_beq h2))
      | false => exact (SH.Adds.refl s).more (by omega)
  · exact (SH.Adds.refl s).more (by omega)
theorem begins_adds (hw : P.Well) (j : Nat) : SH.Adds P me k 80 SH.none ((P.rulesV.take j).foldl (SH.begin me k) SH.none) := by
  have hl := rulesV_len P
  have hf := hw.few
  refine (fold_adds (SH.begin me k) 1 (P.rulesV.take j) SH.none fun r hr s => begin_adds hw s (List.mem_of_mem_take hr)).more ?_
  rw [List.length_take]
  omega
theorem none_ok : SH.none.Ok P me k := ⟨List.nodup_nil, fun _ h => (by cases h), List.nodup_nil, fun _ h => (by cases h), fun _ h => (by cases h), fun _ h => (by cases h)⟩
theorem start_take (P : PP) (me k : Int) : SH.start P me k = (P.rulesV.take P.rulesV.length).foldl (SH.begin me k) SH.none := by rw [List.take_length]; rfl
theorem start_okS (hw : P.Well) : (SH.start P me k).Ok P me k ∧ (SH.start P me k).phi ≤ 20000000 := by
  rw [start_take]
  have h := begins_adds (me := me) (k := k) hw P.rulesV.length
  refine ⟨h.ok none_ok, ?_⟩
  have h1 := h.load
  have h2 : SH.none.load = 0 := rfl
  unfold SH.phi
  rw [h.has, h.nxt]
  show _ + 900 * (15120 - 0) + 130 * (14400 - 0) ≤ _
  omega
theorem begin_on (s : SH) (r : RV) : s.To (s.begin me k r) ∧ ((r.kind.toList = bBase.toList → r.a % k = me → (s.begin me k r).On ⟨r.a % k, 100, [r.a, r.b]⟩) ∧ (r.kind.toList = kCopy → r.a % k = me → r.a = r.b ∨ (s.begin me k r).On ⟨r.a % k, 101, [r.a, r.b]⟩)) := by
  have hbc : bBase.toList ≠ kCopy := by rw [eq_of_beq bBase_list]; decide
  unfold SH.begin
  split
  · cases h1 : (r.kind.toList == bBase.toList) with
    | true =>
      rw [cond_true]
      exact ⟨tell_to _ _ _ _, fun _ _ => tell_in _ _ _ _, fun h => absurd ((eq_of_beq h1).symm.trans h) hbc⟩
    | false =>
      rw [cond_false]
      cases h2 : (r.kind.toList == kCopy) with
      | true =>
        rw [cond_true]
        obtain ⟨g1, g2⟩ := edge_on (me := me) (k := k) s (r.a, r.b)
        exact ⟨g1, fun h => by rw [h] at h1; simp at h1, fun _ _ => g2⟩
      | false => exact ⟨.refl s, fun h => by rw [h] at h1; simp at h1, fun h => by rw [h] at h2; simp at h2⟩
  · next hm => exact ⟨.refl s, fun _ h => absurd h hm, fun _ h => absurd h hm⟩
theorem start_full (hw : P.Well) : (SH.start P me k).Full P me k fun _ => False := by
  obtain ⟨h1, h2⟩ := fold_in (SH.begin me k) (fun r s => (r.kind.toList = bBase.toList → r.a % k = me → s.On ⟨r.a % k, 100, [r.a, r.b]⟩) ∧ (r.kind.toList = kCopy → r.a % k = me → r.a = r.b ∨ s.On ⟨r.a % k, 101, [r.a, r.b]⟩)) (fun r s t g h => ⟨fun e1 e2 => (h.1 e1 e2).to g, fun e1 e2 => (h.2 e1 e2).imp id fun q => q.to g⟩) P.rulesV SH.none fun r _ s => begin_on s r
  have ha := begins_adds (me := me) (k := k) hw P.rulesV.length
  rw [← start_take] at ha
  have e1 : (SH.start P me k).has = [] := ha.has
  have e2 : (SH.start P me k).nxt = [] := ha.nxt
  refine ⟨(start_okS hw).1, ⟨fun e he => (by rw [e2] at he; cases he), fun r _ _ o ho => (by rw [e1] at ho; cases ho)⟩, ⟨fun r hr g1 g2 => ((h2 r hr).1 g1 g2).dn, fun r hr g1 g2 => ((h2 r hr).2 g1 g2).imp id fun q => q.dn⟩⟩
theorem start_snd (hg : P.GoodS S) (hc : ClosedP P S) : SndS P S (SH.start P me k) := by
  refine fold_snd _ _ ⟨fun _ h => (by cases h), fun _ h => (by cases h), fun _ h => (by cases h), fun _ h => (by cases h)⟩ fun r hr s hs => ?_
  unfold SH.begin
  split
  · cases h1 : (r.kind.toList == bBase.toList) with
    | true =>
      rw [cond_true]
      obtain ⟨i, hi, rfl⟩ := List.mem_map.1 hr
      exact tell_snd hs (sndn_d (hc.base i (List.mem_range.1 hi) (eq_of_beq h1)))
    | false =>
      rw [cond_false]
      cases h2 : (r.kind.toList == kCopy) with
      | true => exact edge_snd hs (sndE_of hg hc hr (by unfold PP.redges; rw [h2, cond_true]; exact List.mem_singleton.2 rfl))
      | false => exact hs
  · exact hs
end
end Go.Proofs.YtbagppdibncfdaaGreatDoor
namespace Go.Proofs.YtbagppdibncfdaaGreatDoor
open Go Go.RowKit Go.MapKept
open Go.Maps (Keyed)
section
variable {κ : Type} [DecidableEq κ]
def kget (m : List (κ × Value)) (k : κ) : Option Value := (m.find? fun x => decide (x.1 = k)).map (·.2)
theorem kget_none {m : List (κ × Value)} {k : κ} (h : ∀ x ∈ m, x.1 ≠ k) : kget m k = none := by
  unfold kget
  rw [List.find?_eq_none.2 fun x hx => by simpa using h x hx]; rfl
theorem kget_at {m : List (κ × Value)} (hn : (m.map (·.1)).Nodup) {j : Nat} {k : κ} {v : Value} (h : m[j]? = some (k, v)) : kget m k = some v := by
  induction m generalizing j with
  | nil => simp at h
  | cons x r ih =>
    rw [List.map_cons, List.nodup_cons] at hn
    unfold kget
    rw [List.find?_cons]
    cases j with
    | zero =>
      rw [List.getElem?_cons_zero] at h
      obtain rfl := Option.some.inj h
      simp
    | succ j =>
      rw [List.getElem?_cons_succ] at h
      have hx : x.1 ≠ k := fun e => hn.1 (by rw [e]; exact List.mem_map.2 ⟨(k, v), List.mem_of_getElem? h, rfl⟩)
      rw [decide_eq_false hx]
      exact ih hn.2 h
def KMap (P : Program) (kt : TypeId) (enc : κ → Value) (w : World) (b : Nat) (f : κ → Option Value) : Prop :=
  ∃ es clock, ∃ m : List (κ × Value), w.heap[b]? = some (.map es clock) ∧ es.toList.map (fun x => (x.key, x.val)) = m.map (fun x => (enc x.1, x.2)) ∧ (m.map (·.1)).Nodup ∧ (∀ x ∈ m, ∃ l, keyOf P kt (enc x.1) = some l) ∧ ∀ k, kget m k = f k
variable {P : Program} {kt : TypeId} {enc : κ → Value} {w : World} {b : Nat} {f : κ → Option Value}
theorem KMap.keep {X : Nat → Prop} {w' : World} (h : KMap P kt enc w b f) (x : Keep X w w') (hx : ¬ X b) : KMap P kt enc w' b f := by
  obtain ⟨es, c, m, hb, he⟩ := h
  exact ⟨es, c, m, Keep.get x hb hx, he⟩
theorem KMap.ext {w' : World} (h : KMap P kt enc w b f) (x : Ext w w') : KMap P kt enc w' b f := by
  obtain ⟨es, c, m, hb, he⟩ := h
  exact ⟨es, c, m, Ext.get x hb, he⟩
theorem KMap.lt (h : KMap P kt enc w b f) : b < w.heap.size := by
  obtain ⟨es, c, m, hb, he⟩ := h
  exact (Array.getElem?_eq_some_iff.1 hb).1
theorem KMap.ne {g : Nat} (h : KMap P kt enc w b f) {c : Array Value} {e : TypeId} (hb : Blk w g c e) : g ≠ b := by
  rintro rfl
  obtain ⟨es, c, m, h1, _⟩ := h
  have := h1.symm.trans hb
  cases this
theorem KMap.not_int (h : KMap P kt enc w b f) : ¬ IsInt w b := by
  rintro ⟨c, z, hc⟩
  obtain ⟨es, c, m, h1, _⟩ := h
  have := h1.symm.trans hc
  cases this
theorem KMap.eq {g : κ → Option Value} (h : KMap P kt enc w b f) (e : ∀ k, f k = g k) : KMap P kt enc w b g := by
  obtain ⟨es, c, m, h1, h2, h3, h4, h5⟩ := h
  exact ⟨es, c, m, h1, h2, h3, h4, fun k => (h5 k).trans (e k)⟩
theorem KMap.new (P : Program) (kt : TypeId) (enc : κ → Value) (w : World) : KMap P kt enc (w.alloc (.map #[] 0)) w.heap.size (fun _ => none) := ⟨#[], 0, [], heap_alloc_new w _, rfl, List.nodup_nil, fun _ h => by simp at h, fun _ => rfl⟩
omit [DecidableEq κ] in
theorem KMap.found (K : Keyed P kt) (hinj : ∀ a c : κ, enc a = enc c → a = c) {es : Array MapEntry} {m : List (κ × Value)} (he : es.toList.map (fun x => (x.key, x.val)) = m.map (fun x => (enc x.1, x.2))) (hn : (m.map (·.1)).Nodup) (hk : ∀ x ∈ m, ∃ l, keyOf P kt (enc x.1) = some l)
    {k : κ} {l : Lit} (hl : keyOf P kt (enc k) = some l) : ((Instr.findKey kt (enc k) es.toList).run P w = .ok none w ∧ ∀ x ∈ m, x.1 ≠ k) ∨ ∃ j e v, (Instr.findKey kt (enc k) es.toList).run P w = .ok (some (j, v)) w ∧ m[j]? = some (k, v) ∧ es[j]? = some e ∧ e.key = enc k := by
  have hall : ∀ e ∈ es.toList, ∃ l, keyOf P kt e.key = some l := fun e h => by
    have : (e.key, e.val) ∈ m.map (fun x => (enc x.1, x.2)) := by rw [← he]; exact List.mem_map.2 ⟨e, h, rfl⟩
    obtain ⟨x, hx, h2⟩ := List.mem_map.1 this
    obtain ⟨l, hl⟩ := hk x hx
    exact ⟨l, by rw [← (Prod.mk.inj h2).1]; exact hl⟩
  rcases K.find w hl es.toList hall with ⟨h1, h2⟩ | ⟨j, e, h1, h2, h3⟩
  · refine .inl ⟨h1, fun x hx hxk => ?_⟩
    have : (enc x.1, x.2) ∈ es.toList.map (fun x => (x.key, x.val)) := by rw [he]; exact List.mem_map.2 ⟨x, hx, rfl⟩
    obtain ⟨e, he1, he2⟩ := List.mem_map.1 this
    exact h2 e he1 (by rw [(Prod.mk.inj he2).1, hxk])
  · have h2' : es.toList[j]? = some e := by simpa using h2
    have h4 : (es.toList.map (fun x => (x.key, x.val)))[j]? = some (e.key, e.val) := by rw [List.getElem?_map, h2']; rfl
    rw [he, List.getElem?_map] at h4
    obtain ⟨x, hx⟩ : ∃ x, m[j]? = some x := by
      cases hx : m[j]? with
      | none => rw [hx] at h4; simp at h4
      | some x => exact ⟨x, rfl⟩
    rw [hx] at h4
    obtain ⟨q1, q2⟩ := Prod.mk.inj (Option.some.inj h4)
    refine .inr ⟨j, e, e.val, h1, ?_, by simpa using h2', h3⟩
    rw [hx]
    have : x.1 = k := hinj _ _ (by rw [q1, h3])
    rw [← this, ← q2]
theorem run_kmap_lookup (K : Keyed P kt) (hinj : ∀ a c : κ, enc a = enc c → a = c) {t et : TypeId} (ht : P.underlying t = some (.map kt et)) (h : KMap P kt enc w b f) {k : κ} {l : Lit} (hl : keyOf P kt (enc k) = some l) {z : Value} (hz : (zeroValue et).run P w = .ok z w) (c : Bool) :
    (Instr.lookup t (.map (some b)) (enc k) c).run P w = .ok (if c then .tuple #[(f k).getD z, .bool (f k).isSome] else (f k).getD z) w := by
  obtain ⟨es, cl, m, hb, he, hn, hk, hf⟩ := h
  unfold Instr.lookup
  rcases KMap.found (w := w) K hinj he hn hk hl with ⟨h1, h2⟩ | ⟨j, e, v, h1, h2, h3, h4⟩
  · rw [← hf k, kget_none h2]
    cases c <;> simp [run_underlying ht, Go.MapKept.run_getObj_map hb, K.check w _ hl, h1, hz, Result.andThen]
  · rw [← hf k, kget_at hn h2]
    cases c <;> simp [run_underlying ht, Go.MapKept.run_getObj_map hb, K.check w _ hl, h1, Result.andThen]
theorem run_kmap_put (K : Keyed P kt) (hinj : ∀ a c : κ, enc a = enc c → a = c) {t et : TypeId} (ht : P.underlying t = some (.map kt et)) (h : KMap P kt enc w b f) {k : κ} {l : Lit} (hl : keyOf P kt (enc k) = some l) (v : Value) :
    ∃ w', (Instr.mapUpdate t (.map (some b)) (enc k) v).run P w = .ok () w' ∧ KMap P kt enc w' b (fun q => if q = k then some v else f q) ∧ Keep (fun q => q = b) w w' := by
  obtain ⟨es, cl, m, hb, he, hn, hk, hf⟩ := h
  rcases KMap.found (w := w) K hinj he hn hk hl with ⟨h1, h2⟩ | ⟨j, e, u, h1, h2, h3, h4⟩
  · refine ⟨_, ?_, ⟨es.push { key := enc k, val := v, born := cl }, cl + 1, m ++ [(k, v)], (heap_set hb).1, ?_, ?_, ?_, fun q => ?_⟩, map_setBlock hb _⟩
    · unfold Instr.mapUpdate
      simp [run_underlying ht, Go.MapKept.run_getObj_map hb, K.check w _ hl, h1, Go.MapKept.run_setObj_map _ hb, Result.andThen]
    · simp [he]
    · rw [List.map_append, List.nodup_append]
      refine ⟨hn, by simp, fun a ha c hc => ?_⟩
      obtain ⟨x, hx, rfl⟩ := List.mem_map.1 ha
      simp at hc
      rw [hc]; exact h2 x hx
    · intro x hx
      rcases List.mem_append.1 hx with hx | hx
      · exact hk x hx
      · rw [List.mem_singleton.1 hx]; exact ⟨l, hl⟩
    · show _ = if q = k then some v else f q
      rw [← hf q]
      unfold kget
      rw [List.find?_append]
      by_cases hq : q = k
      · subst hq
        rw [if_pos rfl, List.find?_eq_none.2 fun x hx => by simpa using h2 x hx]
        simp
      · rw [if_neg hq]
        have : List.find? (fun x : κ × Value => decide (x.1 = q)) [(k, v)] = none := by
          rw [List.find?_eq_none]
          intro x hx
          rw [List.mem_singleton.1 hx]
          simpa using fun e => hq e.symm
        rw [this]
        cases List.find? (fun x : κ × Value => decide (x.1 = q)) m <;> rfl
  · have hj : j < m.length := by
      rcases Nat.lt_or_ge j m.length with g | g
      · exact g
      · rw [List.getElem?_eq_none g] at h2; cases h2
    have hkeys : (m.set j (k, v)).map (·.1) = m.map (·.1) := by
      rw [List.map_set]
      refine List.ext_getElem? fun i => ?_
      rw [List.getElem?_set]
      by_cases hi : j = i
      · subst hi
        rw [if_pos rfl, List.getElem?_map, h2]; simp [hj]
      · rw [if_neg hi]
    refine ⟨_, ?_, ⟨es.modify j fun e => { e with key := enc k, val := v }, cl, m.set j (k, v), (heap_set hb).1, ?_, ?_, ?_, fun q => ?_⟩, map_setBlock hb _⟩
    · unfold Instr.mapUpdate
      simp [run_underlying ht, Go.MapKept.run_getObj_map hb, K.check w _ hl, h1, h3, h4, K.stays w hl, Go.MapKept.run_setObj_map _ hb, Result.andThen]
    · have e1 : (es.modify j fun e => { e with key := enc k, val := v }).toList.map (fun x => (x.key, x.val)) = (es.toList.map (fun x => (x.key, x.val))).set j (enc k, v) := by
        refine List.ext_getElem? fun i => ?_
        rw [List.getElem?_map, List.getElem?_set, Array.getElem?_toList, Array.getElem?_modify]
        have hjs : j < (es.toList.map (fun x => (x.key, x.val))).length := by rw [he, List.length_map]; exact hj
        by_cases hi : j = i
        · subst hi
          rw [if_pos rfl, if_pos rfl, if_pos hjs, h3]; rfl
        · rw [if_neg hi, if_neg hi, List.getElem?_map, Array.getElem?_toList]
      rw [e1, he, List.map_set]
    · rw [hkeys]; exact hn
    · intro x hx
      rcases List.mem_or_eq_of_mem_set hx with hx | rfl
      · exact hk x hx
      · exact ⟨l, hl⟩
    · show _ = if q = k then some v else f q
      by_cases hq : q = k
      · subst hq
        rw [if_pos rfl]
        exact kget_at (by rw [hkeys]; exact hn) (j := j) (by rw [List.getElem?_set_self hj])
      · rw [if_neg hq, ← hf q]
        cases hg : kget m q with
        | none =>
          refine kget_none fun x hx => ?_
          rcases List.mem_or_eq_of_mem_set hx with hx | rfl
          · intro e
            unfold kget at hg
            have := List.find?_eq_none.1 (Option.map_eq_none_iff.1 hg) x hx
            simp [e] at this
          · exact fun e => hq e.symm
        | some u2 =>
          unfold kget at hg
          obtain ⟨x, hx, hx2⟩ := Option.map_eq_some_iff.1 hg
          have hxq : x.1 = q := by simpa using List.find?_some hx
          obtain ⟨i, hi⟩ := List.getElem?_of_mem (List.mem_of_find?_eq_some hx)
          have hij : j ≠ i := by
            rintro rfl
            rw [h2] at hi
            obtain rfl := Option.some.inj hi
            exact hq hxq.symm
          refine kget_at (by rw [hkeys]; exact hn) (j := i) ?_
          rw [List.getElem?_set_ne hij, hi, ← hxq, ← hx2]
variable {ops : Array Oper} {Q : Exit → Act → World → Prop} {rest : List Oper} {o : Oper} {a : Act}
end
end Go.Proofs.YtbagppdibncfdaaGreatDoor
namespace Go.Proofs.YtbagppdibncfdaaGreatDoor
open Go Go.RowKit
open Go.Maps (Keyed)
def twoV (e : Int × Int) : Value := .agg #[.int .i64 e.1, .int .i64 e.2]
theorem intV_inj (a c : Int) (h : Value.int .i64 a = Value.int .i64 c) : a = c := by injection h
theorem wf_small {a : Int} (h : 0 ≤ a ∧ a < 1000000) : (Lit.int .i64 a).wf = true := by
  simp [Lit.wf, IntKind.min, IntKind.max, IntKind.signed, IntKind.bits]
  omega
theorem int_keyed64 : Keyed Tryz.prog 3 := Go.Maps.int_keyed Tryz.underlying3
theorem key_int {a : Int} (h : 0 ≤ a ∧ a < 1000000) : ∃ l, keyOf Tryz.prog 3 (Value.int .i64 a) = some l := by
  refine ⟨.int .i64 a, ?_⟩
  simp [keyOf, mapKey, Tryz.underlying3, wf_small h]
end Go.Proofs.YtbagppdibncfdaaGreatDoor
namespace Go.Proofs.YtbagppdibncfdaaGreatDoor
open Go Go.RowKit
structure ElF (F : Nat → Prop) (v : Value) (n : Nat) (E : Nat → Addr → Prop) : Prop where
  form : ∃ a cap, v = .slice a n cap ∧ n ≤ cap ∧ (cap : Int) ≤ 9223372036854775807 ∧ (0 < n → ∃ y, a = some y) ∧ ∀ y, a = some y → 0 < n → F y.block ∧ ∀ i, i < n → E i y
section
variable {F G X : Nat → Prop} {w w' : World} {n0 n : Nat} {v v1 v2 v3 : Value} {E E' : Nat → Addr → Prop}
theorem ElF.mono (h : ElF F v n E) (hF : ∀ b, F b → G b) (hE : ∀ i y, i < n → F y.block → E i y → E' i y) : ElF G v n E' := by
  obtain ⟨a, cap, h1, h2, h3, h4, h5⟩ := h
  exact ⟨a, cap, h1, h2, h3, h4, fun y hy h0 => ⟨hF _ (h5 y hy h0).1, fun i hi => hE i y hi (h5 y hy h0).1 ((h5 y hy h0).2 i hi)⟩⟩
theorem ElF.toR (h : ElF F v n E) (hF : ∀ b, F b → b < n0) (hE : ∀ i y, i < n → F y.block → E i y → E' i y) : ElR n0 v n E' := by
  obtain ⟨a, cap, h1, h2, h3, h4, h5⟩ := h
  exact ⟨a, cap, h1, h2, h3, h4, fun y hy h0 => ⟨hF _ (h5 y hy h0).1, fun i hi => hE i y hi (h5 y hy h0).1 ((h5 y hy h0).2 i hi)⟩⟩
theorem ElF.ofR (h : ElR n0 v n E) (hF : ∀ b, b < n0 → F b) (hE : ∀ i y, i < n → y.block < n0 → E i y → E' i y) : ElF F v n E' := by
  obtain ⟨a, cap, h1, h2, h3, h4, h5⟩ := h
  exact ⟨a, cap, h1, h2, h3, h4, fun y hy h0 => ⟨hF _ (h5 y hy h0).1, fun i hi => hE i y hi (h5 y hy h0).1 ((h5 y hy h0).2 i hi)⟩⟩
def StrsF (w : World) (F : Nat → Prop) (v : Value) (l : List ByteArray) : Prop := ElF F v l.length fun i y => ∀ s, l[i]? = some s → w.cell? (y.add i) = some (.string s)
def IntsF (w : World) (F : Nat → Prop) (v : Value) (l : List Int) : Prop := ElF F v l.length fun i y => ∀ s, l[i]? = some s → w.cell? (y.add i) = some (.int .i64 s)
def FunsF (w : World) (F : Nat → Prop) (v : Value) (l : List PF) : Prop := ElF F v l.length fun i y => ∀ f, l[i]? = some f → ∃ pv, w.cell? (y.add (i * 3)) = some (.string f.name) ∧ w.cell? ((y.add (i * 3)).add 1) = some pv ∧ w.cell? ((y.add (i * 3)).add 2) = some (.int .i64 f.ret) ∧ IntsF w F pv f.params
def StmtsF (w : World) (F : Nat → Prop) (v : Value) (l : List PS) : Prop := ElF F v l.length fun i y => ∀ s, l[i]? = some s → ∃ av, w.cell? (y.add (i * 4)) = some (.string s.kind) ∧ w.cell? ((y.add (i * 4)).add 1) = some (.int .i64 s.x) ∧ w.cell? ((y.add (i * 4)).add 2) = some (.int .i64 s.y) ∧ w.cell? ((y.add (i * 4)).add 3) = some av ∧ IntsF w F av s.args
structure ProgF (w : World) (F : Nat → Prop) (v1 v2 v3 : Value) (P : PP) : Prop where
  vars : StrsF w F v1 P.vars
  funs : FunsF w F v2 P.funs
  stmts : StmtsF w F v3 P.stmts
theorem StrsF.keep {l : List ByteArray} (h : StrsF w F v l) (k : Keep X w w') (hX : ∀ b, F b → ¬ X b) (hG : ∀ b, F b → G b) : StrsF w' G v l :=
  ElF.mono h hG fun i y _ hy hE s hs => k.cellx (hE s hs) (by rw [add_block]; exact hX _ hy)
theorem IntsF.keep {l : List Int} (h : IntsF w F v l) (k : Keep X w w') (hX : ∀ b, F b → ¬ X b) (hG : ∀ b, F b → G b) : IntsF w' G v l :=
  ElF.mono h hG fun i y _ hy hE s hs => k.cellx (hE s hs) (by rw [add_block]; exact hX _ hy)
theorem FunsF.keep {l : List PF} (h : FunsF w F v l) (k : Keep X w w') (hX : ∀ b, F b → ¬ X b) (hG : ∀ b, F b → G b) : FunsF w' G v l :=
  ElF.mono h hG fun i y _ hy hE s hs => by
    obtain ⟨pv, h1, h2, h3, h4⟩ := hE s hs
    exact ⟨pv, k.cellx h1 (by rw [add_block]; exact hX _ hy), k.cellx h2 (by rw [add_block, add_block]; exact hX _ hy), k.cellx h3 (by rw [add_block, add_block]; exact hX _ hy), h4.keep k hX hG⟩
theorem StmtsF.keep {l : List PS} (h : StmtsF w F v l) (k : Keep X w w') (hX : ∀ b, F b → ¬ X b) (hG : ∀ b, F b → G b) : StmtsF w' G v l :=
  ElF.mono h hG fun i y _ hy hE s hs => by
    obtain ⟨pv, h1, h2, h3, h4, h5⟩ := hE s hs
    exact ⟨pv, k.cellx h1 (by rw [add_block]; exact hX _ hy), k.cellx h2 (by rw [add_block, add_block]; exact hX _ hy), k.cellx h3 (by rw [add_block, add_block]; exact hX _ hy), k.cellx h4 (by rw [add_block, add_block]; exact hX _ hy), h5.keep k hX hG⟩
theorem ProgF.keep {P : PP} (h : ProgF w F v1 v2 v3 P) (k : Keep X w w') (hX : ∀ b, F b → ¬ X b) (hG : ∀ b, F b → G b) : ProgF w' G v1 v2 v3 P := ⟨h.vars.keep k hX hG, h.funs.keep k hX hG, h.stmts.keep k hX hG⟩
theorem IntsF.toR {l : List Int} (h : IntsF w F v l) (hF : ∀ b, F b → b < n0) : IntsR w n0 v l := ElF.toR h hF fun _ _ _ _ h => h
theorem IntsF.ofR {l : List Int} (h : IntsR w n0 v l) (hF : ∀ b, b < n0 → F b) : IntsF w F v l := ElF.ofR h hF fun _ _ _ _ h => h
theorem ProgF.toR {P : PP} (h : ProgF w F v1 v2 v3 P) (hF : ∀ b, F b → b < n0) : ProgR w n0 v1 v2 v3 P :=
  ⟨ElF.toR h.vars hF fun _ _ _ _ h => h,
   ElF.toR h.funs hF fun i y _ _ hE s hs => (let ⟨pv, h1, h2, h3, h4⟩ := hE s hs; ⟨pv, h1, h2, h3, h4.toR hF⟩),
   ElF.toR h.stmts hF fun i y _ _ hE s hs => (let ⟨pv, h1, h2, h3, h4, h5⟩ := hE s hs; ⟨pv, h1, h2, h3, h4, h5.toR hF⟩)⟩
theorem ProgF.ofR {P : PP} (h : ProgR w n0 v1 v2 v3 P) (hF : ∀ b, b < n0 → F b) : ProgF w F v1 v2 v3 P :=
  ⟨ElF.ofR h.vars hF fun _ _ _ _ h => h,
   ElF.ofR h.funs hF fun i y _ _ hE s hs => (let ⟨pv, h1, h2, h3, h4⟩ := hE s hs; ⟨pv, h1, h2, h3, IntsF.ofR h4 hF⟩),
   ElF.ofR h.stmts hF fun i y _ _ hE s hs => (let ⟨pv, h1, h2, h3, h4, h5⟩ := hE s hs; ⟨pv, h1, h2, h3, h4, IntsF.ofR h5 hF⟩)⟩
def ErrB (ad : Nat → Addr) (b : Nat) : Prop := b = 3 ∨ b = 6 ∨ b = 5 ∨ b = 1 ∨ b = 2 ∨ b = 0 ∨ b = 9 ∨ b = (ad 5).block ∨ b = (ad 7).block
theorem ErrsP.keep {ad : Nat → Addr} (h : ErrsP w ad) (k : Keep X w w') (hX : ∀ b, ErrB ad b → ¬ X b) : ErrsP w' ad :=
  ⟨k.cellx h.at2 (hX _ (.inl rfl)), k.cellx h.at3 (hX _ (.inr (.inl rfl))), k.cellx h.at4 (hX _ (.inr (.inr (.inl rfl)))), k.cellx h.at5 (hX _ (.inr (.inr (.inr (.inl rfl))))), k.cellx h.at7 (hX _ (.inr (.inr (.inr (.inr (.inl rfl)))))), k.cellx h.at8 (hX _ (.inr (.inr (.inr (.inr (.inr (.inl rfl))))))), k.cellx h.at9 (hX _ (.inr (.inr (.inr (.inr (.inr (.inr (.inl rfl)))))))), h.ne57,
   (let ⟨cs, t, e⟩ := h.row5; ⟨cs, t, k.get e (hX _ (.inr (.inr (.inr (.inr (.inr (.inr (.inr (.inl rfl)))))))))⟩), (let ⟨cs, t, e⟩ := h.row7; ⟨cs, t, k.get e (hX _ (.inr (.inr (.inr (.inr (.inr (.inr (.inr (.inr rfl)))))))))⟩)⟩
theorem ErrsP.lt {ad : Nat → Addr} (h : ErrsP w ad) {b : Nat} (hb : ErrB ad b) : b < w.heap.size := by
  rcases hb with rfl | rfl | rfl | rfl | rfl | rfl | rfl | rfl | rfl
  · exact cell_lt h.at2
  · exact cell_lt h.at3
  · exact cell_lt h.at4
  · exact cell_lt h.at5
  · exact cell_lt h.at7
  · exact cell_lt h.at8
  · exact cell_lt h.at9
  · obtain ⟨cs, t, e⟩ := h.row5; exact (Array.getElem?_eq_some_iff.1 e).1
  · obtain ⟨cs, t, e⟩ := h.row7; exact (Array.getElem?_eq_some_iff.1 e).1
structure PWF (w : World) (F : Nat → Prop) (ad : Nat → Addr) (a1 a2 a3 : Option Addr) (c1 c2 c3 : Nat) (P : PP) : Prop where
  lt : ∀ b, F b → b < w.heap.size
  ef : ∀ b, ErrB ad b → F b
  errs : ErrsP w ad
  prog : ProgF w F (.slice a1 P.vars.length c1) (.slice a2 P.funs.length c2) (.slice a3 P.stmts.length c3) P
  z1 : ∀ s ∈ P.vars, s.size ≤ 1000000
  z2 : ∀ s ∈ P.names, s.size ≤ 1000000
  well : P.Well
variable {ad : Nat → Addr} {a1 a2 a3 : Option Addr} {c1 c2 c3 : Nat} {P : PP}
theorem PWF.pw (h : PWF w F ad a1 a2 a3 c1 c2 c3 P) : PW w w.heap.size ad a1 a2 a3 c1 c2 c3 P := ⟨h.errs, h.prog.toR h.lt, h.z1, h.z2, h.well⟩
theorem PWF.keep (h : PWF w F ad a1 a2 a3 c1 c2 c3 P) (k : Keep X w w') (hX : ∀ b, F b → ¬ X b) : PWF w' F ad a1 a2 a3 c1 c2 c3 P :=
  ⟨fun b hb => Nat.lt_of_lt_of_le (h.lt b hb) k.size, h.ef, h.errs.keep k fun b hb => hX b (h.ef b hb), h.prog.keep k hX fun _ h => h, h.z1, h.z2, h.well⟩
theorem PWF.ext (h : PWF w F ad a1 a2 a3 c1 c2 c3 P) (x : Ext w w') : PWF w' F ad a1 a2 a3 c1 c2 c3 P := h.keep (x.keep fun _ => False) fun _ _ h => h
theorem PWF.more (h : PWF w F ad a1 a2 a3 c1 c2 c3 P) (hF : ∀ b, F b → G b) (hG : ∀ b, G b → b < w.heap.size) : PWF w G ad a1 a2 a3 c1 c2 c3 P :=
  ⟨hG, fun b hb => hF b (h.ef b hb), h.errs, h.prog.keep (Keep.refl (fun _ => False) w) (fun _ _ h => h) hF, h.z1, h.z2, h.well⟩
theorem PWF.of (h : PW w n0 ad a1 a2 a3 c1 c2 c3 P) (hn : n0 ≤ w.heap.size) : PWF w (fun b => b < w.heap.size) ad a1 a2 a3 c1 c2 c3 P :=
  ⟨fun _ h => h, fun b hb => h.errs.lt hb, h.errs, ProgF.ofR h.prog fun b hb => Nat.lt_of_lt_of_le hb hn, h.z1, h.z2, h.well⟩
end
def OwnsQ (w : World) (base : Nat) (e : TypeId) (size : Nat) (v : Value) (n : Nat) (xs : List Value) : Prop :=
  xs.length = n * size ∧ ((v = .slice none 0 0 ∧ n = 0) ∨ ∃ g off cap cur, v = .slice (some ⟨g, off, none⟩) n cap ∧ base ≤ g ∧ Blk w g cur e ∧ n ≤ cap ∧ off + cap * size ≤ cur.size ∧ (cur.toList.drop off).take (n * size) = xs)
section
variable {w w' : World} {base : Nat} {e : TypeId} {size n : Nat} {v : Value} {xs : List Value}
theorem OwnsQ.ofRow (h : w.ownsRow base e size v n xs) : OwnsQ w base e size v n xs := by
  refine ⟨h.1, h.2.imp id ?_⟩
  rintro ⟨g, cap, cur, h1, h2, h3, h4, h5, h6, h7⟩
  exact ⟨g, 0, cap, cur, h1, h2, h3, h4, by omega, h7⟩
theorem OwnsQ.nil (w : World) (base : Nat) (e : TypeId) (size : Nat) : OwnsQ w base e size (.slice none 0 0) 0 [] := .ofRow (World.ownsRow_nil _ _ _ _)
theorem OwnsQ.form (h : OwnsQ w base e size v n xs) : ∃ a c, v = .slice a n c := by
  rcases h.2 with ⟨h1, h2⟩ | ⟨g, off, cap, cur, h1, _⟩
  · exact ⟨none, 0, by rw [h1, h2]⟩
  · exact ⟨_, _, h1⟩
theorem OwnsQ.keep {X : Nat → Prop} (h : OwnsQ w base e size v n xs) (k : Keep X w w') (hx : ∀ i, v.ownBlock = some i → ¬ X i) : OwnsQ w' base e size v n xs := by
  refine ⟨h.1, h.2.imp id ?_⟩
  rintro ⟨g, off, cap, cur, rfl, h2, h3, h4⟩
  exact ⟨g, off, cap, cur, rfl, h2, h3.keep k (hx g rfl), h4⟩
theorem OwnsQ.ext (h : OwnsQ w base e size v n xs) (x : Ext w w') : OwnsQ w' base e size v n xs := h.keep (x.keep fun _ => False) fun _ _ h => h
theorem OwnsQ.ty (h : OwnsQ w base e size v n xs) {k : Nat} (hk : v.ownBlock = some k) : base ≤ k ∧ ∃ c, Blk w k c e := by
  rcases h.2 with ⟨rfl, _⟩ | ⟨g, off, cap, cur, rfl, h2, h3, _⟩
  · cases hk
  · obtain rfl := Option.some.inj hk
    exact ⟨h2, cur, h3⟩
theorem OwnsQ.pos (h : OwnsQ w base e size v n xs) (hn : 0 < n) : ∃ g off cap, v = .slice (some ⟨g, off, none⟩) n cap ∧ 0 < cap := by
  rcases h.2 with ⟨_, h2⟩ | ⟨g, off, cap, cur, h1, _, _, h4, _⟩
  · omega
  · exact ⟨g, off, cap, h1, by omega⟩
theorem OwnsQ.get {g off cap : Nat} (h : OwnsQ w base e size (.slice (some ⟨g, off, none⟩) n cap) n xs) (i : Nat) {u : Value} (hu : xs[i]? = some u) : w.cell? ⟨g, off + i, none⟩ = some u := by
  rcases h.2 with ⟨h1, _⟩ | ⟨g', off', cap', cur, h1, h2, h3, h4, h5, h6⟩
  · cases h1
  · simp only [Value.slice.injEq, Option.some.injEq, Addr.mk.injEq, and_true, true_and] at h1
    obtain ⟨⟨rfl, rfl⟩, rfl⟩ := h1
    rw [h3.cell, ← Array.getElem?_toList]
    rw [← h6, List.getElem?_take] at hu
    split at hu
    · rwa [List.getElem?_drop] at hu
    · cases hu
theorem OwnsQ.tail {g off cap : Nat} (h : OwnsQ w base e size (.slice (some ⟨g, off, none⟩) n cap) n xs) (hn : 0 < n) : OwnsQ w base e size (.slice (some (if cap = 1 then ⟨g, off, none⟩ else ⟨g, off + size, none⟩)) (n - 1) (cap - 1)) (n - 1) (xs.drop size) := by
  rcases h.2 with ⟨h1, _⟩ | ⟨g', off', cap', cur, h1, h2, h3, h4, h5, h6⟩
  · cases h1
  · simp only [Value.slice.injEq, Option.some.injEq, Addr.mk.injEq, and_true, true_and] at h1
    obtain ⟨⟨rfl, rfl⟩, rfl⟩ := h1
    obtain ⟨m, rfl⟩ : ∃ m, n = m + 1 := ⟨n - 1, by omega⟩
    obtain ⟨c, rfl⟩ : ∃ c, cap = c + 1 := ⟨cap - 1, by omega⟩
    have e1 : (m + 1) * size = m * size + size := by rw [Nat.add_mul, Nat.one_mul]
    have e2 : (c + 1) * size = c * size + size := by rw [Nat.add_mul, Nat.one_mul]
    refine ⟨by rw [List.length_drop, h.1, e1]; simp, .inr ?_⟩
    by_cases hc : c = 0
    · subst hc
      obtain rfl : m = 0 := by omega
      refine ⟨g, off, 0, cur, by simp, h2, h3, Nat.le_refl _, by omega, ?_⟩
      have := h.1
      simp at this ⊢
      omega
    · refine ⟨g, off + size, c, cur, by rw [if_neg (by omega)]; simp, h2, h3, by omega, by omega, ?_⟩
      rw [← h6, List.drop_take, List.drop_drop, e1]
      congr 1
      · simp
theorem run_append_q (hbase : base ≤ w.heap.size) (t : TypeId) (z : Value) (bytes : Nat) (ht : Tryz.prog.underlying t = some (.slice e)) (hinf : (Tryz.prog.info? e).map (fun i => (i.zero, i.size, i.bytes)) = some (some z, size, bytes)) (hz1 : z.cells.size = size) (hsz : 0 < size)
    (hb8 : bytes ≤ 64) (ty : TypeId) (hown : OwnsQ w base e size v n xs) (a : Addr) (us : List Value) (hul : us.length = size) (hus : ∀ j u, us[j]? = some u → w.cell? (a.add j) = some u) (h1 : ∀ u ∈ us, u.oneCell' = true) (hl : n ≤ 1000000000) :
    ∃ v' w', (Builtin.append_ #[t, t] ty #[v, .slice (some a) 1 1]).run Tryz.prog w = .ok v' w' ∧ OwnsQ w' base e size v' (n + 1) (xs ++ us) ∧ Keep (fun k => v.ownBlock = some k) w w' ∧ (v'.ownBlock = v.ownBlock ∨ v'.ownBlock = some w.heap.size) := by
  obtain ⟨i, hi, hz, hs, hb⟩ := info_parts hinf
  subst hs
  subst hb
  have hlen : (xs ++ us).length = (n + 1) * i.size := by rw [List.length_append, hown.1, hul, Nat.add_mul, Nat.one_mul]
  have hfit : (n + 1) * i.bytes ≤ 140737488355328 := by
    have : (n + 1) * i.bytes ≤ (n + 1) * 64 := Nat.mul_le_mul_left _ hb8
    omega
  rcases hown.2 with ⟨rfl, rfl⟩ | ⟨g, off, cap, cur, rfl, h2, h3, h4, h5, h6⟩
  · obtain rfl := List.eq_nil_of_length_eq_zero (by simpa using hown.1)
    obtain ⟨v', w', hr, k1, k2, _, k3⟩ := run_append_own_at (P := Tryz.prog) w base t ty e i z i.size i.bytes ht hi hz rfl rfl hz1 hsz (.slice none 0 0) 0 [] (World.ownsRow_nil _ _ _ _) a 1 1 us (by rw [hul]; omega) hus h1 (by simp only [maxLen]; omega) hfit hbase
    exact ⟨v', w', hr, .ofRow k1, grown_keep k2, k3⟩
  · by_cases hroom : n + 1 ≤ cap
    · have hm : n * i.size + us.length ≤ cap * i.size := by
        rw [hul]
        have : (n + 1) * i.size ≤ cap * i.size := Nat.mul_le_mul_right _ hroom
        rw [Nat.add_mul, Nat.one_mul] at this
        exact this
      have hf := run_firstCells_some (P := Tryz.prog) w i.size 1 a 1 1 us (by rw [hul]; omega) hus
      have hst := run_storeCells_at Tryz.prog g (off + n * i.size) e us 0 cur w h3 (by omega) h1
      simp only [Nat.add_zero] at hst
      refine ⟨_, _, by simp [Builtin.append_, run_underlying ht, sizeOf, typeInfo, hi, Builtin.lenOf, hroom, hf, Addr.add_lit, hst]; exact rfl, ⟨hlen, .inr ⟨g, off, cap, _, rfl, h2, setRow_heap w g cur _ e _ h3, hroom, ?_, ?_⟩⟩, (setRow_keep w g _).mono fun k _ hk => by rw [hk]; rfl, .inl rfl⟩
      · simp only [List.size_toArray, List.length_append, List.length_take, List.length_drop, Array.length_toList]
        omega
      · simp only []
        have hA : (cur.toList.take (off + n * i.size)).length = off + n * i.size := by rw [List.length_take, Array.length_toList]; omega
        rw [List.drop_append_of_le_length (by rw [hA]; omega), List.drop_take, show off + n * i.size - off = n * i.size by omega, h6, ← List.append_assoc, ← hlen]
        exact List.take_left
    · have holds : ∀ j u, xs[j]? = some u → w.cell? ((⟨g, off, none⟩ : Addr).add j) = some u := fun j u hu => by
        rw [Addr.add_lit]; exact hown.get j hu
      have hr := run_append_grow (P := Tryz.prog) w t ty e i z ht hi hz ⟨g, off, none⟩ n cap xs hown.1 holds a 1 1 us (by rw [hul]; omega) hus (by omega) (by omega) (growslice_fits (by omega) hfit)
      have hge := grownCap_ge w (n + 1) cap e
      refine ⟨_, _, hr, ⟨hlen, .inr ⟨w.heap.size, 0, _, _, rfl, hbase, heap_alloc_new w.drew _, hge, ?_, ?_⟩⟩, ⟨rfl, rfl, rfl, by simp, fun k hk _ => heap_alloc_old w.drew _ hk⟩, .inr rfl⟩
      · simp only [Array.size_append, List.size_toArray, size_zeroCells, hz1, hown.1, hul, ← Nat.add_mul]
        have : n * i.size + i.size = (n + 1) * i.size := by rw [Nat.add_mul, Nat.one_mul]
        rw [this, ← Nat.add_mul, Nat.zero_add]
        exact Nat.mul_le_mul_right _ (by omega)
      · rw [List.drop_zero]
        simp only [Array.toList_append, List.append_assoc]
        rw [← List.append_assoc, ← hlen]
        exact List.take_left
theorem does_append_q {ops : Array Oper} {o : Oper} {a : Act} {R : Value → World → Prop} (base : Nat) (hbase : base ≤ w.heap.size) (t e : TypeId) (z : Value) (size bytes : Nat) (ht : Tryz.prog.underlying t = some (.slice e)) (hinf : (Tryz.prog.info? e).map (fun i => (i.zero, i.size, i.bytes)) = some (some z, size, bytes)) (hz1 : z.cells.size = size) (hsz : 0 < size)
    (hb8 : bytes ≤ 64) (hg : o.guard = none) (s x : Operand) (ho : o.op = .call { callee := .builtin .append, args := #[s, x], argTypes := #[t, t] })
    (v : Value) (n : Nat) (xs : List Value) (hs : a.eval s = v) (hown : OwnsQ w base e size v n xs) (g : Nat) (us : List Value) (hul : us.length = size) (hu : ∀ u ∈ us, u.oneCell' = true) (hx : a.eval x = .slice (some ⟨g, 0, none⟩) 1 1) (hb : Blk w g us.toArray e) (hl : n ≤ 1000000000)
    (h : ∀ v' w', OwnsQ w' base e size v' (n + 1) (xs ++ us) → Keep (fun k => v.ownBlock = some k) w w' → (∀ b, v'.ownBlock = some b → v.ownBlock = some b ∨ w.heap.size ≤ b) → R v' w') : does Tryz.prog ops o a w R := by
  obtain ⟨v', w', hr, h2, h3, h4⟩ := run_append_q hbase t z bytes ht hinf hz1 hsz hb8 o.type hown ⟨g, 0, none⟩ us hul (fun j q hq => by
    rw [show (⟨g, 0, none⟩ : Addr).add j = ⟨g, j, none⟩ from by by_cases h0 : j = 0 <;> simp [Addr.add, h0], hb.cell j]
    simpa using hq) hu hl
  refine does_of_run hg (run_exec_append s x t ho hs hx hr) (h v' w' h2 h3 fun b hb => ?_)
  rcases h4 with e | e
  · exact .inl (e ▸ hb)
  · rw [e] at hb
    obtain rfl := Option.some.inj hb
    exact .inr (Nat.le_refl _)
end
def cntE (EL : List (Int × Int)) (m n : Nat) : Nat := ((EL.take m).filter fun e => decide (e.2 = (n : Int))).length
theorem cntE_zero (EL : List (Int × Int)) (n : Nat) : cntE EL 0 n = 0 := rfl
theorem cntE_succ {EL : List (Int × Int)} {m n : Nat} {e : Int × Int} (he : EL[m]? = some e) : cntE EL (m + 1) n = cntE EL m n + if e.2 = (n : Int) then 1 else 0 := by
  unfold cntE
  rw [List.take_add_one, he, List.filter_append, List.length_append]
  congr 1
  show (List.filter _ [e]).length = _
  rw [List.filter_cons]
  by_cases h : e.2 = (n : Int)
  · rw [if_pos (decide_eq_true h), if_pos h]; rfl
  · rw [if_neg (by simpa using h), if_neg h]; rfl
theorem srt_below : ∀ {l : List Int} {lo hi : Int}, Srt l → (∀ x ∈ l, lo ≤ x ∧ x < hi) → l.length ≤ (hi - lo).toNat
  | [], _, _, _, _ => Nat.zero_le _
  | a :: t, lo, hi, hs, hb => by
    have h1 := List.pairwise_cons.1 hs
    have h2 := srt_below (lo := a + 1) (hi := hi) h1.2 fun x hx => ⟨by have := h1.1 x hx; omega, (hb x (List.mem_cons_of_mem _ hx)).2⟩
    have h3 := hb a (List.mem_cons_self ..)
    rw [List.length_cons]
    omega
theorem cntE_few {EL : List (Int × Int)} {N : Nat} (hs : SrtP EL) (hin : ∀ e ∈ EL, 0 ≤ e.1 ∧ e.1 < (N : Int)) (m n : Nat) : cntE EL m n ≤ N := by
  unfold cntE
  rw [← List.length_map (f := Prod.fst)]
  have h := srt_below (l := ((EL.take m).filter fun e => decide (e.2 = (n : Int))).map Prod.fst) (lo := 0) (hi := (N : Int)) ?_ fun x hx => ?_
  · simpa using h
  · refine List.pairwise_map.2 ?_
    have h1 : SrtP ((EL.take m).filter fun e => decide (e.2 = (n : Int))) := (hs.sublist (List.take_sublist m EL)).sublist List.filter_sublist
    refine h1.imp_of_mem fun {a b} ha hb hab => ?_
    have e1 : a.2 = (n : Int) := by simpa using (List.mem_filter.1 ha).2
    have e2 : b.2 = (n : Int) := by simpa using (List.mem_filter.1 hb).2
    unfold lexLt at hab
    omega
  · obtain ⟨e, he, rfl⟩ := List.mem_map.1 hx
    exact hin e (List.mem_of_mem_take (List.mem_filter.1 he).1)
structure BagAt (P : PP) (has : List (List Int)) (EL : List (Int × Int)) (k m : Nat) (B : List (List Int)) : Prop where
  set : ∃ S, RoundAt P has EL k m S ∧ B.length = S.length ∧ ∀ n x, x ∈ B.getD n [] ↔ x ∈ S.getD n []
  few : ∀ n, (B.getD n []).length ≤ 1000 + k + 1000 * cntE EL m n
theorem BagAt.len {P : PP} {has : List (List Int)} {EL : List (Int × Int)} {k m : Nat} {B : List (List Int)} (h : BagAt P has EL k m B) : B.length = has.length := by
  obtain ⟨S, h1, h2, _⟩ := h.set
  exact h2.trans h1.len
theorem BagAt.start {P : PP} {has : List (List Int)} (hg : P.GoodS has) (EL : List (Int × Int)) : BagAt P has EL 0 0 has :=
  ⟨⟨has, RoundAt.start hg EL, rfl, fun _ _ => Iff.rfl⟩, fun n => by
    by_cases hn : n < has.length
    · have := srt_few (hg.ok.ok _ (getD_mem hn)).1
      omega
    · rw [List.getD_eq_getElem?_getD, List.getElem?_eq_none (by omega)]
      show (0 : Nat) ≤ _
      omega⟩
theorem BagAt.skip {P : PP} {has : List (List Int)} {EL : List (Int × Int)} {k : Nat} {B : List (List Int)} (h : BagAt P has EL k 0 B) (hb : (P.ruleV k (P.stAt k)).kind.toList ≠ bBase.toList) : BagAt P has EL (k + 1) 0 B := by
  obtain ⟨S, h1, h2, h3⟩ := h.set
  exact ⟨⟨S, h1.skip hb, h2, h3⟩, fun n => by have := h.few n; omega⟩
theorem BagAt.base {P : PP} {has : List (List Int)} {EL : List (Int × Int)} {k : Nat} {B : List (List Int)} (h : BagAt P has EL k 0 B) (hb : (P.ruleV k (P.stAt k)).kind.toList = bBase.toList) {a : Nat} {b : Int} (ha : (P.ruleV k (P.stAt k)).a = (a : Int)) (hbb : (P.ruleV k (P.stAt k)).b = b) (hb1 : 0 ≤ b ∧ b < 1000) (hal : a < has.length) :
    BagAt P has EL (k + 1) 0 (B.set a (B.getD a [] ++ [b])) := by
  obtain ⟨S, h1, h2, h3⟩ := h.set
  have hS : a < S.length := by rw [h1.len]; exact hal
  have hB : a < B.length := by rw [h2]; exact hS
  have hin : InR (S.getD a [] ++ [b]) := (chkE_zero.1 (h1.ok _ (getD_mem hS))).1.app fun x hx => by obtain rfl := List.mem_singleton.1 hx; exact hb1
  refine ⟨⟨_, h1.base hb ha hbb hb1 hal, by rw [List.length_set, List.length_set, h2], fun n x => ?_⟩, fun n => ?_⟩
  · rw [set_getD hB, set_getD hS]
    by_cases han : a = n
    · rw [if_pos han, if_pos han, mem_sset hin, List.mem_append, List.mem_append, h3]
    · rw [if_neg han, if_neg han, h3]
  · rw [set_getD hB]
    have := h.few n
    by_cases han : a = n
    · subst han
      rw [if_pos rfl, List.length_append, List.length_singleton]
      omega
    · rw [if_neg han]
      omega
theorem BagAt.edge {P : PP} {has : List (List Int)} {EL : List (Int × Int)} {k m : Nat} {B : List (List Int)} (h : BagAt P has EL k m B) {a b : Nat} (he : EL[m]? = some ((a : Int), (b : Int))) (hok : ∀ l ∈ has, chkE l = 0) (hal : a < has.length) (hbl : b < has.length) :
    BagAt P has EL k (m + 1) (B.set b (B.getD b [] ++ has.getD a [])) := by
  obtain ⟨S, h1, h2, h3⟩ := h.set
  have hS : b < S.length := by rw [h1.len]; exact hbl
  have hB : b < B.length := by rw [h2]; exact hS
  have hin : InR (S.getD b [] ++ has.getD a []) := (chkE_zero.1 (h1.ok _ (getD_mem hS))).1.app (chkE_zero.1 (hok _ (getD_mem hal))).1
  refine ⟨⟨_, h1.edge he hok hal hbl, by rw [List.length_set, List.length_set, h2], fun n x => ?_⟩, fun n => ?_⟩
  · rw [set_getD hB, set_getD hS]
    by_cases han : b = n
    · rw [if_pos han, if_pos han, mem_sset hin, List.mem_append, List.mem_append, h3]
    · rw [if_neg han, if_neg han, h3]
  · rw [set_getD hB, cntE_succ he]
    have h4 := h.few n
    have h5 := srt_few (hok _ (getD_mem hal))
    by_cases han : b = n
    · subst han
      rw [if_pos rfl, if_pos rfl, List.length_append]
      omega
    · rw [if_neg han, if_neg (fun e => han (Int.ofNat_inj.1 e))]
      omega
theorem BagAt.done {P : PP} {has : List (List Int)} (hg : P.GoodS has) {B : List (List Int)} (h : BagAt P has (P.edgesL has) P.stmts.length (P.edgesL has).length B) : B.map sset = P.roundV has := by
  obtain ⟨S, h1, h2, h3⟩ := h.set
  obtain rfl := h1.uniq (roundV_at hg)
  refine List.ext_getElem? fun n => ?_
  rw [List.getElem?_map]
  by_cases hn : n < B.length
  · have hs : n < (P.roundV has).length := by rw [← h2]; exact hn
    have ht := chkE_zero.1 (h1.ok _ (getD_mem hs))
    have e : sset (B.getD n []) = (P.roundV has).getD n [] := srt_uniq (sset_srt _) ht.2 fun x => (mem_sset (fun x hx => ht.1 x ((h3 n x).1 hx))).trans (h3 n x)
    rw [List.getD_eq_getElem?_getD, List.getD_eq_getElem?_getD, List.getElem?_eq_getElem hn, List.getElem?_eq_getElem hs] at e
    rw [List.getElem?_eq_getElem hn, List.getElem?_eq_getElem hs]
    exact congrArg some e
  · rw [List.getElem?_eq_none (by omega), List.getElem?_eq_none (by rw [← h2]; omega)]
    rfl
theorem StmtsR.own2 {w : World} {base : Nat} {v : Value} {ss : List S2} {l : List PS} (h : w.ownsRow base 77 4 v ss.length (ss.flatMap S2.cells)) (hl : ss.map S2.s = l) (hn : ∀ x ∈ ss, IntsR w w.heap.size x.v x.s.args) : StmtsR w w.heap.size v l := by
  have hll : l.length = ss.length := by rw [← hl, List.length_map]
  unfold StmtsR
  rw [hll]
  refine ElR.own h (Nat.le_refl _) fun g hc i hi f hf => ?_
  rw [← hl, List.getElem?_map] at hf
  obtain ⟨x, hx, rfl⟩ := Option.map_eq_some_iff.1 hf
  have c : ∀ j u, x.cells[j]? = some u → j < 4 → w.cell? (((⟨g, 0, none⟩ : Addr).add (i * 4)).add j) = some u := fun j u hu hj => by
    rw [add_add]
    exact hc _ _ ((fm_get S2.cells 4 S2.cells_len ss i j x hx hj).trans hu)
  exact ⟨x.v, by simpa [Addr.add] using c 0 _ rfl (by omega), c 1 _ rfl (by omega), c 2 _ rfl (by omega), c 3 _ rfl (by omega), hn x (List.mem_of_getElem? hx)⟩
structure OwnR (w : World) (n1 : Nat) (vv fv sv : Value) (P : PP) (fs : List F2) (ss : List S2) : Prop where
  vars : w.ownsRow 0 9 1 vv P.vars.length (P.vars.map .string)
  funs : w.ownsRow n1 79 3 fv P.funs.length (fs.flatMap F2.cells)
  stmts : w.ownsRow n1 77 4 sv P.stmts.length (ss.flatMap S2.cells)
  fm : fs.map F2.f = P.funs
  sm : ss.map S2.s = P.stmts
  fi : ∀ x ∈ fs, IntsT w x.v x.f.params
  si : ∀ x ∈ ss, IntsT w x.v x.s.args
theorem OwnR.ext {w w' : World} {n1 : Nat} {vv fv sv : Value} {P : PP} {fs : List F2} {ss : List S2} (h : OwnR w n1 vv fv sv P fs ss) (x : Ext w w') : OwnR w' n1 vv fv sv P fs ss :=
  ⟨own_ext h.vars x, own_ext h.funs x, own_ext h.stmts x, h.fm, h.sm, fun y hy => (h.fi y hy).ext x, fun y hy => (h.si y hy).ext x⟩
theorem OwnR.prog {w : World} {n1 : Nat} {vv fv sv : Value} {P : PP} {fs : List F2} {ss : List S2} (h : OwnR w n1 vv fv sv P fs ss) : ProgR w w.heap.size vv fv sv P := by
  have hfl : fs.length = P.funs.length := by rw [← h.fm, List.length_map]
  have hsl : ss.length = P.stmts.length := by rw [← h.sm, List.length_map]
  exact ⟨StrsR.own h.vars (Nat.le_refl _), FunsR.own (by rw [hfl]; exact h.funs) h.fm h.fi, StmtsR.own (by rw [hsl]; exact h.stmts) h.sm h.si⟩
theorem OwnR.more {w w' : World} {n1 : Nat} {vv fv sv sv' : Value} {P : PP} {fs : List F2} {ss : List S2} (h : OwnR w n1 vv fv sv P fs ss) (x : S2) (hx : IntsR w' w'.heap.size x.v x.s.args)
    (ho : w'.ownsRow n1 77 4 sv' (P.stmts.length + 1) (ss.flatMap S2.cells ++ S2.cells x)) {X : Nat → Prop} (k : Keep X w w') (hX : ∀ q, X q → ∃ c t, Blk w q c t ∧ t ≠ 9 ∧ t ≠ 79 ∧ t ≠ 3) :
    ProgR w' w'.heap.size vv fv sv' ⟨P.vars, P.funs, P.stmts ++ [x.s]⟩ := by
  have hfl : fs.length = P.funs.length := by rw [← h.fm, List.length_map]
  have hsl : ss.length = P.stmts.length := by rw [← h.sm, List.length_map]
  have hni : ∀ b, X b → ¬ IsInt w b := fun b e => by
    obtain ⟨c, t, hc, _, _, h3⟩ := hX b e
    exact notInt hc h3
  have hrk : ∀ {base : Nat} {e : TypeId} {size : Nat} {v : Value} {n : Nat} {xs : List Value}, w.ownsRow base e size v n xs → (e = 9 ∨ e = 79) → w'.ownsRow base e size v n xs := fun hr hne => row_keep hr k fun i hi e => by
    obtain ⟨c, hc⟩ := own_ty hr hi
    obtain ⟨c', t, hc', h1, h2, _⟩ := hX i e
    refine Blk.ty_ne hc hc' (fun e => ?_) rfl
    rcases hne with h | h
    · exact h1 (e.symm.trans h)
    · exact h2 (e.symm.trans h)
  refine ⟨StrsR.own (hrk h.vars (.inl rfl)) (Nat.le_refl _), FunsR.own (by rw [hfl]; exact hrk h.funs (.inr rfl)) h.fm fun x hx => (h.fi x hx).keep k hni, ?_⟩
  refine StmtsR.own2 (base := n1) (ss := ss ++ [x]) ?_ ?_ ?_
  · rw [List.flatMap_append, List.length_append, List.length_singleton, hsl]
    simpa using ho
  · rw [List.map_append, h.sm]; rfl
  · intro y hy
    rcases List.mem_append.1 hy with hy | hy
    · exact ((h.si y hy).keep k hni).1
    · obtain rfl := List.mem_singleton.1 hy
      exact hx
structure Bags (w : World) (base : Nat) (vs : List Value) (B : List (List Int)) : Prop where
  len : vs.length = B.length
  row : ∀ (i : Nat) v l, vs[i]? = some v → B[i]? = some l → IRow base w v l
  apart : ∀ (i j : Nat) v u b, i ≠ j → vs[i]? = some v → vs[j]? = some u → v.ownBlock = some b → ¬ u.ownBlock = some b
theorem Bags.nil (w : World) (base : Nat) : Bags w base [] [] := ⟨rfl, fun _ _ _ h => by simp at h, fun _ _ _ _ _ _ h => by simp at h⟩
theorem Bags.made {w : World} {base : Nat} {vs : List Value} {B : List (List Int)} (h : Bags w base vs B) : Made w vs B := ⟨h.len, fun i v l h1 h2 => IntsT.of_row (h.row i v l h1 h2)⟩
theorem Bags.keep {X : Nat → Prop} {w w' : World} {base : Nat} {vs : List Value} {B : List (List Int)} (h : Bags w base vs B) (k : Keep X w w') (hX : ∀ b, X b → ¬ IsInt w b) : Bags w' base vs B :=
  ⟨h.len, fun i v l h1 h2 => row_keep (h.row i v l h1 h2) k fun b hb hx => hX b hx (by
    obtain ⟨c, hc⟩ := own_ty (h.row i v l h1 h2) hb
    exact ⟨c, _, hc⟩), h.apart⟩
theorem Bags.ext {w w' : World} {base : Nat} {vs : List Value} {B : List (List Int)} (h : Bags w base vs B) (x : Ext w w') : Bags w' base vs B := h.keep (x.keep fun _ => False) fun _ h => h.elim
theorem Bags.push {w w' : World} {base : Nat} {vs : List Value} {B : List (List Int)} (h : Bags w base vs B) (x : Ext w w') {v : Value} {l : List Int} (hr : IRow base w' v l) (hn : ∀ b, v.ownBlock = some b → w.heap.size ≤ b) : Bags w' base (vs ++ [v]) (B ++ [l]) := by
  have hlt : ∀ (i : Nat) u b, vs[i]? = some u → u.ownBlock = some b → b < w.heap.size := fun i u b hu hb => by
    have hi : i < vs.length := by
      rcases Nat.lt_or_ge i vs.length with g | g
      · exact g
      · rw [List.getElem?_eq_none g] at hu; cases hu
    obtain ⟨m, hm⟩ : ∃ m, B[i]? = some m := ⟨_, List.getElem?_eq_getElem (by rw [← h.len]; exact hi)⟩
    exact (World.ownsRow.lt (h.row i u m hu hm) b hb).2
  have hat : ∀ (i : Nat) u, (vs ++ [v])[i]? = some u → (i < vs.length ∧ vs[i]? = some u) ∨ (i = vs.length ∧ u = v) := fun i u hu => by
    rcases Nat.lt_trichotomy i vs.length with g | g | g
    · rw [List.getElem?_append_left g] at hu
      exact .inl ⟨g, hu⟩
    · subst g
      rw [List.getElem?_concat_length] at hu
      exact .inr ⟨rfl, (Option.some.inj hu).symm⟩
    · rw [List.getElem?_eq_none (by rw [List.length_append, List.length_singleton]; omega)] at hu
      cases hu
  refine ⟨by rw [List.length_append, List.length_append, h.len]; rfl, fun i u m hu hm => ?_, fun i j u z b hij hu hz hb hz' => ?_⟩
  · rcases hat i u hu with ⟨hi, hu'⟩ | ⟨rfl, rfl⟩
    · rw [List.getElem?_append_left (by rw [← h.len]; exact hi)] at hm
      exact (h.ext x).row i u m hu' hm
    · rw [h.len, List.getElem?_concat_length] at hm
      obtain rfl := Option.some.inj hm
      exact hr
  · rcases hat i u hu with ⟨hi, hu'⟩ | ⟨hi, rfl⟩ <;> rcases hat j z hz with ⟨hj, hz''⟩ | ⟨hj, rfl⟩
    · exact h.apart i j u z b hij hu' hz'' hb hz'
    · have := hlt i u b hu' hb
      have := hn b hz'
      omega
    · have := hlt j z b hz'' hz'
      have := hn b hb
      omega
    · omega
theorem Bags.app {w w' : World} {base i : Nat} {vs : List Value} {B : List (List Int)} (h : Bags w base vs B) (hi : i < vs.length) {v v' : Value} {l' : List Int} (hv : vs[i]? = some v) (hr : IRow base w' v' l') (k : Keep (fun q => v.ownBlock = some q) w w') (hb : ∀ b, v'.ownBlock = some b → v.ownBlock = some b ∨ w.heap.size ≤ b) :
    Bags w' base (vs.set i v') (B.set i l') := by
  have hlt : ∀ (j : Nat) u b, vs[j]? = some u → u.ownBlock = some b → b < w.heap.size := fun j u b hu hb => by
    have hj : j < vs.length := by
      rcases Nat.lt_or_ge j vs.length with g | g
      · exact g
      · rw [List.getElem?_eq_none g] at hu; cases hu
    obtain ⟨m, hm⟩ : ∃ m, B[j]? = some m := ⟨_, List.getElem?_eq_getElem (by rw [← h.len]; exact hj)⟩
    exact (World.ownsRow.lt (h.row j u m hu hm) b hb).2
  have hoff : ∀ (j : Nat) u b, j ≠ i → vs[j]? = some u → v'.ownBlock = some b → ¬ u.ownBlock = some b := fun j u b hj hu hb' hu' => by
    rcases hb b hb' with g | g
    · exact h.apart i j v u b (fun e => hj e.symm) hv hu g hu'
    · have := hlt j u b hu hu'
      omega
  refine ⟨by rw [List.length_set, List.length_set, h.len], fun j u m hu hm => ?_, fun p q u z b hpq hu hz hb' hz' => ?_⟩
  · by_cases hj : i = j
    · subst hj
      rw [List.getElem?_set_self hi] at hu
      rw [List.getElem?_set_self (by rw [← h.len]; exact hi)] at hm
      obtain rfl := Option.some.inj hu
      obtain rfl := Option.some.inj hm
      exact hr
    · rw [List.getElem?_set_ne hj] at hu hm
      exact row_keep (h.row j u m hu hm) k fun b hb1 hb2 => h.apart i j v u b hj hv hu hb2 hb1
  · by_cases hp : i = p
    · subst hp
      rw [List.getElem?_set_self hi] at hu
      obtain rfl := Option.some.inj hu
      rw [List.getElem?_set_ne hpq] at hz
      exact hoff q z b (fun e => hpq e.symm) hz hb' hz'
    · rw [List.getElem?_set_ne hp] at hu
      by_cases hq : i = q
      · subst hq
        rw [List.getElem?_set_self hi] at hz
        obtain rfl := Option.some.inj hz
        exact hoff p u b hpq hu hz' hb'
      · rw [List.getElem?_set_ne hq] at hz
        exact h.apart p q u z b hpq hu hz hb' hz'
end Go.Proofs.YtbagppdibncfdaaGreatDoor
