/- Texts of one proof, put together: ZM ZN ZO ZP ZT ZU. -/
import Derived.Test.YtdppgcbekhabnaaGreatDoorSD07
import Derived.Test.YtdppgcbekhabnaaGreatDoorSD12
import Derived.Test.YtdppgcbekhabnaaGreatDoorSD18

/- The solver, plainly: it keeps what holds, and at the end it is the least answer. -/
namespace Go.Proofs.YtdppgcbekhabnaaGreatDoor
set_option linter.unusedSimpArgs false
set_option linter.unusedVariables false
open Go Go.RowKit

/-- What a solver keeps from one fact to the next: rules have told what they tell. -/
structure Full (P : PP) (S : List (List Int)) (s : SV) : Prop where
  core : Core P S s
  of : ∀ r ∈ s.rules, r ∈ P.rulesV
  told : ∀ r ∈ s.rules, r.fired = true → ∀ o, 0 ≤ o → s.bit (r.pivot, o) = true → s.told P r o
theorem Core.fire {P : PP} {S : List (List Int)} {s : SV} (hg : P.GoodS S) (hc : ClosedP P S) (h : Core P S s) {r : RV} (hr : r ∈ P.rulesV) (hf : r.fired = true) {o : Int} (ho : o ∈ S.getD r.pivot.toNat []) :
    Core P S (s.fire P r o) ∧ (s.fire P r o).has = s.has ∧ (s.fire P r o).rules = s.rules ∧ (∀ g ∈ s.edges, g ∈ (s.fire P r o).edges) ∧ (s.fire P r o).told P r o :=
  edges_fold _ h fun _ he => sndE_of hg hc hr (fires_in hf ho he)
theorem told_more {P : PP} {s t : SV} (hm : ∀ g ∈ s.edges, g ∈ t.edges) {r : RV} {o : Int} (h : s.told P r o) : t.told P r o := fun e he => (h e he).imp id fun k => hm e k
theorem bit_has {s t : SV} (h : t.has = s.has) (f : Int × Int) : t.bit f = s.bit f := by unfold SV.bit; rw [h]
theorem objs_has {s t : SV} (h : t.has = s.has) (n : Int) : t.objs n = s.objs n := by unfold SV.objs; rw [h]
/-- Rules that are fired by a fact, one after another. -/
theorem fires_fold {P : PP} {S : List (List Int)} (hg : P.GoodS S) (hc : ClosedP P S) {f : Int × Int} (hf : f.2 ∈ S.getD f.1.toNat []) : ∀ (l : List RV) {s : SV}, Core P S s → (∀ r ∈ l, r ∈ P.rulesV) →
    let t := l.foldl (fun s r => bif r.fired && decide (r.pivot = f.1) then s.fire P r f.2 else s) s
    Core P S t ∧ t.has = s.has ∧ t.rules = s.rules ∧ (∀ g ∈ s.edges, g ∈ t.edges) ∧ ∀ r ∈ l, r.fired = true → r.pivot = f.1 → t.told P r f.2
  | [], s, h, _ => ⟨h, rfl, rfl, fun _ hg => hg, fun _ he => by cases he⟩
  | r :: l, s, h, hs => by
    have step : Core P S (bif r.fired && decide (r.pivot = f.1) then s.fire P r f.2 else s) ∧ (bif r.fired && decide (r.pivot = f.1) then s.fire P r f.2 else s).has = s.has ∧ (bif r.fired && decide (r.pivot = f.1) then s.fire P r f.2 else s).rules = s.rules ∧ (∀ g ∈ s.edges, g ∈ (bif r.fired && decide (r.pivot = f.1) then s.fire P r f.2 else s).edges) ∧ (r.fired = true → r.pivot = f.1 → (bif r.fired && decide (r.pivot = f.1) then s.fire P r f.2 else s).told P r f.2) := by
      cases h1 : (r.fired && decide (r.pivot = f.1)) with
      | false =>
        refine ⟨h, rfl, rfl, fun _ k => k, fun k1 k2 => ?_⟩
        rw [k1, decide_eq_true k2] at h1; cases h1
      | true =>
        rw [Bool.and_eq_true] at h1
        have hp := of_decide_eq_true h1.2
        obtain ⟨k1, k2, k3, k4, k5⟩ := h.fire hg hc (hs r List.mem_cons_self) h1.1 (o := f.2) (by rw [hp]; exact hf)
        exact ⟨k1, k2, k3, k4, fun _ _ => k5⟩
    obtain ⟨k1, k2, k3, k4, k5⟩ := step
    obtain ⟨j1, j2, j3, j4, j5⟩ := fires_fold hg hc hf l k1 fun g hg => hs g (List.mem_cons_of_mem _ hg)
    refine ⟨j1, j2.trans k2, j3.trans k3, fun g hg => j4 g (k4 g hg), fun q hq h1 h2 => ?_⟩
    rcases List.mem_cons.1 hq with rfl | hq
    · exact told_more j4 (k5 h1 h2)
    · exact j5 q hq h1 h2
theorem getD_set2 (l : List (List Bool)) (i n : Nat) (v : List Bool) (hn : n < l.length) : (l.set n v).getD i [] = if n = i then v else l.getD i [] := by
  rw [List.getD_eq_getElem?_getD, List.getElem?_set]
  by_cases h : n = i
  · subst h; rw [if_pos rfl, if_pos hn, if_pos rfl]; rfl
  · rw [if_neg h, if_neg h, List.getD_eq_getElem?_getD]
/-- A fact that is marked. -/
theorem mark_bit {s : SV} {f g : Int × Int} (hf : 0 ≤ f.1 ∧ f.1.toNat < s.has.length) (h2 : 0 ≤ f.2 ∧ f.2.toNat < (s.has.getD f.1.toNat []).length) (hg1 : 0 ≤ g.1) (hg2 : 0 ≤ g.2) : (s.mark f).bit g = true ↔ g = f ∨ s.bit g = true := by
  unfold SV.bit SV.mark
  rw [getD_set2 _ _ _ _ hf.2]
  by_cases h1 : f.1.toNat = g.1.toNat
  · have e1 : f.1 = g.1 := by omega
    rw [if_pos h1, List.getD_eq_getElem?_getD, List.getElem?_set]
    by_cases h3 : f.2.toNat = g.2.toNat
    · have e2 : f.2 = g.2 := by omega
      rw [if_pos h3, if_pos h2.2]
      exact ⟨fun _ => .inl (Prod.ext e1.symm e2.symm), fun _ => rfl⟩
    · rw [if_neg h3, h1]
      refine ⟨fun h => .inr (by rw [List.getD_eq_getElem?_getD]; exact h), fun h => ?_⟩
      rcases h with rfl | h
      · exact absurd rfl h3
      · rw [List.getD_eq_getElem?_getD] at h; exact h
  · rw [if_neg h1]
    refine ⟨.inr, fun h => ?_⟩
    rcases h with rfl | h
    · exact absurd rfl h1
    · exact h
/-- The pivot of a rule is a variable. -/
theorem pivot_in {P : PP} (hw : P.Well) {k : Nat} (hk : k < P.stmts.length) (hf : (P.ruleV k (P.stAt k)).fired = true) : 0 ≤ (P.ruleV k (P.stAt k)).pivot := by
  have hgd := PP.good (hw.2 k (P.stAt k) hk (stAt_some hk))
  have ha := rule_a_in hw hk
  unfold RV.pivot
  cases h : ((P.ruleV k (P.stAt k)).kind.toList == kStore) with
  | false => exact ha.1
  | true =>
    rw [cond_true]
    have hb := eq_of_beq bBase_list
    have hk1 := eq_of_beq h
    unfold PP.ruleV at hk1 ⊢
    cases h1 : (P.stAt k).isK kAddr with
    | true => rw [h1, cond_true] at hk1; rw [show (bBase.toList = kStore) = False from by rw [hb]; exact eq_false (by decide)] at hk1; exact hk1.elim
    | false =>
    cases h2 : (P.stAt k).isK kNew with
    | true => rw [h1, h2, cond_false, cond_true] at hk1; rw [show (bBase.toList = kStore) = False from by rw [hb]; exact eq_false (by decide)] at hk1; exact hk1.elim
    | false =>
    cases h3 : (P.stAt k).isK kFun with
    | true => rw [h1, h2, h3, cond_false, cond_false, cond_true] at hk1; rw [show (bBase.toList = kStore) = False from by rw [hb]; exact eq_false (by decide)] at hk1; exact hk1.elim
    | false =>
    cases h4 : (P.stAt k).isK kCall with
    | true => exact hgd.gx.1
    | false => exact hgd.gx.1
/-- A fact that is marked, what it sends put to what is to come. -/
theorem Full.marked {P : PP} {S : List (List Int)} {s : SV} (hg : P.GoodS S) (h : Full P S s) {f : Int × Int} (hf : (0 ≤ f.1 ∧ f.1 < P.nodesV) ∧ f.2 ∈ S.getD f.1.toNat []) (h2 : 0 ≤ f.2 ∧ f.2 < P.objectsV) :
    Core P S ({ s.mark f with wait := (s.mark f).wait ++ ((s.mark f).succ f.1).map fun t => (t, f.2) } : SV) := by
  have hl1 : f.1.toNat < s.has.length := by rw [h.core.len]; omega
  have hrow : (s.has.getD f.1.toNat []).length = P.objectsV := by
    rw [List.getD_eq_getElem?_getD, List.getElem?_eq_getElem hl1]
    exact h.core.row _ (List.getElem_mem hl1)
  have hmb := fun (g : Int × Int) (g1 : 0 ≤ g.1) (g2 : 0 ≤ g.2) => mark_bit (s := s) (f := f) (g := g) ⟨hf.1.1, hl1⟩ ⟨h2.1, by rw [hrow]; omega⟩ g1 g2
  obtain ⟨t, ht⟩ : ∃ t, t = ({ s.mark f with wait := (s.mark f).wait ++ ((s.mark f).succ f.1).map fun t => (t, f.2) } : SV) := ⟨_, rfl⟩
  have hth : t.has = (s.mark f).has := by rw [ht]
  have hte : t.edges = s.edges := by rw [ht]; rfl
  have htr : t.rules = s.rules := by rw [ht]; rfl
  have htw : t.wait = s.wait ++ (s.succ f.1).map fun t => (t, f.2) := by rw [ht]; rfl
  have htb : ∀ g : Int × Int, t.bit g = (s.mark f).bit g := bit_has hth
  rw [← ht]
  refine ⟨?_, fun l hl => ?_, fun g hw => ?_, fun g hb g0 => ?_, fun e he => ?_, fun e he o h0 hb => ?_, fun r hr hk => ?_, fun r hr hk => ?_⟩
  · rw [hth]; unfold SV.mark; rw [List.length_set]; exact h.core.len
  · rw [hth] at hl
    rcases List.mem_or_eq_of_mem_set hl with hl | rfl
    · exact h.core.row l hl
    · rw [List.length_set]; exact hrow
  · rw [htw] at hw
    rcases List.mem_append.1 hw with hw | hw
    · exact h.core.wait g hw
    · obtain ⟨q, hq, rfl⟩ := List.mem_map.1 hw
      unfold SV.succ at hq
      obtain ⟨e, he, rfl⟩ := List.mem_map.1 hq
      obtain ⟨he, h1⟩ := List.mem_filter.1 he
      have h1 := of_decide_eq_true h1
      obtain ⟨_, k2, k3⟩ := h.core.edge e he
      rw [h1] at k3
      exact ⟨k2, k3 f.2 hf.2⟩
  · rw [htb] at hb
    by_cases g1 : 0 ≤ g.1
    · rcases (hmb g g1 g0).1 hb with rfl | hb
      · exact hf.2
      · exact h.core.bit g hb g0
    · -- a negative node: its place is the first one's
      have e : g.1.toNat = (0 : Int).toNat := by omega
      have hb' : (s.mark f).bit (0, g.2) = true := by unfold SV.bit at hb ⊢; rw [e] at hb; exact hb
      rw [e]
      rcases (hmb (0, g.2) (Int.le_refl 0) g0).1 hb' with k | k
      · have := hf.2; rw [← k] at this; exact this
      · exact h.core.bit (0, g.2) k g0
  · rw [hte] at he; exact h.core.edge e he
  · rw [hte] at he
    obtain ⟨k1, k2, _⟩ := h.core.edge e he
    rw [htb] at hb ⊢
    rw [htw]
    rcases (hmb (e.1, o) k1.1 h0).1 hb with k | k
    · refine .inr (List.mem_append_right _ (List.mem_map.2 ⟨e.2, ?_, by rw [← k]⟩))
      unfold SV.succ
      refine List.mem_map.2 ⟨e, List.mem_filter.2 ⟨he, decide_eq_true ?_⟩, rfl⟩
      rw [← k]
    · rcases h.core.along e he o h0 k with k | k
      · exact .inl ((hmb (e.2, o) k2.1 h0).2 (.inr k))
      · exact .inr (List.mem_append_left _ k)
  · rw [htr] at hr
    rw [htb, htw]
    have hrv := h.of r hr
    rcases h.core.base r hr hk with k | k
    · refine .inl ?_
      obtain ⟨i, hi, rfl⟩ := List.mem_map.1 hrv
      have hi := List.mem_range.1 hi
      exact (hmb _ (rule_a_in hg.1 hi).1 (base_b_in hg.1 hi hk).1).2 (.inr k)
    · exact .inr (List.mem_append_left _ k)
  · rw [htr] at hr; rw [hte]; exact h.core.copy r hr hk
/-- A fact comes: what holds stays so. -/
theorem Full.came {P : PP} {S : List (List Int)} {s : SV} (hg : P.GoodS S) (hc : ClosedP P S) (h : Full P S s) {f : Int × Int} (hf : (0 ≤ f.1 ∧ f.1 < P.nodesV) ∧ f.2 ∈ S.getD f.1.toNat []) (h2 : 0 ≤ f.2 ∧ f.2 < P.objectsV) :
    Full P S ((s.mark f).came P f) ∧ ((s.mark f).came P f).has = (s.mark f).has ∧ ((s.mark f).came P f).rules = s.rules := by
  have hl1 : f.1.toNat < s.has.length := by rw [h.core.len]; omega
  have hrow : (s.has.getD f.1.toNat []).length = P.objectsV := by
    rw [List.getD_eq_getElem?_getD, List.getElem?_eq_getElem hl1]
    exact h.core.row _ (List.getElem_mem hl1)
  have hmb := fun (g : Int × Int) (g1 : 0 ≤ g.1) (g2 : 0 ≤ g.2) => mark_bit (s := s) (f := f) (g := g) ⟨hf.1.1, hl1⟩ ⟨h2.1, by rw [hrow]; omega⟩ g1 g2
  obtain ⟨t, ht⟩ : ∃ t, t = ({ s.mark f with wait := (s.mark f).wait ++ ((s.mark f).succ f.1).map fun t => (t, f.2) } : SV) := ⟨_, rfl⟩
  have hth : t.has = (s.mark f).has := by rw [ht]
  have hte : t.edges = s.edges := by rw [ht]; rfl
  have htr : t.rules = s.rules := by rw [ht]; rfl
  have htw : t.wait = s.wait ++ (s.succ f.1).map fun t => (t, f.2) := by rw [ht]; rfl
  have htb : ∀ g : Int × Int, t.bit g = (s.mark f).bit g := bit_has hth
  have hcore : Core P S t := by rw [ht]; exact h.marked hg hf h2
  obtain ⟨k1, k2, k3, k4, k5⟩ := fires_fold hg hc hf.2 t.rules hcore fun r hr => by rw [htr] at hr; exact h.of r hr
  have hce : (s.mark f).came P f = t.rules.foldl (fun s r => bif r.fired && decide (r.pivot = f.1) then s.fire P r f.2 else s) t := by rw [ht]; rfl
  rw [hce]
  refine ⟨⟨k1, fun r hr => by rw [k3, htr] at hr; exact h.of r hr, fun r hr hfd o h0 hb => ?_⟩, k2.trans hth, k3.trans htr⟩
  rw [k3] at hr
  rw [bit_has k2, htb] at hb
  have hr' := hr
  rw [htr] at hr'
  have hp0 : 0 ≤ r.pivot := by
    obtain ⟨i, hi, rfl⟩ := List.mem_map.1 (h.of r hr')
    exact pivot_in hg.1 (List.mem_range.1 hi) hfd
  rcases (hmb (r.pivot, o) hp0 h0).1 hb with k | k
  · have e1 : r.pivot = f.1 := by rw [← k]
    have e2 : o = f.2 := by rw [← k]
    rw [e2]
    exact k5 r hr hfd e1
  · exact told_more (fun g hg => k4 g (by rw [hte]; exact hg)) (h.told r hr' hfd o h0 k)
end Go.Proofs.YtdppgcbekhabnaaGreatDoor



/- The solver, plainly: rules that are added, what is let go, and the end. -/
namespace Go.Proofs.YtdppgcbekhabnaaGreatDoor
set_option linter.unusedSimpArgs false
set_option linter.unusedVariables false
open Go Go.RowKit

theorem mem_dropWhile_or {α : Type} {p : α → Bool} : ∀ {l : List α} {x : α}, x ∈ l → x ∈ l.dropWhile p ∨ p x = true
  | y :: l, x, h => by
    cases hy : p y with
    | false => rw [List.dropWhile_cons, hy]; exact .inl h
    | true =>
      rw [List.dropWhile_cons, hy]
      rcases List.mem_cons.1 h with rfl | h
      · exact .inr hy
      · exact mem_dropWhile_or h
theorem mem_of_dropWhile {α : Type} {p : α → Bool} : ∀ {l : List α} {x : α}, x ∈ l.dropWhile p → x ∈ l
  | y :: l, x, h => by
    rw [List.dropWhile_cons] at h
    split at h
    · exact List.mem_cons_of_mem _ (mem_of_dropWhile h)
    · exact h
theorem dropWhile_head {α : Type} {p : α → Bool} : ∀ {l : List α} {x : α} {r : List α}, l.dropWhile p = x :: r → p x = false
  | y :: l, x, r, h => by
    rw [List.dropWhile_cons] at h
    split at h
    · exact dropWhile_head h
    · next hy =>
      obtain ⟨rfl, _⟩ := List.cons.inj h
      exact eq_false_of_ne_true hy
theorem Full.cleaned {P : PP} {S : List (List Int)} {s : SV} (h : Full P S s) : Full P S s.clean := by
  have k := h.core
  refine ⟨⟨k.len, k.row, fun f hf => k.wait f (mem_of_dropWhile hf), k.bit, k.edge, fun e he o h0 hb => ?_, fun r hr hk => ?_, k.copy⟩, h.of, h.told⟩
  · rcases k.along e he o h0 hb with g | g
    · exact .inl g
    · rcases mem_dropWhile_or (p := s.bit) g with g | g
      · exact .inr g
      · exact .inl g
  · rcases k.base r hr hk with g | g
    · exact .inl g
    · rcases mem_dropWhile_or (p := s.bit) g with g | g
      · exact .inr g
      · exact .inl g
theorem fires_objs {P : PP} {S : List (List Int)} (hg : P.GoodS S) (hc : ClosedP P S) {r : RV} (hr : r ∈ P.rulesV) (hf : r.fired = true) : ∀ (l : List Int) {s : SV}, Core P S s → (∀ o ∈ l, o ∈ S.getD r.pivot.toNat []) →
    let t := l.foldl (fun s o => s.fire P r o) s
    Core P S t ∧ t.has = s.has ∧ t.rules = s.rules ∧ (∀ g ∈ s.edges, g ∈ t.edges) ∧ ∀ o ∈ l, t.told P r o
  | [], s, h, _ => ⟨h, rfl, rfl, fun _ hg => hg, fun _ he => by cases he⟩
  | o :: l, s, h, hs => by
    obtain ⟨k1, k2, k3, k4, k5⟩ := h.fire hg hc hr hf (hs o List.mem_cons_self)
    obtain ⟨j1, j2, j3, j4, j5⟩ := fires_objs hg hc hr hf l k1 fun q hq => hs q (List.mem_cons_of_mem _ hq)
    refine ⟨j1, j2.trans k2, j3.trans k3, fun g hg => j4 g (k4 g hg), fun q hq => ?_⟩
    rcases List.mem_cons.1 hq with rfl | hq
    · exact told_more j4 k5
    · exact j5 q hq
theorem fired_kinds {r : RV} (h : r.fired = true) : r.kind.toList ≠ bBase.toList ∧ r.kind.toList ≠ kCopy := by
  have hb := eq_of_beq bBase_list
  rw [hb]
  unfold RV.fired at h
  rw [Bool.or_eq_true, Bool.or_eq_true] at h
  rcases h with (h | h) | h <;> rw [eq_of_beq h] <;> decide
/-- Every rule of a program that is well is of one of the kinds. -/
theorem rule_kinds {P : PP} (hw : P.Well) {r : RV} (hr : r ∈ P.rulesV) : r.kind.toList = bBase.toList ∨ r.kind.toList = kCopy ∨ r.fired = true := by
  obtain ⟨k, hk, rfl⟩ := List.mem_map.1 hr
  have hk := List.mem_range.1 hk
  have h0 := hw.2 k (P.stAt k) hk (stAt_some hk)
  unfold PP.ruleV
  cases h1 : (P.stAt k).isK kAddr with
  | true => exact .inl rfl
  | false =>
  cases h2 : (P.stAt k).isK kNew with
  | true => exact .inl rfl
  | false =>
  cases h3 : (P.stAt k).isK kFun with
  | true => exact .inl rfl
  | false =>
  cases h4 : (P.stAt k).isK kCall with
  | true =>
    refine .inr (.inr ?_)
    show RV.fired ⟨bCall, _, _, _, _⟩ = true
    have hb : bCall.toList = kCall := by decide +kernel
    unfold RV.fired
    simp only [hb]
    decide
  | false =>
    show _ ∨ (P.stAt k).kind.toList = kCopy ∨ RV.fired ⟨(P.stAt k).kind, _, _, _, _⟩ = true
    rcases kind_cases h0 with h | h | h | h | h | h | h
    · rw [h1] at h; cases h
    · exact .inr (.inl (eq_of_beq h))
    · have h := eq_of_beq h
      exact .inr (.inr (by unfold RV.fired; simp only [h]; decide))
    · have h := eq_of_beq h
      exact .inr (.inr (by unfold RV.fired; simp only [h]; decide))
    · rw [h2] at h; cases h
    · rw [h3] at h; cases h
    · rw [h4] at h; cases h
theorem Full.added {P : PP} {S : List (List Int)} {s : SV} (hg : P.GoodS S) (hc : ClosedP P S) (h : Full P S s) {r : RV} (hr : r ∈ P.rulesV) : Full P S (s.add P r) ∧ (s.add P r).has = s.has ∧ (s.add P r).rules = s.rules ++ [r] := by
  have hcore0 : r.kind.toList ≠ bBase.toList → r.kind.toList ≠ kCopy → Core P S { s with rules := s.rules ++ [r] } := fun n1 n2 =>
    ⟨h.core.len, h.core.row, h.core.wait, h.core.bit, h.core.edge, h.core.along, fun q hq hk => by
      rcases List.mem_append.1 hq with hq | hq
      · exact h.core.base q hq hk
      · obtain rfl := List.mem_singleton.1 hq
        exact absurd hk n1, fun q hq hk => by
      rcases List.mem_append.1 hq with hq | hq
      · exact h.core.copy q hq hk
      · obtain rfl := List.mem_singleton.1 hq
        exact absurd hk n2⟩
  have hof : ∀ q ∈ s.rules ++ [r], q ∈ P.rulesV := fun q hq => by
    rcases List.mem_append.1 hq with hq | hq
    · exact h.of q hq
    · obtain rfl := List.mem_singleton.1 hq
      exact hr
  unfold SV.add
  cases h1 : (r.kind.toList == bBase.toList) with
  | true =>
    have hb := eq_of_beq h1
    obtain ⟨k, hk, hrk⟩ := List.mem_map.1 hr
    have hk := List.mem_range.1 hk
    have ha := rule_a_in hg.1 hk
    have hba := hc.base k hk (by rw [hrk]; exact hb)
    rw [hrk] at ha hba
    have hnv := nodes_vars P
    refine ⟨⟨⟨h.core.len, h.core.row, fun f hf => ?_, h.core.bit, h.core.edge, fun e he o h0 hbt => (h.core.along e he o h0 hbt).imp id fun g => List.mem_append_left _ g, fun q hq hqk => ?_, fun q hq hqk => ?_⟩, hof, fun q hq hqf o h0 hbt => ?_⟩, rfl, rfl⟩
    · rcases List.mem_append.1 hf with hf | hf
      · exact h.core.wait f hf
      · obtain rfl := List.mem_singleton.1 hf
        exact ⟨⟨ha.1, by omega⟩, hba⟩
    · rcases List.mem_append.1 hq with hq | hq
      · exact (h.core.base q hq hqk).imp id fun g => List.mem_append_left _ g
      · obtain rfl := List.mem_singleton.1 hq
        exact .inr (List.mem_append_right _ (List.mem_singleton.2 rfl))
    · rcases List.mem_append.1 hq with hq | hq
      · exact h.core.copy q hq hqk
      · obtain rfl := List.mem_singleton.1 hq
        rw [hb, eq_of_beq bBase_list] at hqk
        exact absurd hqk (by decide)
    · rcases List.mem_append.1 hq with hq | hq
      · exact h.told q hq hqf o h0 hbt
      · obtain rfl := List.mem_singleton.1 hq
        exact absurd hb (fired_kinds hqf).1
  | false =>
  have n1 : r.kind.toList ≠ bBase.toList := fun e => by rw [e] at h1; simp at h1
  cases h2 : (r.kind.toList == kCopy) with
  | true =>
    have hb := eq_of_beq h2
    have hsnd : SndE P S (r.a, r.b) := sndE_of hg hc hr (by unfold PP.redges; rw [h2, cond_true]; exact List.mem_singleton.2 rfl)
    obtain ⟨t, ht⟩ : ∃ t : SV, t = { s with rules := s.rules ++ [r] } := ⟨_, rfl⟩
    have hin := edge_in t (r.a, r.b)
    have hcore1 : Core P S ({ s with rules := s.rules }.edge (r.a, r.b)) := h.core.edgeTo hsnd
    have e1 : (t.edge (r.a, r.b)).edges = (s.edge (r.a, r.b)).edges := by rw [ht]; unfold SV.edge; split <;> rfl
    have e2 : (t.edge (r.a, r.b)).wait = (s.edge (r.a, r.b)).wait := by rw [ht]; unfold SV.edge; split <;> rfl
    have e3 : (t.edge (r.a, r.b)).has = s.has := by rw [edge_has, ht]
    have e4 : (t.edge (r.a, r.b)).rules = s.rules ++ [r] := by rw [edge_rules, ht]
    have e5 : ∀ f, (t.edge (r.a, r.b)).bit f = s.bit f := bit_has e3
    have k := h.core.edgeTo hsnd
    have hmore : ∀ g ∈ s.edges, g ∈ (t.edge (r.a, r.b)).edges := fun g hg => by rw [e1]; exact edge_more hg
    rw [cond_false, cond_true, ← ht]
    refine ⟨⟨⟨by rw [e3]; exact h.core.len, by rw [e3]; exact h.core.row, fun f hf => by rw [e2] at hf; exact k.wait f hf, fun f hf h0 => by rw [e5] at hf; exact h.core.bit f hf h0, fun e he => by rw [e1] at he; exact k.edge e he, fun e he o h0 hbt => ?_, fun q hq hqk => ?_, fun q hq hqk => ?_⟩, fun q hq => by rw [e4] at hq; exact hof q hq, fun q hq hqf o h0 hbt => ?_⟩, e3, e4⟩
    · rw [e1] at he
      rw [e5] at hbt ⊢
      rw [e2]
      have := k.along e he o h0 (by rw [edge_bit]; exact hbt)
      rwa [edge_bit] at this
    · rw [e4] at hq
      rw [e5, e2]
      rcases List.mem_append.1 hq with hq | hq
      · have := k.base q (by rw [edge_rules]; exact hq) hqk
        rwa [edge_bit] at this
      · obtain rfl := List.mem_singleton.1 hq
        exact absurd hqk n1
    · rw [e4] at hq
      rcases List.mem_append.1 hq with hq | hq
      · exact (h.core.copy q hq hqk).imp id fun g => hmore _ g
      · obtain rfl := List.mem_singleton.1 hq
        exact hin
    · rw [e4] at hq
      rw [e5] at hbt
      rcases List.mem_append.1 hq with hq | hq
      · exact told_more hmore (h.told q hq hqf o h0 hbt)
      · obtain rfl := List.mem_singleton.1 hq
        exact absurd hb (fired_kinds hqf).2
  | false =>
  have n2 : r.kind.toList ≠ kCopy := fun e => by rw [e] at h2; simp at h2
  have hf : r.fired = true := by
    rcases rule_kinds hg.1 hr with g | g | g
    · exact absurd g n1
    · exact absurd g n2
    · exact g
  obtain ⟨k1, k2, k3, k4, k5⟩ := fires_objs hg hc hr hf (s.objs r.pivot) (hcore0 n1 n2) fun o ho => by
    obtain ⟨h0, hb⟩ := mem_objs.1 ho
    exact h.core.bit (r.pivot, o) hb h0
  rw [cond_false, cond_false]
  refine ⟨⟨k1, fun q hq => by rw [k3] at hq; exact hof q hq, fun q hq hqf o h0 hbt => ?_⟩, k2, k3⟩
  rw [k3] at hq
  rw [bit_has k2] at hbt
  rcases List.mem_append.1 hq with hq | hq
  · exact told_more k4 (h.told q hq hqf o h0 hbt)
  · obtain rfl := List.mem_singleton.1 hq
    exact k5 o (mem_objs.2 ⟨h0, hbt⟩)
end Go.Proofs.YtdppgcbekhabnaaGreatDoor



/- The solver, plainly: at the end it is the least answer; how many came. -/
namespace Go.Proofs.YtdppgcbekhabnaaGreatDoor
set_option linter.unusedSimpArgs false
set_option linter.unusedVariables false
open Go Go.RowKit

def SV.zero (P : PP) : SV := ⟨List.replicate P.nodesV (List.replicate P.objectsV false), [], [], []⟩
theorem zero_bit (P : PP) (f : Int × Int) : (SV.zero P).bit f = false := by
  unfold SV.bit SV.zero
  simp only [List.getD_eq_getElem?_getD, List.getElem?_replicate]
  split
  · simp only [Option.getD_some, List.getElem?_replicate]
    split <;> rfl
  · rfl
theorem Full.zero (P : PP) (S : List (List Int)) : Full P S (SV.zero P) := by
  refine ⟨⟨List.length_replicate, fun l hl => ?_, fun f hf => (by cases hf), fun f hb _ => ?_, fun e he => (by cases he), fun e he => (by cases he), fun r hr => (by cases hr), fun r hr => (by cases hr)⟩, fun r hr => (by cases hr), fun r hr => (by cases hr)⟩
  · obtain rfl := List.eq_of_mem_replicate hl
    exact List.length_replicate
  · rw [zero_bit] at hb; cases hb
theorem adds_fold {P : PP} {S : List (List Int)} (hg : P.GoodS S) (hc : ClosedP P S) : ∀ (l : List RV) {s : SV}, Full P S s → (∀ r ∈ l, r ∈ P.rulesV) → Full P S (l.foldl (SV.add P) s) ∧ (l.foldl (SV.add P) s).has = s.has ∧ (l.foldl (SV.add P) s).rules = s.rules ++ l
  | [], s, h, _ => ⟨h, rfl, (List.append_nil _).symm⟩
  | r :: l, s, h, hs => by
    obtain ⟨k1, k2, k3⟩ := h.added hg hc (hs r List.mem_cons_self)
    obtain ⟨j1, j2, j3⟩ := adds_fold hg hc l k1 fun q hq => hs q (List.mem_cons_of_mem _ hq)
    exact ⟨j1, j2.trans k2, by rw [List.foldl_cons, j3, k3, List.append_assoc]; rfl⟩
theorem objs_srt (s : SV) (n : Int) : Srt (s.objs n) := by
  unfold SV.objs
  show List.Pairwise (· < ·) _
  rw [List.pairwise_map]
  exact List.Pairwise.imp (R := (· < ·)) (fun h => by omega) (List.Pairwise.sublist List.filter_sublist List.pairwise_lt_range)
theorem bit_few {P : PP} {S : List (List Int)} {s : SV} (h : Core P S s) {f : Int × Int} (h0 : 0 ≤ f.2) (hb : s.bit f = true) : f.2 < P.objectsV := by
  unfold SV.bit at hb
  rcases Nat.lt_or_ge f.1.toNat s.has.length with g | g
  · have hl : (s.has.getD f.1.toNat []).length = P.objectsV := by
      rw [List.getD_eq_getElem?_getD, List.getElem?_eq_getElem g]
      exact h.row _ (List.getElem_mem g)
    rcases Nat.lt_or_ge f.2.toNat P.objectsV with k | k
    · omega
    · rw [List.getD_eq_getElem?_getD (l := s.has.getD f.1.toNat []), List.getElem?_eq_none (by omega)] at hb; cases hb
  · rw [List.getD_eq_getElem?_getD (l := s.has), List.getElem?_eq_none g] at hb; cases hb
theorem redges_nil' {P : PP} {r : RV} {has : List (List Int)} (h : r.kind.toList = bBase.toList) : P.redges r has = [] := by
  have e := eq_of_beq bBase_list
  unfold PP.redges kCopy kLoad kStore kCall
  rw [h, e]; rfl
/-- An edge of a rule that is fired comes by an object of its pivot. -/
theorem redges_out {P : PP} {H : List (List Int)} {r : RV} (hf : r.fired = true) {e : Int × Int} (he : e ∈ P.redges r H) : ∃ o, o ∈ H.getD r.pivot.toNat [] ∧ e ∈ P.fires r o := by
  unfold PP.redges at he
  unfold PP.fires RV.pivot
  unfold RV.fired at hf
  cases h0 : (r.kind.toList == kCopy) with
  | true =>
    have e0 := eq_of_beq h0
    rw [e0] at hf
    exact absurd hf (by decide)
  | false =>
  rw [h0, cond_false] at he
  cases h1 : (r.kind.toList == kLoad) with
  | true =>
    have e1 := eq_of_beq h1
    have h2 : (r.kind.toList == kStore) = false := by rw [e1]; decide
    have h3 : (r.kind.toList == kCall) = false := by rw [e1]; decide
    rw [h1, cond_true] at he
    obtain ⟨o, ho, rfl⟩ := List.mem_map.1 he
    obtain ⟨k1, k2⟩ := List.mem_filter.1 ho
    have hn : ¬ (P.nodesV : Int) ≤ o := fun g => by rw [decide_eq_true g] at k2; cases k2
    rw [h2, h3, cond_false]
    refine ⟨o, k1, ?_⟩
    rw [cond_false, if_neg hn, cond_true]
    exact List.mem_singleton.2 rfl
  | false =>
  rw [h1, cond_false] at he
  cases h2 : (r.kind.toList == kStore) with
  | true =>
    have e1 := eq_of_beq h2
    have h3 : (r.kind.toList == kCall) = false := by rw [e1]; decide
    rw [h2, cond_true] at he
    obtain ⟨o, ho, rfl⟩ := List.mem_map.1 he
    obtain ⟨k1, k2⟩ := List.mem_filter.1 ho
    have hn : ¬ (P.nodesV : Int) ≤ o := fun g => by rw [decide_eq_true g] at k2; cases k2
    rw [h3, cond_true]
    refine ⟨o, k1, ?_⟩
    rw [cond_false, if_neg hn, cond_false]
    exact List.mem_singleton.2 rfl
  | false =>
  rw [h2, cond_false] at he
  cases h3 : (r.kind.toList == kCall) with
  | true =>
    rw [h3, cond_true] at he
    obtain ⟨o, ho, hc⟩ := List.mem_flatMap.1 he
    exact ⟨o, ho, hc⟩
  | false => rw [h3, cond_false] at he; cases he
/-- What came, as sets. -/
def SV.sets (P : PP) (s : SV) : List (List Int) := (List.range P.nodesV).map fun n : Nat => s.objs (n : Int)
theorem sets_getD {P : PP} {s : SV} {n : Nat} (hn : n < P.nodesV) : (s.sets P).getD n [] = s.objs n := by
  unfold SV.sets
  rw [List.getD_eq_getElem?_getD, List.getElem?_map, List.getElem?_range hn]; rfl
theorem Core.sub {P : PP} {S : List (List Int)} {s : SV} (h : Core P S s) (n : Nat) : ∀ o ∈ s.objs n, o ∈ S.getD n [] := fun o ho => by
  obtain ⟨h0, hb⟩ := mem_objs.1 ho
  exact h.bit ((n : Int), o) hb h0
theorem Core.good {P : PP} {S : List (List Int)} {s : SV} (hw : P.Well) (h : Core P S s) : P.GoodS (s.sets P) := by
  have h126 := nodesV_le P hw
  have hf := hw.few
  refine ⟨hw, by unfold SV.sets; rw [List.length_map, List.length_range], fun l hl => ?_⟩
  obtain ⟨n, hn, rfl⟩ := List.mem_map.1 hl
  have hlt : ∀ x ∈ s.objs n, 0 ≤ x ∧ x < (P.objectsV : Int) := fun x hx => by
    obtain ⟨h0, hb⟩ := mem_objs.1 hx
    exact ⟨h0, bit_few h (f := ((n : Int), x)) h0 hb⟩
  refine setE_of (chkE_zero.2 ⟨fun x hx => ?_, objs_srt s n⟩) fun x hx => (hlt x hx).2
  have := hlt x hx
  unfold PP.objectsV at this
  omega
/-- Where nothing is to come, what came is the least answer. -/
theorem Full.done {P : PP} {S : List (List Int)} {s : SV} {m : Nat} (hL : LeastAt P m S) (hw : P.Well) (h : Full P S s) (hr : ∀ r ∈ P.rulesV, r ∈ s.rules) (hwt : s.wait = []) {n : Nat} (hn : n < P.nodesV) : s.objs n = S.getD n [] := by
  have hg := hL.good hw
  have hgs := h.core.good hw
  have hcl : ClosedP P (s.sets P) := by
    refine ⟨fun k hk hb => ?_, fun e he hne q hq => ?_⟩
    · have hrk : P.ruleV k (P.stAt k) ∈ P.rulesV := List.mem_map.2 ⟨k, List.mem_range.2 hk, rfl⟩
      have ha := rule_a_in hw hk
      have hnv := nodes_vars P
      have hbi := base_b_in hw hk hb
      rcases h.core.base _ (hr _ hrk) hb with g | g
      · rw [sets_getD (by omega)]
        refine mem_objs.2 ⟨hbi.1, ?_⟩
        rw [show (((P.ruleV k (P.stAt k)).a.toNat : Nat) : Int) = (P.ruleV k (P.stAt k)).a by omega]
        exact g
      · rw [hwt] at g; cases g
    · obtain ⟨r, hrv, her⟩ := List.mem_flatMap.1 he
      obtain ⟨i1, i2, i3, i4⟩ := edges0_in hw hgs.ok e he
      have hin : e ∈ s.edges := by
        have hrs := hr r hrv
        cases hfd : r.fired with
        | false =>
          rcases rule_kinds hw hrv with g | g | g
          · rw [redges_nil' g] at her; cases her
          · have her2 : e = (r.a, r.b) := by
              unfold PP.redges at her
              rw [show (r.kind.toList == kCopy) = true from by rw [g]; decide, cond_true] at her
              exact List.mem_singleton.1 her
            rcases h.core.copy r hrs g with k | k
            · rw [her2] at hne; exact absurd k hne
            · rw [her2]; exact k
          · rw [hfd] at g; cases g
        | true =>
          obtain ⟨i, hi, hri⟩ := List.mem_map.1 hrv
          have hi := List.mem_range.1 hi
          have hp0 : 0 ≤ r.pivot := by rw [← hri]; exact pivot_in hw hi (by rw [hri]; exact hfd)
          obtain ⟨o, ho, hfo⟩ := redges_out hfd her
          have hpn : r.pivot.toNat < P.nodesV := by
            rcases Nat.lt_or_ge r.pivot.toNat P.nodesV with g | g
            · exact g
            · rw [List.getD_eq_getElem?_getD, List.getElem?_eq_none (by rw [hgs.2.1]; exact g)] at ho; cases ho
          rw [sets_getD hpn] at ho
          obtain ⟨o0, ob⟩ := mem_objs.1 ho
          rw [Int.toNat_of_nonneg hp0] at ob
          rcases h.told r hrs hfd o o0 ob e hfo with k | k
          · exact absurd k hne
          · exact k
      rw [sets_getD (by omega)] at hq ⊢
      obtain ⟨q0, qb⟩ := mem_objs.1 hq
      rw [Int.toNat_of_nonneg i1] at qb
      rcases h.core.along e hin q q0 qb with k | k
      · refine mem_objs.2 ⟨q0, ?_⟩
        rw [Int.toNat_of_nonneg i3]
        exact k
      · rw [hwt] at k; cases k
  have hsub := hL.within hgs hcl
  refine srt_uniq (objs_srt s n) ?_ fun o => ⟨h.core.sub n o, fun ho => ?_⟩
  · rw [List.getD_eq_getElem?_getD]
    cases hl : S[n]? with
    | none => exact List.Pairwise.nil
    | some l => exact (chkE_zero.1 (hg.ok.ok l (List.mem_of_getElem? hl)).1).2
  · have := hsub n o ho
    rwa [sets_getD hn] at this
end Go.Proofs.YtdppgcbekhabnaaGreatDoor



/- The solver, plainly: how many facts came; steps. -/
namespace Go.Proofs.YtdppgcbekhabnaaGreatDoor
set_option linter.unusedSimpArgs false
set_option linter.unusedVariables false
open Go Go.RowKit

theorem row_count (l : List Bool) : ((List.range l.length).filter fun o => l.getD o false).length = l.countP id := by
  have e : l = (List.range l.length).map fun o => l.getD o false := by
    refine List.ext_getElem (by simp) fun i h1 h2 => ?_
    rw [List.getElem_map, List.getElem_range, List.getD_eq_getElem?_getD, List.getElem?_eq_getElem h1]; rfl
  conv => rhs; rw [e]
  rw [List.countP_map, List.countP_eq_length_filter]
  rfl
theorem objs_len (s : SV) (n : Int) : (s.objs n).length = (s.has.getD n.toNat []).countP id := by
  unfold SV.objs
  rw [List.length_map]
  exact row_count _
theorem count_set : ∀ (l : List Bool) (k : Nat), k < l.length → l.getD k false = false → (l.set k true).countP id = l.countP id + 1
  | b :: l, 0, _, h => by
    have hb : b = false := h
    subst hb
    simp
  | b :: l, k + 1, hk, h => by
    have ih := count_set l k (by simpa using hk) (by simpa using h)
    rw [List.set_cons_succ, List.countP_cons, List.countP_cons, ih]
    omega
theorem sum_one (g g' : Nat → Nat) (i : Nat) (h : ∀ n, n ≠ i → g' n = g n) (hi : g' i = g i + 1) : ∀ N, ((List.range N).map g').sum = ((List.range N).map g).sum + if i < N then 1 else 0
  | 0 => by simp
  | N + 1 => by
    rw [List.range_succ, List.map_append, List.map_append, List.sum_append, List.sum_append, sum_one g g' i h hi N]
    simp only [List.map_cons, List.map_nil, List.sum_cons, List.sum_nil]
    by_cases e : N = i
    · subst e
      rw [hi, if_neg (Nat.lt_irrefl _), if_pos (Nat.lt_succ_self _)]
      omega
    · rw [h N e]
      by_cases k : i < N
      · rw [if_pos k, if_pos (by omega)]; omega
      · rw [if_neg k, if_neg (by omega)]; omega
theorem sum_le (g g' : Nat → Nat) : ∀ N, (∀ n, n < N → g n ≤ g' n) → ((List.range N).map g).sum ≤ ((List.range N).map g').sum ∧ (((List.range N).map g).sum = ((List.range N).map g').sum → ∀ n, n < N → g n = g' n)
  | 0, _ => ⟨Nat.le_refl _, fun _ n h => by omega⟩
  | N + 1, h => by
    obtain ⟨k1, k2⟩ := sum_le g g' N fun n hn => h n (by omega)
    have hN := h N (Nat.lt_succ_self _)
    rw [List.range_succ, List.map_append, List.map_append, List.sum_append, List.sum_append]
    simp only [List.map_cons, List.map_nil, List.sum_cons, List.sum_nil]
    refine ⟨by omega, fun e n hn => ?_⟩
    by_cases hc : n = N
    · subst hc; omega
    · exact k2 (by omega) n (by omega)
/-- How many facts came. -/
def SV.tot (P : PP) (s : SV) : Nat := ((List.range P.nodesV).map fun n : Nat => (s.objs (n : Int)).length).sum
def totS (P : PP) (S : List (List Int)) : Nat := ((List.range P.nodesV).map fun n : Nat => (S.getD n []).length).sum
theorem set_srt {P : PP} {S : List (List Int)} (hg : P.GoodS S) (n : Nat) : Srt (S.getD n []) := by
  rw [List.getD_eq_getElem?_getD]
  cases hl : S[n]? with
  | none => exact List.Pairwise.nil
  | some l => exact (chkE_zero.1 (hg.ok.ok l (List.mem_of_getElem? hl)).1).2
theorem tot_le {P : PP} {S : List (List Int)} {s : SV} (hg : P.GoodS S) (h : Core P S s) : s.tot P ≤ totS P S ∧ (s.tot P = totS P S → ∀ n, n < P.nodesV → s.objs (n : Int) = S.getD n []) := by
  obtain ⟨k1, k2⟩ := sum_le (fun n : Nat => (s.objs (n : Int)).length) (fun n => (S.getD n []).length) P.nodesV fun n _ => (srt_len (objs_srt s n) (set_srt hg n) (h.sub n)).1
  exact ⟨k1, fun e n hn => (srt_len (objs_srt s n) (set_srt hg n) (h.sub n)).2 (k2 e n hn)⟩
theorem tot_mark {P : PP} {s : SV} (hl : s.has.length = P.nodesV) {f : Int × Int} (h1 : 0 ≤ f.1 ∧ f.1 < P.nodesV) (h2 : 0 ≤ f.2 ∧ f.2.toNat < (s.has.getD f.1.toNat []).length) (hb : s.bit f = false) : (s.mark f).tot P = s.tot P + 1 := by
  unfold SV.tot
  have hn : f.1.toNat < s.has.length := by omega
  have h1' : ∀ n : Nat, n ≠ f.1.toNat → ((s.mark f).objs (n : Int)).length = (s.objs (n : Int)).length := fun n hne => by
    rw [objs_len, objs_len]
    unfold SV.mark
    rw [getD_set2 _ _ _ _ hn, if_neg (by omega)]
  have h2' : ((s.mark f).objs ((f.1.toNat : Nat) : Int)).length = (s.objs ((f.1.toNat : Nat) : Int)).length + 1 := by
    rw [objs_len, objs_len]
    unfold SV.mark
    rw [getD_set2 _ _ _ _ hn, if_pos (by omega), Int.toNat_natCast]
    exact count_set _ _ h2.2 hb
  have key := sum_one (fun n : Nat => (s.objs (n : Int)).length) (fun n : Nat => ((s.mark f).objs (n : Int)).length) f.1.toNat h1' h2' P.nodesV
  rw [if_pos (by omega)] at key
  exact key
/-- One fact. -/
def SV.one (P : PP) (s : SV) : SV := match s.wait with
  | [] => s
  | f :: _ => ((s.mark f).came P f).clean
/-- The next fact is new. -/
def SV.ready (s : SV) : Prop := ∀ f r, s.wait = f :: r → s.bit f = false
theorem clean_ready (s : SV) : s.clean.ready := fun _ _ h => dropWhile_head h
theorem clean_has (s : SV) : s.clean.has = s.has := rfl
theorem tot_has {P : PP} {s t : SV} (h : t.has = s.has) : t.tot P = s.tot P := by unfold SV.tot; simp only [objs_has h]
theorem Full.one {P : PP} {S : List (List Int)} {s : SV} (hg : P.GoodS S) (hc : ClosedP P S) (h : Full P S s) (hr : s.ready) {f : Int × Int} {r : List (Int × Int)} (hw : s.wait = f :: r) :
    Full P S (s.one P) ∧ (s.one P).ready ∧ (s.one P).rules = s.rules ∧ (s.one P).tot P = s.tot P + 1 := by
  have hfw := h.core.wait f (by rw [hw]; exact List.mem_cons_self)
  have hlen := hg.2.1
  have hin : f.2 ∈ S.getD f.1.toNat [] := hfw.2
  have h2 : 0 ≤ f.2 ∧ f.2 < P.objectsV := by
    rw [List.getD_eq_getElem?_getD, List.getElem?_eq_getElem (show f.1.toNat < S.length by omega)] at hin
    have hk := hg.ok.ok _ (List.getElem_mem (show f.1.toNat < S.length by omega))
    exact ⟨((chkE_zero.1 hk.1).1 _ hin).1, hk.2 _ hin⟩
  obtain ⟨k1, k2, k3⟩ := h.came hg hc hfw h2
  have hrow : (s.has.getD f.1.toNat []).length = P.objectsV := by
    have hl1 : f.1.toNat < s.has.length := by rw [h.core.len]; omega
    rw [List.getD_eq_getElem?_getD, List.getElem?_eq_getElem hl1]
    exact h.core.row _ (List.getElem_mem hl1)
  have e : s.one P = ((s.mark f).came P f).clean := by unfold SV.one; rw [hw]
  rw [e]
  refine ⟨k1.cleaned, clean_ready _, k3, ?_⟩
  rw [tot_has (clean_has _), tot_has k2]
  exact tot_mark h.core.len hfw.1 ⟨h2.1, by rw [hrow]; omega⟩ (hr f r hw)
/-- So many facts, as far as there are any: where one stands, and how many came. -/
def SV.steps (P : PP) : Nat → SV → SV × Nat
  | 0, s => (s, 0)
  | k + 1, s => match s.wait with
    | [] => (s, 0)
    | _ :: _ => ((SV.steps P k (s.one P)).1, (SV.steps P k (s.one P)).2 + 1)
theorem steps_keep {P : PP} {S : List (List Int)} (hg : P.GoodS S) (hc : ClosedP P S) : ∀ (k : Nat) {s : SV}, Full P S s → s.ready →
    Full P S (s.steps P k).1 ∧ (s.steps P k).1.ready ∧ (s.steps P k).1.rules = s.rules ∧ (s.steps P k).1.tot P = s.tot P + (s.steps P k).2 ∧ (s.steps P k).2 ≤ k ∧ ((s.steps P k).2 < k → (s.steps P k).1.wait = [])
  | 0, s, h, hr => ⟨h, hr, rfl, rfl, Nat.le_refl _, fun g => absurd g (Nat.lt_irrefl _)⟩
  | k + 1, s, h, hr => by
    unfold SV.steps
    cases hw : s.wait with
    | nil => exact ⟨h, hr, rfl, rfl, Nat.zero_le _, fun _ => hw⟩
    | cons f r =>
      obtain ⟨k1, k2, k3, k4⟩ := h.one hg hc hr hw
      obtain ⟨j1, j2, j3, j4, j5, j6⟩ := steps_keep hg hc k k1 k2
      refine ⟨j1, j2, j3.trans k3, ?_, by simp only; omega, fun g => j6 (by simp only at g; omega)⟩
      simp only
      omega
/-- All have come just where nothing is to come. -/
theorem Full.all {P : PP} {S : List (List Int)} {s : SV} {m : Nat} (hL : LeastAt P m S) (hw : P.Well) (h : Full P S s) (hr : ∀ r ∈ P.rulesV, r ∈ s.rules) (hrd : s.ready) : s.wait = [] ↔ s.tot P = totS P S := by
  have hg := hL.good hw
  constructor
  · intro hwt
    unfold SV.tot totS
    congr 1
    refine List.map_congr_left fun n hn => ?_
    rw [h.done hL hw hr hwt (List.mem_range.1 hn)]
  · intro e
    cases hwt : s.wait with
    | nil => rfl
    | cons f r =>
      have hfw := h.core.wait f (by rw [hwt]; exact List.mem_cons_self)
      have hb := hrd f r hwt
      have heq := (tot_le hg h.core).2 e f.1.toNat (by omega)
      have hin := hfw.2
      rw [← heq] at hin
      obtain ⟨_, hb2⟩ := mem_objs.1 hin
      rw [Int.toNat_of_nonneg hfw.1.1] at hb2
      rw [hb] at hb2
      cases hb2
end Go.Proofs.YtdppgcbekhabnaaGreatDoor



/- The solver, plainly: how much there is to come, at most. -/
namespace Go.Proofs.YtdppgcbekhabnaaGreatDoor
set_option linter.unusedSimpArgs false
set_option linter.unusedVariables false
open Go Go.RowKit

theorem nodup_le {α : Type} [BEq α] [LawfulBEq α] : ∀ (l L : List α), l.Nodup → (∀ x ∈ l, x ∈ L) → l.length ≤ L.length
  | [], _, _, _ => Nat.zero_le _
  | x :: l, L, h, hs => by
    rw [List.nodup_cons] at h
    have hx := hs x List.mem_cons_self
    have k := nodup_le l (L.erase x) h.2 fun y hy => (List.mem_erase_of_ne (show y ≠ x from fun e => h.1 (by rw [← e]; exact hy))).2 (hs y (List.mem_cons_of_mem _ hy))
    rw [List.length_erase_of_mem hx] at k
    have := List.length_pos_of_mem hx
    rw [List.length_cons]; omega
def allPairs (N : Nat) : List (Int × Int) := (List.range N).flatMap fun a : Nat => (List.range N).map fun b : Nat => ((a : Int), (b : Int))
theorem allPairs_len (N : Nat) : (allPairs N).length = N * N := by
  unfold allPairs
  rw [List.length_flatMap]
  have : (List.range N).map (fun a : Nat => ((List.range N).map fun b : Nat => ((a : Int), (b : Int))).length) = List.replicate N N := by
    refine List.eq_replicate_iff.2 ⟨by simp, fun b hb => ?_⟩
    obtain ⟨a, _, rfl⟩ := List.mem_map.1 hb
    simp
  rw [this, List.sum_replicate_nat]
theorem mem_allPairs {N : Nat} {e : Int × Int} (h1 : 0 ≤ e.1 ∧ e.1 < N) (h2 : 0 ≤ e.2 ∧ e.2 < N) : e ∈ allPairs N :=
  List.mem_flatMap.2 ⟨e.1.toNat, List.mem_range.2 (by omega), List.mem_map.2 ⟨e.2.toNat, List.mem_range.2 (by omega), by
    rw [Int.toNat_of_nonneg h1.1, Int.toNat_of_nonneg h2.1]⟩⟩
/-- How much there is to come, at most. -/
structure SV.Bnd (P : PP) (s : SV) : Prop where
  nd : s.edges.Nodup
  ru : s.rules.length ≤ 80
  le : s.wait.length ≤ s.rules.length + s.edges.length * P.objectsV + s.tot P * 14400
theorem PP.Well.nodes {P : PP} (hw : P.Well) : P.nodesV ≤ 120 ∧ P.objectsV ≤ 126 := by
  obtain ⟨h1, h2, h3⟩ := hw.few
  have := P.nodesV_le2
  unfold PP.objectsV
  omega
section
variable {P : PP} {S : List (List Int)} {s : SV}
theorem Core.edges_few (hw : P.Well) (h : Core P S s) (hn : s.edges.Nodup) : s.edges.length ≤ 14400 := by
  have h1 := nodup_le s.edges (allPairs P.nodesV) hn fun e he => by
    obtain ⟨k1, k2, _⟩ := h.edge e he
    exact mem_allPairs k1 k2
  rw [allPairs_len] at h1
  have h2 : P.nodesV * P.nodesV ≤ 120 * 120 := Nat.mul_le_mul hw.nodes.1 hw.nodes.1
  omega
theorem objs_few (h : Core P S s) (n : Int) : (s.objs n).length ≤ P.objectsV := by
  unfold SV.objs
  rw [List.length_map]
  refine Nat.le_trans (List.length_filter_le _ _) ?_
  rw [List.length_range, List.getD_eq_getElem?_getD]
  rcases Nat.lt_or_ge n.toNat s.has.length with g | g
  · rw [List.getElem?_eq_getElem g]
    exact Nat.le_of_eq (h.row _ (List.getElem_mem g))
  · rw [List.getElem?_eq_none g]; exact Nat.zero_le _
theorem succ_few (s : SV) (n : Int) : (s.succ n).length ≤ s.edges.length := by
  unfold SV.succ
  rw [List.length_map]
  exact List.length_filter_le _ _
theorem tot_few (hw : P.Well) (h : Core P S s) : s.tot P ≤ 15120 := by
  have hs : ∀ N, ((List.range N).map fun n : Nat => (s.objs (n : Int)).length).sum ≤ N * P.objectsV := fun N => by
    induction N with
    | zero => simp
    | succ N ih =>
      rw [List.range_succ, List.map_append, List.sum_append, Nat.add_mul]
      have := objs_few h (N : Int)
      simp only [List.map_cons, List.map_nil, List.sum_cons, List.sum_nil]
      omega
  have h1 := hs P.nodesV
  have h2 : P.nodesV * P.objectsV ≤ 120 * 126 := Nat.mul_le_mul hw.nodes.1 hw.nodes.2
  unfold SV.tot
  omega
theorem SV.Bnd.wait_few (hw : P.Well) (h : Core P S s) (b : s.Bnd P) : s.wait.length ≤ 500000000 := by
  have h1 := b.le
  have h2 := b.ru
  have h3 : s.edges.length * P.objectsV ≤ 14400 * 126 := Nat.mul_le_mul (h.edges_few hw b.nd) hw.nodes.2
  have h4 := tot_few hw h
  omega
theorem Core.bare (h : Core P S s) : Core P S { s with rules := [] } := ⟨h.len, h.row, h.wait, h.bit, h.edge, h.along, fun _ hr => (by cases hr), fun _ hr => (by cases hr)⟩
theorem SV.Bnd.wait_few0 (hw : P.Well) (h : Core P S { s with rules := [] }) (b : s.Bnd P) : s.wait.length ≤ 500000000 := by
  have h1 := b.le
  have h2 := b.ru
  have h5 : s.edges.length ≤ 14400 := Core.edges_few (s := { s with rules := [] }) hw h b.nd
  have h3 : s.edges.length * P.objectsV ≤ 14400 * 126 := Nat.mul_le_mul h5 hw.nodes.2
  have h4 : s.tot P ≤ 15120 := tot_few (s := { s with rules := [] }) hw h
  omega
theorem SV.Bnd.edgeTo (h : Core P S s) (b : s.Bnd P) (e : Int × Int) : (s.edge e).Bnd P := by
  have ht : (s.edge e).tot P = s.tot P := tot_has (edge_has s e)
  refine ⟨?_, by rw [edge_rules]; exact b.ru, ?_⟩
  · unfold SV.edge
    split
    · exact b.nd
    · rename_i hc
      refine List.nodup_append.2 ⟨b.nd, by simp, fun a ha c hc' => ?_⟩
      rw [List.mem_singleton] at hc'
      rintro rfl
      exact hc (.inr (hc' ▸ ha))
  · rw [ht, edge_rules]
    have hle := b.le
    unfold SV.edge
    split
    · exact hle
    · simp only [List.length_append, List.length_map, List.length_singleton, Nat.add_mul, Nat.one_mul]
      have := objs_few h e.1
      omega
theorem bnd_edges : ∀ (l : List (Int × Int)) {s : SV}, Core P S s → (∀ e ∈ l, SndE P S e) → s.Bnd P → (l.foldl SV.edge s).Bnd P
  | [], _, _, _, b => b
  | e :: l, _, h, hs, b => bnd_edges l (h.edgeTo (hs e List.mem_cons_self)) (fun g hg => hs g (List.mem_cons_of_mem _ hg)) (b.edgeTo h e)
theorem bnd_fire (hg : P.GoodS S) (hc : ClosedP P S) (h : Core P S s) (b : s.Bnd P) {r : RV} (hr : r ∈ P.rulesV) (hf : r.fired = true) {o : Int} (ho : o ∈ S.getD r.pivot.toNat []) : (s.fire P r o).Bnd P :=
  bnd_edges _ h (fun _ he => sndE_of hg hc hr (fires_in hf ho he)) b
end
end Go.Proofs.YtdppgcbekhabnaaGreatDoor



/- A solver in memory. -/
namespace Go.Proofs.YtdppgcbekhabnaaGreatDoor
set_option linter.unusedSimpArgs false
set_option linter.unusedVariables false
open Go Go.RowKit

def fCells (f : Int × Int) : List Value := [.int .i64 f.1, .int .i64 f.2]
/-- The row of a node in the map of edges. -/
def rowOf (f1 : Int → Option Value) (n : Int) : Value := (f1 n).getD (.slice none 0 0)
/-- What stands in the map of edges that were seen. -/
def seenF (l : List (Int × Int)) (e : Int × Int) : Option Value := if e ∈ l then some (.bool true) else none
def solvCells (a1 a2 a3 : Option Addr) (c1 c2 c3 : Nat) (P : PP) (vr vh : Value) (m1 m2 : Nat) (vw : Value) : Array Value :=
  #[.slice a1 P.vars.length c1, .slice a2 P.funs.length c2, .slice a3 P.stmts.length c3, vr, vh, .map (some m1), .map (some m2), .slice none 0 0, vw]
structure SolvB (w : World) (G F : Nat → Prop) (g : Nat) (ad : Nat → Addr) (a1 a2 a3 : Option Addr) (c1 c2 c3 : Nat) (P : PP) (vr : Value) (rs : List R2) (vh : Value) (hs : List Value) (m1 m2 : Nat) (f1 : Int → Option Value) (vw : Value) (s : SV) : Prop where
  blk : Blk w g (solvCells a1 a2 a3 c1 c2 c3 P vr vh m1 m2 vw) 83
  fg : ¬ F g
  gf : ∀ b, G b → F b
  flt : ∀ b, F b → b < w.heap.size
  pw : PWF w G ad a1 a2 a3 c1 c2 c3 P
  req : rs.map R2.r = s.rules
  rrow : w.ownsRow 0 86 5 vr s.rules.length (rs.flatMap R2.cells)
  rargs : ∀ x ∈ rs, IntsF w G x.v x.r.args
  rf : ∀ b, vr.ownBlock = some b → ¬ F b
  hrow : w.ownsRow 0 84 1 vh s.has.length hs
  hf : ∀ b, vh.ownBlock = some b → ¬ F b
  hbag : BBags w 0 hs s.has
  hbf : ∀ v ∈ hs, ∀ b, v.ownBlock = some b → ¬ F b
  map1 : KMap Tryz.prog 3 (Value.int .i64) w m1 f1
  mf1 : ¬ F m1
  row1 : ∀ n, IRow 0 w (rowOf f1 n) (s.succ n)
  apart1 : ∀ n k b, n ≠ k → (rowOf f1 n).ownBlock = some b → ¬ (rowOf f1 k).ownBlock = some b
  rf1 : ∀ n b, (rowOf f1 n).ownBlock = some b → ¬ F b
  map2 : KMap Tryz.prog 127 twoV w m2 (seenF s.edges)
  mf2 : ¬ F m2
  m12 : m1 ≠ m2
  wrow : OwnsQ w 0 97 2 vw s.wait.length (s.wait.flatMap fCells)
  wf : ∀ b, vw.ownBlock = some b → ¬ F b
/-- A solver at a place; nobody else writes its blocks, it writes none of F. -/
def SolvAt (w : World) (G F : Nat → Prop) (g : Nat) (ad : Nat → Addr) (P : PP) (vr : Value) (rs : List R2) (vh : Value) (hs : List Value) (s : SV) : Prop :=
  ∃ a1 a2 a3 c1 c2 c3 m1 m2 f1 vw, SolvB w G F g ad a1 a2 a3 c1 c2 c3 P vr rs vh hs m1 m2 f1 vw s

theorem KMap.not_blk {κ : Type} [DecidableEq κ] {Q : Program} {kt : TypeId} {enc : κ → Value} {w : World} {b : Nat} {f : κ → Option Value} (h : KMap Q kt enc w b f) {c : Array Value} {e : TypeId} : ¬ Blk w b c e := fun hb => h.ne hb rfl
theorem own_off {w w' : World} {base : Nat} {e : TypeId} {size n : Nat} {v : Value} {xs : List Value} {X : Nat → Prop} (h : w.ownsRow base e size v n xs) (k : Keep X w w') (hX : ∀ b, X b → ¬ ∃ c, Blk w b c e) : w'.ownsRow base e size v n xs :=
  row_keep h k fun b hb hx => hX b hx (own_ty h hb)
theorem OwnsQ.off {w w' : World} {base : Nat} {e : TypeId} {size n : Nat} {v : Value} {xs : List Value} {X : Nat → Prop} (h : OwnsQ w base e size v n xs) (k : Keep X w w') (hX : ∀ b, X b → ¬ ∃ c, Blk w b c e) : OwnsQ w' base e size v n xs :=
  h.keep k fun b hb hx => hX b hx (h.ty hb).2
theorem off_of {w : World} {b : Nat} {c : Array Value} {e e' : TypeId} (h : Blk w b c e) (hne : e ≠ e') : ¬ ∃ c, Blk w b c e' := by
  rintro ⟨c', h'⟩
  have := h.symm.trans h'
  simp at this
  exact hne this.2
section
variable {w w' : World} {G F : Nat → Prop} {g : Nat} {ad : Nat → Addr} {a1 a2 a3 : Option Addr} {c1 c2 c3 : Nat} {P : PP} {vr : Value} {rs : List R2} {vh : Value} {hs : List Value} {m1 m2 : Nat} {f1 : Int → Option Value} {vw : Value} {s : SV}
/-- Other blocks are written. -/
theorem SolvB.keep {X : Nat → Prop} (h : SolvB w G F g ad a1 a2 a3 c1 c2 c3 P vr rs vh hs m1 m2 f1 vw s) (k : Keep X w w') (hF : ∀ b, F b → ¬ X b) (x0 : ¬ X g) (x1 : ∀ b, vr.ownBlock = some b → ¬ X b) (x2 : ∀ b, vh.ownBlock = some b → ¬ X b) (x3 : ∀ b, X b → ¬ IsB w b)
    (x4 : ¬ X m1) (x5 : ∀ n b, (rowOf f1 n).ownBlock = some b → ¬ X b) (x6 : ¬ X m2) (x7 : ∀ b, vw.ownBlock = some b → ¬ X b) : SolvB w' G F g ad a1 a2 a3 c1 c2 c3 P vr rs vh hs m1 m2 f1 vw s :=
  ⟨h.blk.keep k x0, h.fg, h.gf, fun b hb => Nat.lt_of_lt_of_le (h.flt b hb) k.size, h.pw.keep k fun b hb => hF b (h.gf b hb), h.req, row_keep h.rrow k x1, fun x hx => (h.rargs x hx).keep k (fun b hb => hF b (h.gf b hb)) fun _ h => h, h.rf, row_keep h.hrow k x2, h.hf, h.hbag.keep k x3, h.hbf, h.map1.keep k x4, h.mf1, fun n => row_keep (h.row1 n) k (x5 n), h.apart1, h.rf1, h.map2.keep k x6, h.mf2, h.m12, h.wrow.keep k x7, h.wf⟩
theorem SolvB.ext (h : SolvB w G F g ad a1 a2 a3 c1 c2 c3 P vr rs vh hs m1 m2 f1 vw s) (x : Ext w w') : SolvB w' G F g ad a1 a2 a3 c1 c2 c3 P vr rs vh hs m1 m2 f1 vw s :=
  h.keep (x.keep fun _ => False) (fun _ _ h => h) (fun h => h) (fun _ _ h => h) (fun _ _ h => h) (fun _ h => h.elim) (fun h => h) (fun _ _ _ h => h) (fun h => h) (fun _ _ h => h)
theorem SolvAt.ext (h : SolvAt w G F g ad P vr rs vh hs s) (x : Ext w w') : SolvAt w' G F g ad P vr rs vh hs s := by
  obtain ⟨a1, a2, a3, c1, c2, c3, m1, m2, f1, vw, h⟩ := h
  exact ⟨a1, a2, a3, c1, c2, c3, m1, m2, f1, vw, h.ext x⟩
/-- What is new, and is not the solver's, is not written by it. -/
theorem SolvB.frz (h : SolvB w G F g ad a1 a2 a3 c1 c2 c3 P vr rs vh hs m1 m2 f1 vw s) (x : Ext w w') : SolvB w' G (fun b => F b ∨ (w.heap.size ≤ b ∧ b < w'.heap.size)) g ad a1 a2 a3 c1 c2 c3 P vr rs vh hs m1 m2 f1 vw s := by
  have k := h.ext x
  have hlt : ∀ {b : Nat}, ¬ F b → b < w.heap.size → ¬ (F b ∨ (w.heap.size ≤ b ∧ b < w'.heap.size)) := fun h1 h2 h3 => h3.elim h1 fun h4 => by omega
  have ro : ∀ {e : TypeId} {size n : Nat} {v : Value} {xs : List Value}, w.ownsRow 0 e size v n xs → ∀ b, v.ownBlock = some b → b < w.heap.size := fun h b hb => (World.ownsRow.lt h b hb).2
  refine ⟨k.blk, hlt h.fg h.blk.lt, fun b hb => .inl (h.gf b hb), fun b hb => hb.elim (k.flt b) fun h => h.2, k.pw, k.req, k.rrow, k.rargs, fun b hb => hlt (h.rf b hb) (ro h.rrow b hb), k.hrow, fun b hb => hlt (h.hf b hb) (ro h.hrow b hb), k.hbag, fun v hv b hb => ?_, k.map1, hlt h.mf1 h.map1.lt, k.row1, k.apart1, fun n b hb => hlt (h.rf1 n b hb) (ro (h.row1 n) b hb), k.map2, hlt h.mf2 h.map2.lt, k.m12, k.wrow, fun b hb => hlt (h.wf b hb) ?_⟩
  · obtain ⟨i, hi⟩ := List.getElem?_of_mem hv
    have hil : i < s.has.length := by
      rw [← h.hbag.len]
      exact (List.getElem?_eq_some_iff.1 hi).1
    obtain ⟨v', l, q1, _, q3⟩ := h.hbag.at hil
    obtain rfl := Option.some.inj (q1.symm.trans hi)
    exact hlt (h.hbf _ hv b hb) (ro q3 b hb)
  · obtain ⟨_, c, hc⟩ := h.wrow.ty hb
    exact hc.lt
theorem SolvAt.frz (h : SolvAt w G F g ad P vr rs vh hs s) (x : Ext w w') : SolvAt w' G (fun b => F b ∨ (w.heap.size ≤ b ∧ b < w'.heap.size)) g ad P vr rs vh hs s := by
  obtain ⟨a1, a2, a3, c1, c2, c3, m1, m2, f1, vw, h⟩ := h
  exact ⟨a1, a2, a3, c1, c2, c3, m1, m2, f1, vw, h.frz x⟩
theorem SolvAt.less {F' : Nat → Prop} (h : SolvAt w G F' g ad P vr rs vh hs s) (hG : ∀ b, G b → F b) (hF : ∀ b, F b → F' b) : SolvAt w G F g ad P vr rs vh hs s := by
  obtain ⟨a1, a2, a3, c1, c2, c3, m1, m2, f1, vw, h⟩ := h
  exact ⟨a1, a2, a3, c1, c2, c3, m1, m2, f1, vw, h.blk, fun k => h.fg (hF _ k), hG, fun b hb => h.flt b (hF b hb), h.pw, h.req, h.rrow, h.rargs, fun b e k => h.rf b e (hF _ k), h.hrow, fun b e k => h.hf b e (hF _ k), h.hbag, fun v hv b e k => h.hbf v hv b e (hF _ k), h.map1, fun k => h.mf1 (hF _ k), h.row1, h.apart1, fun n b e k => h.rf1 n b e (hF _ k), h.map2, fun k => h.mf2 (hF _ k), h.m12, h.wrow, fun b e k => h.wf b e (hF _ k)⟩
/-- A field of its own block is put; other blocks of it stay. -/
theorem SolvB.lt (h : SolvB w G F g ad a1 a2 a3 c1 c2 c3 P vr rs vh hs m1 m2 f1 vw s) : g < w.heap.size := h.blk.lt
/-- What is to come is put anew. -/
theorem SolvB.setWait (h : SolvB w G F g ad a1 a2 a3 c1 c2 c3 P vr rs vh hs m1 m2 f1 vw s) (k : Keep (fun q => vw.ownBlock = some q) w w') {vw' : Value} {l : List (Int × Int)} (hw : OwnsQ w' 0 97 2 vw' l.length (l.flatMap fCells)) (ho : ∀ b, vw'.ownBlock = some b → vw.ownBlock = some b ∨ w.heap.size ≤ b) :
    SolvB (w'.setCell ⟨g, 8, none⟩ vw') G F g ad a1 a2 a3 c1 c2 c3 P vr rs vh hs m1 m2 f1 vw' { s with wait := l } := by
  have hX : ∀ {b : Nat}, vw.ownBlock = some b → ∃ c, Blk w b c 97 := fun hb => (h.wrow.ty hb).2
  have hne : ∀ {b : Nat} {e : TypeId}, vw.ownBlock = some b → 97 ≠ e → ¬ ∃ c, Blk w b c e := fun hb he => by
    obtain ⟨c, hc⟩ := hX hb
    exact off_of hc he
  have k1 := h.blk.keep k (fun hb => hne hb (by decide) ⟨_, h.blk⟩)
  have kk : Keep (fun q => q = g ∨ vw.ownBlock = some q) w (w'.setCell ⟨g, 8, none⟩ vw') := (k.mono fun _ _ h => .inr h).set (.inl rfl) _
  have hoff : ∀ {e : TypeId}, 97 ≠ e → 83 ≠ e → ∀ b, (b = g ∨ vw.ownBlock = some b) → ¬ ∃ c, Blk w b c e := fun he1 he2 b hb => hb.elim (fun e => by rw [e]; exact off_of h.blk he2) fun hb => hne hb he1
  have hF : ∀ b, G b → ¬ (b = g ∨ vw.ownBlock = some b) := fun b hb hx => hx.elim (fun e => h.fg (e ▸ h.gf b hb)) fun e => h.wf b e (h.gf b hb)
  refine ⟨?_, h.fg, h.gf, fun b hb => Nat.lt_of_lt_of_le (h.flt b hb) kk.size, h.pw.keep kk hF, h.req, own_off h.rrow kk (hoff (by decide) (by decide)), fun x hx => (h.rargs x hx).keep kk hF fun _ h => h, h.rf, own_off h.hrow kk (hoff (by decide) (by decide)), h.hf, h.hbag.keep kk (hoff (by decide) (by decide)), h.hbf,
    h.map1.keep kk fun hb => hb.elim (fun e => h.map1.ne h.blk e.symm) fun hb => (hX hb).elim fun c hc => h.map1.not_blk hc, h.mf1, fun n => own_off (h.row1 n) kk (hoff (by decide) (by decide)), h.apart1, h.rf1,
    h.map2.keep kk fun hb => hb.elim (fun e => h.map2.ne h.blk e.symm) fun hb => (hX hb).elim fun c hc => h.map2.not_blk hc, h.mf2, h.m12, ?_, fun b hb => ?_⟩
  · have := k1.set 8 vw'
    rw [show (solvCells a1 a2 a3 c1 c2 c3 P vr vh m1 m2 vw).setIfInBounds 8 vw' = solvCells a1 a2 a3 c1 c2 c3 P vr vh m1 m2 vw' from rfl] at this
    exact this
  · refine hw.off ((Keep.refl (fun q => q = g) w').set rfl _) fun b hb => ?_
    rw [hb]; exact off_of k1 (by decide)
  · rcases ho b hb with e | e
    · exact h.wf b e
    · exact fun hb' => by have := h.flt _ hb'; omega
/-- The first one of what is to come is let go. -/
theorem SolvB.cutWait {gq off cap n : Nat} {f : Int × Int} {l : List (Int × Int)} (h : SolvB w G F g ad a1 a2 a3 c1 c2 c3 P vr rs vh hs m1 m2 f1 (.slice (some ⟨gq, off, none⟩) n cap) s) (hw : s.wait = f :: l) :
    SolvB (w.setCell ⟨g, 8, none⟩ (.slice (some (if cap = 1 then ⟨gq, off, none⟩ else ⟨gq, off + 2, none⟩)) (n - 1) (cap - 1))) G F g ad a1 a2 a3 c1 c2 c3 P vr rs vh hs m1 m2 f1 (.slice (some (if cap = 1 then ⟨gq, off, none⟩ else ⟨gq, off + 2, none⟩)) (n - 1) (cap - 1)) { s with wait := l } := by
  have hr := h.wrow
  obtain ⟨a', c', e'⟩ := hr.form
  simp only [Value.slice.injEq] at e'
  obtain ⟨rfl, rfl, rfl⟩ := e'
  rw [hw] at hr
  have ht := hr.tail (by rw [List.length_cons]; omega)
  refine h.setWait (Keep.refl _ w) (l := l) ?_ fun b hb => .inl ?_
  · rw [hw]
    exact ht
  · rw [← hb]
    show some gq = some (if cap = 1 then (⟨gq, off, none⟩ : Addr) else ⟨gq, off + 2, none⟩).block
    split <;> rfl
/-- An edge is put where edges lie. -/
theorem SolvB.joined {w1 w2 w3 : World} (h : SolvB w G F g ad a1 a2 a3 c1 c2 c3 P vr rs vh hs m1 m2 f1 vw s) {e : Int × Int} (he : e ∉ s.edges)
    (h1 : KMap Tryz.prog 127 twoV w1 m2 (fun q => if q = e then some (.bool true) else seenF s.edges q)) (k1 : Keep (fun q => q = m2) w w1)
    {v' : Value} (h2 : IRow 0 w2 v' (s.succ e.1 ++ [e.2])) (k2 : Keep (fun q => (rowOf f1 e.1).ownBlock = some q) w1 w2) (ho : ∀ b, v'.ownBlock = some b → (rowOf f1 e.1).ownBlock = some b ∨ w.heap.size ≤ b)
    (h3 : KMap Tryz.prog 3 (Value.int .i64) w3 m1 (fun q => if q = e.1 then some v' else f1 q)) (k3 : Keep (fun q => q = m1) w2 w3) :
    SolvB w3 G F g ad a1 a2 a3 c1 c2 c3 P vr rs vh hs m1 m2 (fun q => if q = e.1 then some v' else f1 q) vw { s with edges := s.edges ++ [e] } := by
  have hrow : ∀ {b : Nat}, (rowOf f1 e.1).ownBlock = some b → ∃ c, Blk w b c 3 := fun hb => own_ty (h.row1 e.1) hb
  have kk : Keep (fun q => q = m1 ∨ q = m2 ∨ (rowOf f1 e.1).ownBlock = some q) w w3 := ((k1.mono fun _ _ h => .inr (.inl h)).trans (k2.mono fun _ _ h => .inr (.inr h))).trans (k3.mono fun _ _ h => .inl h)
  have hoff : ∀ {t : TypeId}, 3 ≠ t → ∀ b, (b = m1 ∨ b = m2 ∨ (rowOf f1 e.1).ownBlock = some b) → ¬ ∃ c, Blk w b c t := fun ht b hb => by
    rcases hb with rfl | rfl | hb
    · rintro ⟨c, hc⟩; exact h.map1.not_blk hc
    · rintro ⟨c, hc⟩; exact h.map2.not_blk hc
    · obtain ⟨c, hc⟩ := hrow hb
      exact off_of hc ht
  have hF : ∀ b, G b → ¬ (b = m1 ∨ b = m2 ∨ (rowOf f1 e.1).ownBlock = some b) := fun b hb hx => by
    replace hb := h.gf b hb
    rcases hx with rfl | rfl | hx
    · exact h.mf1 hb
    · exact h.mf2 hb
    · exact h.rf1 _ _ hx hb
  have hm12 := h.m12
  have hsu : ∀ n, ({ s with edges := s.edges ++ [e] } : SV).succ n = if n = e.1 then s.succ n ++ [e.2] else s.succ n := fun n => by
    unfold SV.succ
    rw [List.filter_append, List.map_append]
    by_cases hn : n = e.1
    · subst hn
      rw [if_pos rfl]; simp
    · rw [if_neg hn]
      have : ([e].filter fun q => decide (q.1 = n)) = [] := by rw [List.filter_cons, decide_eq_false (fun q : e.1 = n => hn q.symm)]; rfl
      rw [this]; simp
  have hro : ∀ n, rowOf (fun q => if q = e.1 then some v' else f1 q) n = if n = e.1 then v' else rowOf f1 n := fun n => by
    unfold rowOf
    by_cases hn : n = e.1
    · simp [hn]
    · simp [hn]
  have hlt : ∀ n b, (rowOf f1 n).ownBlock = some b → b < w.heap.size := fun n b hb => (World.ownsRow.lt (h.row1 n) b hb).2
  have hap : ∀ n b, n ≠ e.1 → v'.ownBlock = some b → ¬ (rowOf f1 n).ownBlock = some b := fun n b hn hb hb' => by
    rcases ho b hb with k | k
    · exact h.apart1 n e.1 b hn hb' k
    · have := hlt n b hb'
      omega
  have h32 : KMap Tryz.prog 127 twoV w3 m2 (fun q => if q = e then some (.bool true) else seenF s.edges q) := (h1.keep k2 fun hb => by
    obtain ⟨c, hc⟩ := hrow hb
    exact h.map2.not_blk hc).keep k3 fun e => hm12 e.symm
  refine ⟨h.blk.keep kk fun hx => hoff (by decide) g hx ⟨_, h.blk⟩, h.fg, h.gf, fun b hb => Nat.lt_of_lt_of_le (h.flt b hb) kk.size, h.pw.keep kk hF, h.req, own_off h.rrow kk (hoff (by decide)), fun x hx => (h.rargs x hx).keep kk hF fun _ h => h, h.rf, own_off h.hrow kk (hoff (by decide)), h.hf, h.hbag.keep kk (hoff (by decide)), h.hbf, h3, h.mf1, fun n => ?_, fun n k b hnk hb hb' => ?_, fun n b hb => ?_, h32.eq fun q => ?_, h.mf2, h.m12, h.wrow.off kk (hoff (by decide)), h.wf⟩
  · rw [hsu, hro]
    by_cases hn : n = e.1
    · rw [if_pos hn, if_pos hn, hn]
      exact row_keep h2 k3 fun b hb hm => by
        subst hm
        obtain ⟨c, hc⟩ := own_ty h2 hb
        rcases ho b hb with k | k
        · obtain ⟨c, hc⟩ := hrow k
          exact h.map1.not_blk hc
        · have := h.map1.lt
          omega
    · rw [if_neg hn, if_neg hn]
      refine row_keep (h.row1 n) kk fun b hb hx => ?_
      rcases hx with rfl | rfl | hx
      · obtain ⟨c, hc⟩ := own_ty (h.row1 n) hb
        exact h.map1.not_blk hc
      · obtain ⟨c, hc⟩ := own_ty (h.row1 n) hb
        exact h.map2.not_blk hc
      · exact h.apart1 n e.1 b hn hb hx
  · rw [hro] at hb hb'
    by_cases hn : n = e.1
    · rw [if_pos hn] at hb
      rw [if_neg (fun e => hnk (hn.trans e.symm))] at hb'
      exact hap k b (fun e => hnk (hn.trans e.symm)) hb hb'
    · rw [if_neg hn] at hb
      by_cases hk : k = e.1
      · rw [if_pos hk] at hb'
        exact hap n b hn hb' hb
      · rw [if_neg hk] at hb'
        exact h.apart1 n k b hnk hb hb'
  · rw [hro] at hb
    by_cases hn : n = e.1
    · rw [if_pos hn] at hb
      rcases ho b hb with k | k
      · exact h.rf1 _ b k
      · exact fun hb' => by have := h.flt _ hb'; omega
    · rw [if_neg hn] at hb
      exact h.rf1 n b hb
  · unfold seenF
    by_cases hq : q = e
    · rw [if_pos hq, if_pos (List.mem_append_right _ (List.mem_singleton.2 hq))]
    · rw [if_neg hq]
      by_cases hm : q ∈ s.edges
      · rw [if_pos hm, if_pos (List.mem_append_left _ hm)]
      · rw [if_neg hm, if_neg fun k => (List.mem_append.1 k).elim hm fun k => hq (List.mem_singleton.1 k)]
/-- A fact is marked. -/
theorem SolvB.setBit {i j gb n cap : Nat} {l : List Bool} (h : SolvB w G F g ad a1 a2 a3 c1 c2 c3 P vr rs vh hs m1 m2 f1 vw s) (hv : hs[i]? = some (.slice (some ⟨gb, 0, none⟩) n cap)) (hl : s.has[i]? = some l) (hj : j < l.length) :
    SolvB (w.setCell ⟨gb, j, none⟩ (.bool true)) G F g ad a1 a2 a3 c1 c2 c3 P vr rs vh hs m1 m2 f1 vw { s with has := s.has.set i (l.set j true) } := by
  have hr := h.hbag.row i _ l hv hl
  obtain ⟨c, hc⟩ := own_ty hr (k := gb) rfl
  have kk : Keep (fun q => q = gb) w (w.setCell ⟨gb, j, none⟩ (.bool true)) := (Keep.refl (fun q => q = gb) w).set rfl _
  have hF : ∀ b, G b → ¬ b = gb := fun b hb e => h.hbf _ (List.mem_of_getElem? hv) gb rfl (e ▸ h.gf b hb)
  have hoff : ∀ {e : TypeId}, 4 ≠ e → ∀ b, b = gb → ¬ ∃ c, Blk w b c e := fun he b e => by rw [e]; exact off_of hc he
  refine ⟨h.blk.keep kk fun e => hoff (by decide) g e ⟨_, h.blk⟩, h.fg, h.gf, fun b hb => Nat.lt_of_lt_of_le (h.flt b hb) kk.size, h.pw.keep kk hF, h.req, own_off h.rrow kk (hoff (by decide)), fun x hx => (h.rargs x hx).keep kk hF fun _ h => h, h.rf, ?_, h.hf, h.hbag.set hv hl hj true, h.hbf, h.map1.keep kk fun e => h.map1.not_blk (e ▸ hc), h.mf1, fun n => own_off (h.row1 n) kk (hoff (by decide)), h.apart1, h.rf1, h.map2.keep kk fun e => h.map2.not_blk (e ▸ hc), h.mf2, h.m12, h.wrow.off kk (hoff (by decide)), h.wf⟩
  show (w.setCell ⟨gb, j, none⟩ (.bool true)).ownsRow 0 84 1 vh (s.has.set i (l.set j true)).length hs
  rw [List.length_set]
  exact own_off h.hrow kk (hoff (by decide))
/-- A rule more. -/
theorem SolvB.pushRule (h : SolvB w G F g ad a1 a2 a3 c1 c2 c3 P vr rs vh hs m1 m2 f1 vw s) (k : Keep (fun q => vr.ownBlock = some q) w w') {vr' : Value} {x : R2} (hr : w'.ownsRow 0 86 5 vr' (s.rules.length + 1) (rs.flatMap R2.cells ++ x.cells)) (ho : ∀ b, vr'.ownBlock = some b → vr.ownBlock = some b ∨ w.heap.size ≤ b) (hx : IntsF w G x.v x.r.args) :
    SolvB (w'.setCell ⟨g, 3, none⟩ vr') G F g ad a1 a2 a3 c1 c2 c3 P vr' (rs ++ [x]) vh hs m1 m2 f1 vw { s with rules := s.rules ++ [x.r] } := by
  have hX : ∀ {b : Nat}, vr.ownBlock = some b → ∃ c, Blk w b c 86 := fun hb => own_ty h.rrow hb
  have hne : ∀ {b : Nat} {e : TypeId}, vr.ownBlock = some b → 86 ≠ e → ¬ ∃ c, Blk w b c e := fun hb he => by
    obtain ⟨c, hc⟩ := hX hb
    exact off_of hc he
  have k1 := h.blk.keep k (fun hb => hne hb (by decide) ⟨_, h.blk⟩)
  have kk : Keep (fun q => q = g ∨ vr.ownBlock = some q) w (w'.setCell ⟨g, 3, none⟩ vr') := (k.mono fun _ _ h => .inr h).set (.inl rfl) _
  have hoff : ∀ {e : TypeId}, 86 ≠ e → 83 ≠ e → ∀ b, (b = g ∨ vr.ownBlock = some b) → ¬ ∃ c, Blk w b c e := fun he1 he2 b hb => hb.elim (fun e => by rw [e]; exact off_of h.blk he2) fun hb => hne hb he1
  have hF : ∀ b, G b → ¬ (b = g ∨ vr.ownBlock = some b) := fun b hb hx => hx.elim (fun e => h.fg (e ▸ h.gf b hb)) fun e => h.rf b e (h.gf b hb)
  refine ⟨?_, h.fg, h.gf, fun b hb => Nat.lt_of_lt_of_le (h.flt b hb) kk.size, h.pw.keep kk hF, by rw [List.map_append, h.req]; rfl, ?_, fun y hy => ?_, fun b hb => ?_, own_off h.hrow kk (hoff (by decide) (by decide)), h.hf, h.hbag.keep kk (hoff (by decide) (by decide)), h.hbf,
    h.map1.keep kk fun hb => hb.elim (fun e => h.map1.ne h.blk e.symm) fun hb => (hX hb).elim fun c hc => h.map1.not_blk hc, h.mf1, fun n => own_off (h.row1 n) kk (hoff (by decide) (by decide)), h.apart1, h.rf1,
    h.map2.keep kk fun hb => hb.elim (fun e => h.map2.ne h.blk e.symm) fun hb => (hX hb).elim fun c hc => h.map2.not_blk hc, h.mf2, h.m12, h.wrow.off kk (hoff (by decide) (by decide)), h.wf⟩
  · have := k1.set 3 vr'
    rw [show (solvCells a1 a2 a3 c1 c2 c3 P vr vh m1 m2 vw).setIfInBounds 3 vr' = solvCells a1 a2 a3 c1 c2 c3 P vr' vh m1 m2 vw from rfl] at this
    exact this
  · rw [List.length_append, List.flatMap_append]
    have e : [x].flatMap R2.cells = x.cells := by simp
    rw [e]
    refine own_off hr ((Keep.refl (fun q => q = g) w').set rfl _) fun b hb => ?_
    rw [hb]; exact off_of k1 (by decide)
  · rcases List.mem_append.1 hy with hy | hy
    · exact (h.rargs y hy).keep kk hF fun _ h => h
    · rw [List.mem_singleton.1 hy]
      exact hx.keep kk hF fun _ h => h
  · rcases ho b hb with e | e
    · exact h.rf b e
    · exact fun hb' => by have := h.flt _ hb'; omega
end
end Go.Proofs.YtdppgcbekhabnaaGreatDoor

