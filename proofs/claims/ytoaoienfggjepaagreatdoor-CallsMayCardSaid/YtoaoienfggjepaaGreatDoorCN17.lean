/- Texts of one proof, put together: ZE. -/
import Derived.Test.YtoaoienfggjepaaGreatDoorCN16

/- Runs, plainly: what a statement changes is one of what it may change; what is idle changes nothing. -/
namespace Go.Proofs.YtoaoienfggjepaaGreatDoor
set_option linter.unusedSimpArgs false
set_option linter.unusedVariables false
open Go Go.RowKit

theorem writesL_plain {P : PP} {S : List (List Int)} {x : PS} (h1 : x.isK kStore = false) (h2 : x.isK kCall = false) : writesL P S x = sset (x.x :: paramsL P (calledL P S x)) := by
  unfold writesL; rw [h1, h2, cond_false, Bool.false_and, cond_false]
theorem writes_in {P : PP} {S : List (List Int)} (hw : P.Well) {x : PS} (hx : 0 ≤ x.x ∧ x.x < P.vars.length) : InR (x.x :: paramsL P (calledL P S x)) := fun z hz => by
  have h40 := hw.few.1
  rcases List.mem_cons.1 hz with rfl | hz
  · omega
  · exact paramsL_in hw (fun f hf => calledL_fun hf) z hz
theorem writes_x {P : PP} {S : List (List Int)} (hw : P.Well) {x : PS} (hx : 0 ≤ x.x ∧ x.x < P.vars.length) : x.x ∈ sset (x.x :: paramsL P (calledL P S x)) :=
  (mem_sset (writes_in hw hx)).2 List.mem_cons_self
theorem idleV_plain {P : PP} {S : List (List Int)} {x : PS} (h1 : x.isK kLoad = false) (h2 : x.isK kStore = false) (h3 : x.isK kCall = false) : idleV P S x = false := by
  unfold idleV; rw [h1, h2, h3]; rfl
theorem mem_nodesL {S : List (List Int)} {l : List Int} {o : Int} (h : o ∈ l) (ho : o < S.length) : o ∈ nodesL S l :=
  List.mem_filter.2 ⟨h, by rw [decide_eq_false (by omega)]; rfl⟩
theorem nodesL_pos {S : List (List Int)} {l : List Int} {o : Int} (h : o ∈ l) (ho : o < S.length) : decide ((nodesL S l).length = 0) = false :=
  decide_eq_false fun e => by
    have := mem_nodesL h ho
    rw [List.eq_nil_of_length_eq_zero e] at this
    cases this
theorem set_change {s : Rn} {p : Int} {v : Vl} {n : Nat} (h : (s.set p v).vars.getD n .none ≠ s.vars.getD n .none) : n = p.toNat := by
  rcases getD_set_cases s.vars p.toNat n v .none with e | ⟨e, _⟩
  · exact absurd e h
  · exact e.symm
theorem give_change : ∀ (ps : List Int) (vs : List Vl) {s : Rn} {n : Nat}, (s.give ps vs).vars.getD n .none ≠ s.vars.getD n .none → ∃ p ∈ ps, n = p.toNat
  | [], _, _, _, h => absurd rfl h
  | _ :: _, [], _, _, h => absurd rfl h
  | p :: ps, v :: vs, s, n, h => by
    by_cases e : ((s.set p v).give ps vs).vars.getD n .none = (s.set p v).vars.getD n .none
    · refine ⟨p, List.mem_cons_self, set_change (s := s) (v := v) fun g => h ?_⟩
      exact e.trans g
    · obtain ⟨q, hq, hn⟩ := give_change ps vs e
      exact ⟨q, List.mem_cons_of_mem _ hq, hn⟩
/-- The node that a store changes is one of what it may change. -/
theorem store_change {P : PP} {S : List (List Int)} {s : Rn} (hg : P.GoodS S) (h : Sound P S s) {x : PS} (hk : x.isK kStore = true) (hc : (s.at x.x).isAddr = true) : ((s.cN P (s.at x.x) : Nat) : Int) ∈ writesL P S x ∧ idleV P S x = false := by
  obtain ⟨g1, g2⟩ := h.cell x.x hc
  have hl := hg.2.1
  have hlt : ((s.cN P (s.at x.x) : Nat) : Int) < S.length := by omega
  refine ⟨?_, ?_⟩
  · unfold writesL
    rw [hk, cond_true]
    exact mem_nodesL g1 hlt
  · unfold idleV
    rw [isK_ne hk (by decide), hk]
    exact nodesL_pos g1 hlt
theorem stmt_var_change {P : PP} {S : List (List Int)} {s : Rn} (hg : P.GoodS S) (h : Sound P S s) {k : Nat} {x : PS} (hk : P.stmts[k]? = some x) {n : Nat} (hne : (s.stmt P k x).vars.getD n .none ≠ s.vars.getD n .none) : (n : Int) ∈ writesL P S x ∧ idleV P S x = false := by
  have hkl : k < P.stmts.length := by
    rcases Nat.lt_or_ge k P.stmts.length with g | g
    · exact g
    · rw [List.getElem?_eq_none g] at hk; cases hk
  have hgd := PP.good (hg.1.2 k x hkl hk)
  have hxx : n = x.x.toNat → (n : Int) = x.x := fun e => by have := hgd.gx.1; omega
  unfold Rn.stmt at hne
  have plain : n = x.x.toNat → x.isK kLoad = false → x.isK kStore = false → x.isK kCall = false → (n : Int) ∈ writesL P S x ∧ idleV P S x = false := fun e a b c => by
    rw [writesL_plain b c, hxx e]
    exact ⟨writes_x hg.1 hgd.gx, idleV_plain a b c⟩
  cases h1 : x.isK kAddr with
  | true =>
    rw [h1] at hne
    exact plain (set_change hne) (isK_ne h1 (by decide)) (isK_ne h1 (by decide)) (isK_ne h1 (by decide))
  | false =>
  cases h2 : x.isK kCopy with
  | true =>
    rw [h1, h2] at hne
    exact plain (set_change hne) (isK_ne h2 (by decide)) (isK_ne h2 (by decide)) (isK_ne h2 (by decide))
  | false =>
  cases h3 : x.isK kLoad with
  | true =>
    rw [h1, h2, h3] at hne
    simp only [cond_true, cond_false] at hne
    cases hc : (s.at x.y).isAddr with
    | false => rw [hc] at hne; exact absurd rfl hne
    | true =>
      rw [hc] at hne
      obtain ⟨g1, g2⟩ := h.cell x.y hc
      have hl := hg.2.1
      rw [writesL_plain (isK_ne h3 (by decide)) (isK_ne h3 (by decide)), hxx (set_change hne)]
      refine ⟨writes_x hg.1 hgd.gx, ?_⟩
      unfold idleV
      rw [h3, cond_true]
      exact nodesL_pos g1 (by omega)
  | false =>
  cases h4 : x.isK kStore with
  | true =>
    rw [h1, h2, h3, h4] at hne
    simp only [cond_true, cond_false] at hne
    have hs := fun hc => store_change hg h h4 hc
    generalize s.at x.x = c at *
    cases c with
    | none => exact absurd rfl hne
    | fn m => exact absurd rfl hne
    | thing m => exact absurd rfl hne
    | var m =>
      have hs := hs rfl
      have e : m = n := by
        rcases getD_set_cases s.vars m n (s.at x.y) .none with e | ⟨e, _⟩
        · exact absurd e hne
        · exact e
      subst e
      exact hs
  | false =>
  cases h5 : x.isK kNew with
  | true =>
    rw [h1, h2, h3, h4, h5] at hne
    simp only [cond_true, cond_false] at hne
    exact plain (set_change (s := s) (v := .thing s.things.length) hne) h3 h4 (isK_ne h5 (by decide))
  | false =>
  cases h6 : x.isK kFun with
  | true =>
    rw [h1, h2, h3, h4, h5, h6] at hne
    exact plain (set_change hne) h3 h4 (isK_ne h6 (by decide))
  | false =>
  cases h7 : x.isK kCall with
  | false => rw [h1, h2, h3, h4, h5, h6, h7] at hne; exact absurd rfl hne
  | true =>
    rw [h1, h2, h3, h4, h5, h6, h7] at hne
    simp only [cond_true, cond_false] at hne
    unfold Rn.call at hne
    have hh := Hs.at h x.y
    have hi := h.ok.at x.y
    generalize s.at x.y = c at *
    cases c with
    | none => exact absurd rfl hne
    | var m => exact absurd rfl hne
    | thing m => exact absurd rfl hne
    | fn m =>
      have hn : m < P.funs.length := hi
      have ho := hh (by intro e; cases e)
      obtain ⟨f, hfe⟩ : ∃ f, P.funs[m]? = some f := ⟨_, List.getElem?_eq_getElem hn⟩
      simp only [hfe] at hne
      unfold Rn.callF at hne
      by_cases hlen : f.params.length = x.args.length
      · rw [if_pos hlen] at hne
        have hfit : P.fitsV x ((P.nodesV + m : Nat) : Int) = true := by
          unfold PP.fitsV
          rw [funV_of hn, Int.toNat_natCast, List.getD_eq_getElem?_getD, hfe]
          rw [Bool.and_eq_true]
          exact ⟨decide_eq_true (by omega), decide_eq_true hlen⟩
        have hin : (m : Int) ∈ calledL P S x := by
          unfold calledL
          rw [h7, cond_true]
          exact List.mem_map.2 ⟨_, List.mem_filter.2 ⟨ho, hfit⟩, funV_of hn⟩
        have hpos : decide ((calledL P S x).length = 0) = false := decide_eq_false fun e => by
          rw [List.eq_nil_of_length_eq_zero e] at hin
          cases hin
        have hwr : writesL P S x = sset (x.x :: paramsL P (calledL P S x)) := by
          unfold writesL; rw [h4, cond_false, h7, hpos, Bool.and_false, cond_false]
        refine ⟨?_, by unfold idleV; rw [h3, h4, h7, hpos]; rfl⟩
        rw [hwr]
        by_cases e : ((s.give f.params (x.args.map s.at)).vars.getD n .none) = s.vars.getD n .none
        · rw [hxx (set_change (s := s.give f.params (x.args.map s.at)) fun g => hne (g.trans e))]
          exact writes_x hg.1 hgd.gx
        · obtain ⟨p, hp, hpn⟩ := give_change _ _ e
          have hp0 := (PP.goodF (PP.funs_ok hg.1.1) (List.mem_of_getElem? hfe)).params p hp
          rw [show (n : Int) = p by omega]
          refine (mem_sset (writes_in hg.1 hgd.gx)).2 (List.mem_cons_of_mem _ (List.mem_flatMap.2 ⟨_, hin, ?_⟩))
          rw [Int.toNat_natCast, List.getD_eq_getElem?_getD, hfe]
          exact hp
      · rw [if_neg hlen] at hne
        exact absurd rfl hne
theorem stmt_thing_change {P : PP} {S : List (List Int)} {s : Rn} (hg : P.GoodS S) (h : Sound P S s) {k : Nat} {x : PS} {j : Nat} (hj : j < s.things.length) (hne : (s.stmt P k x).things.getD j .none ≠ s.things.getD j .none) : ((s.atN P j : Nat) : Int) ∈ writesL P S x ∧ idleV P S x = false := by
  unfold Rn.stmt at hne
  cases h1 : x.isK kAddr with
  | true => rw [h1] at hne; exact absurd rfl hne
  | false =>
  cases h2 : x.isK kCopy with
  | true => rw [h1, h2] at hne; exact absurd rfl hne
  | false =>
  cases h3 : x.isK kLoad with
  | true =>
    rw [h1, h2, h3] at hne
    simp only [cond_true, cond_false] at hne
    cases hc : (s.at x.y).isAddr with
    | false => rw [hc] at hne; exact absurd rfl hne
    | true => rw [hc] at hne; exact absurd rfl hne
  | false =>
  cases h4 : x.isK kStore with
  | true =>
    rw [h1, h2, h3, h4] at hne
    simp only [cond_true, cond_false] at hne
    have hs := fun hc => store_change hg h h4 hc
    generalize s.at x.x = c at *
    cases c with
    | none => exact absurd rfl hne
    | fn m => exact absurd rfl hne
    | var m => exact absurd rfl hne
    | thing m =>
      have hs := hs rfl
      have e : m = j := by
        rcases getD_set_cases s.things m j (s.at x.y) .none with e | ⟨e, _⟩
        · exact absurd e hne
        · exact e
      subst e
      exact hs
  | false =>
  cases h5 : x.isK kNew with
  | true =>
    rw [h1, h2, h3, h4, h5] at hne
    simp only [cond_true, cond_false] at hne
    refine absurd ?_ hne
    rw [List.getD_eq_getElem?_getD, List.getElem?_append_left hj, ← List.getD_eq_getElem?_getD]
  | false =>
  cases h6 : x.isK kFun with
  | true => rw [h1, h2, h3, h4, h5, h6] at hne; exact absurd rfl hne
  | false =>
  cases h7 : x.isK kCall with
  | false => rw [h1, h2, h3, h4, h5, h6, h7] at hne; exact absurd rfl hne
  | true =>
    rw [h1, h2, h3, h4, h5, h6, h7] at hne
    simp only [cond_true, cond_false] at hne
    exact absurd (by rw [(Rn.call_eq P x s).1]) hne
theorem mem_idleL {P : PP} {S : List (List Int)} {k : Nat} : (k : Int) ∈ idleL P S ↔ k < P.stmts.length ∧ idleV P S (P.stAt k) = true := by
  unfold idleL idleUp
  rw [List.mem_map]
  constructor
  · rintro ⟨j, hj, e⟩
    obtain ⟨h1, h2⟩ := List.mem_filter.1 hj
    obtain rfl : j = k := by omega
    exact ⟨List.mem_range.1 h1, h2⟩
  · rintro ⟨h1, h2⟩
    exact ⟨k, List.mem_filter.2 ⟨List.mem_range.2 h1, h2⟩, rfl⟩
end Go.Proofs.YtoaoienfggjepaaGreatDoor

