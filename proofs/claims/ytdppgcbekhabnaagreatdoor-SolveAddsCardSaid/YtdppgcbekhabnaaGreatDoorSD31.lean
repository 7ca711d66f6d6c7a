/- Texts of one proof, put together: Z6 ZG ZH ZD ZI. -/
import Derived.Test.YtdppgcbekhabnaaGreatDoorSD06
import Derived.Test.YtdppgcbekhabnaaGreatDoorSD10
import Derived.Test.YtdppgcbekhabnaaGreatDoorSD18
import Derived.Test.YtdppgcbekhabnaaGreatDoorSD25
import Derived.Test.YtdppgcbekhabnaaGreatDoorSD26
import Derived.Test.YtdppgcbekhabnaaGreatDoorSD28
import Derived.Test.YtdppgcbekhabnaaGreatDoorSD30

namespace Go.Proofs.YtdppgcbekhabnaaGreatDoor
set_option linter.unusedSimpArgs false
set_option linter.unusedVariables false
open Go Go.RowKit

def vkNone : List UInt8 := [110, 111, 110, 101]
def Rn.atN (P : PP) (s : Rn) (j : Nat) : Nat := P.vars.length + P.newsN (s.places.getD j 0)
def Rn.oN (P : PP) (s : Rn) : Vl → Nat
  | .none => 0
  | .var n => n
  | .thing n => s.atN P n
  | .fn n => P.nodesV + n
def Hs (P : PP) (S : List (List Int)) (s : Rn) (i : Nat) (v : Vl) : Prop := v ≠ .none → ((s.oN P v : Nat) : Int) ∈ S.getD i []
theorem Hs.none {P : PP} {S : List (List Int)} {s : Rn} {i : Nat} : Hs P S s i .none := fun h => absurd rfl h
theorem Hs.to {P : PP} {S : List (List Int)} {s : Rn} {i j : Nat} {v : Vl} (h : Hs P S s i v) (hs : ∀ n ∈ S.getD i [], n ∈ S.getD j []) : Hs P S s j v := fun g => hs _ (h g)
theorem Hs.same {P : PP} {S : List (List Int)} {s t : Rn} {i : Nat} {v : Vl} (h : Hs P S s i v) (e : t.oN P v = s.oN P v) : Hs P S t i v := fun g => by rw [e]; exact h g
theorem oN_set (P : PP) (s : Rn) (n : Int) (u v : Vl) : (s.set n u).oN P v = s.oN P v := by cases v <;> rfl
theorem oN_put (P : PP) (s : Rn) (c u v : Vl) : (s.put c u).oN P v = s.oN P v := by cases c <;> cases v <;> rfl
structure Sound (P : PP) (S : List (List Int)) (s : Rn) : Prop where
  ok : s.Ok P
  pl : ∀ (j k : Nat), s.places[j]? = some k → k < P.stmts.length ∧ P.isNew k = true
  vars : ∀ i, Hs P S s i (s.vars.getD i .none)
  things : ∀ j, Hs P S s (s.atN P j) (s.things.getD j .none)
theorem getD_set_cases (l : List Vl) (n i : Nat) (v d : Vl) : (l.set n v).getD i d = l.getD i d ∨ (n = i ∧ (l.set n v).getD i d = v) := by
  rw [List.getD_eq_getElem?_getD, List.getD_eq_getElem?_getD, List.getElem?_set]
  by_cases h : n = i
  · subst h
    by_cases hl : n < l.length
    · right
      simp [hl]
    · left
      rw [if_pos rfl, if_neg hl, List.getElem?_eq_none (by omega)]
  · left
    rw [if_neg h]
theorem Sound.set {P : PP} {S : List (List Int)} {s : Rn} (h : Sound P S s) (n : Int) {v : Vl} (hv : v.In P.vars.length s.things.length P.funs.length) (hh : Hs P S s n.toNat v) : Sound P S (s.set n v) := by
  refine ⟨h.ok.set n hv, h.pl, fun i => ?_, fun j => (h.things j).same (oN_set _ _ _ _ _)⟩
  show Hs P S (s.set n v) i ((s.vars.set n.toNat v).getD i .none)
  rcases getD_set_cases s.vars n.toNat i v .none with e | ⟨rfl, e⟩
  · rw [e]; exact (h.vars i).same (oN_set _ _ _ _ _)
  · rw [e]; exact hh.same (oN_set _ _ _ _ _)
def Rn.cN (P : PP) (s : Rn) : Vl → Nat
  | .var n => n
  | .thing n => s.atN P n
  | _ => 0
theorem Sound.put {P : PP} {S : List (List Int)} {s : Rn} (h : Sound P S s) (c : Vl) {v : Vl} (hv : v.In P.vars.length s.things.length P.funs.length) (hh : c.isAddr = true → Hs P S s (s.cN P c) v) : Sound P S (s.put c v) := by
  cases c with
  | none => exact h
  | fn n => exact h
  | var n =>
    have hh := hh rfl
    refine ⟨h.ok.put _ hv, h.pl, fun i => ?_, fun j => (h.things j).same (oN_put P s (.var n) v _)⟩
    show Hs P S (s.put (.var n) v) i ((s.vars.set n v).getD i .none)
    rcases getD_set_cases s.vars n i v .none with e | ⟨rfl, e⟩
    · rw [e]; exact (h.vars i).same (oN_put _ _ _ _ _)
    · rw [e]; exact hh.same (oN_put _ _ _ _ _)
  | thing n =>
    have hh := hh rfl
    refine ⟨h.ok.put _ hv, h.pl, fun i => (h.vars i).same (oN_put P s (.thing n) v _), fun j => ?_⟩
    show Hs P S (s.put (.thing n) v) (s.atN P j) ((s.things.set n v).getD j .none)
    rcases getD_set_cases s.things n j v .none with e | ⟨rfl, e⟩
    · rw [e]; exact (h.things j).same (oN_put _ _ _ _ _)
    · rw [e]; exact hh.same (oN_put _ _ _ _ _)

theorem ClosedP.sedge {P : PP} {S : List (List Int)} (hc : ClosedP P S) {x : PS} (hx : x ∈ P.stmts) {a b : Int} (he : (a, b) ∈ P.sedges x S) : ∀ n ∈ S.getD a.toNat [], n ∈ S.getD b.toNat [] := by
  by_cases hab : a = b
  · subst hab; exact fun n h => h
  · exact hc.edge (a, b) (mem_edges0.2 ⟨x, hx, he⟩) hab
theorem kind_of {x : PS} {a : List UInt8} (h : x.isK a = true) : x.kind.toList = a := eq_of_beq h
theorem sedges_of {P : PP} {x : PS} {S : List (List Int)} (h1 : x.isK kAddr = false) (h2 : x.isK kNew = false) (h3 : x.isK kFun = false) (h4 : x.isK kCall = false) : P.sedges x S = P.redges ⟨x.kind, x.y, x.x, 0, []⟩ S := by
  unfold PP.sedges PP.ruleV
  rw [h1, h2, h3, h4]; rfl
theorem sedge_copy {P : PP} {x : PS} {S : List (List Int)} (h : x.isK kCopy = true) : (x.y, x.x) ∈ P.sedges x S := by
  rw [sedges_of (isK_ne h (by decide)) (isK_ne h (by decide)) (isK_ne h (by decide)) (isK_ne h (by decide))]
  unfold PP.redges
  simp only [kind_of h]
  exact List.mem_singleton.2 rfl
theorem sedge_load {P : PP} {x : PS} {S : List (List Int)} (h : x.isK kLoad = true) {o : Int} (ho : o ∈ S.getD x.y.toNat []) (hn : o < P.nodesV) : (o, x.x) ∈ P.sedges x S := by
  rw [sedges_of (isK_ne h (by decide)) (isK_ne h (by decide)) (isK_ne h (by decide)) (isK_ne h (by decide))]
  unfold PP.redges PP.nodesOf
  simp only [kind_of h]
  refine List.mem_map.2 ⟨o, List.mem_filter.2 ⟨ho, ?_⟩, rfl⟩
  rw [decide_eq_false (by omega)]; rfl
theorem sedge_store {P : PP} {x : PS} {S : List (List Int)} (h : x.isK kStore = true) {o : Int} (ho : o ∈ S.getD x.x.toNat []) (hn : o < P.nodesV) : (x.y, o) ∈ P.sedges x S := by
  rw [sedges_of (isK_ne h (by decide)) (isK_ne h (by decide)) (isK_ne h (by decide)) (isK_ne h (by decide))]
  unfold PP.redges PP.nodesOf
  simp only [kind_of h]
  refine List.mem_map.2 ⟨o, List.mem_filter.2 ⟨ho, ?_⟩, rfl⟩
  rw [decide_eq_false (by omega)]; rfl
theorem funV_of {P : PP} {n : Nat} (hn : n < P.funs.length) : P.funV ((P.nodesV + n : Nat) : Int) = n := by
  unfold PP.funV
  rw [if_pos (by omega)]; omega
theorem sedge_call {P : PP} {x : PS} {S : List (List Int)} (h : x.isK kCall = true) {n : Nat} {f : PF} (hf : P.funs[n]? = some f) (ho : ((P.nodesV + n : Nat) : Int) ∈ S.getD x.y.toNat []) {e : Int × Int} (he : e ∈ calledV f ⟨bCall, x.y, x.x, 0, x.args⟩) : e ∈ P.sedges x S := by
  have hb : bCall.toList = kCall := by decide +kernel
  unfold PP.sedges PP.ruleV
  rw [isK_ne h (by decide : (kCall == kAddr) = false), isK_ne h (by decide : (kCall == kNew) = false), isK_ne h (by decide : (kCall == kFun) = false), h]
  unfold PP.redges
  simp only [cond_true, cond_false, hb]
  refine List.mem_flatMap.2 ⟨_, ho, ?_⟩
  have hn : n < P.funs.length := by
    rcases Nat.lt_or_ge n P.funs.length with g | g
    · exact g
    · rw [List.getElem?_eq_none g] at hf; cases hf
  unfold PP.callsOf
  rw [funV_of hn, if_pos (by omega)]
  have e1 : P.funs.getD ((n : Int)).toNat ⟨⟨#[]⟩, [], 0⟩ = f := by rw [Int.toNat_natCast, List.getD_eq_getElem?_getD, hf]; rfl
  rw [e1]
  exact he
theorem ClosedP.addr {P : PP} {S : List (List Int)} (hc : ClosedP P S) {k : Nat} {x : PS} (hk : P.stmts[k]? = some x) (h : x.isK kAddr = true) : x.y ∈ S.getD x.x.toNat [] := by
  have hl : k < P.stmts.length := by
    rcases Nat.lt_or_ge k P.stmts.length with g | g
    · exact g
    · rw [List.getElem?_eq_none g] at hk; cases hk
  have e : P.stAt k = x := Option.some.inj ((stAt_some hl).symm.trans hk)
  have hb := hc.base k hl
  rw [e] at hb
  unfold PP.ruleV at hb
  rw [h] at hb
  exact hb rfl
theorem ClosedP.new {P : PP} {S : List (List Int)} (hc : ClosedP P S) {k : Nat} {x : PS} (hk : P.stmts[k]? = some x) (h : x.isK kNew = true) : P.placeV k ∈ S.getD x.x.toNat [] := by
  have hl : k < P.stmts.length := by
    rcases Nat.lt_or_ge k P.stmts.length with g | g
    · exact g
    · rw [List.getElem?_eq_none g] at hk; cases hk
  have e : P.stAt k = x := Option.some.inj ((stAt_some hl).symm.trans hk)
  have hb := hc.base k hl
  rw [e] at hb
  unfold PP.ruleV at hb
  rw [isK_ne h (by decide : (kNew == kAddr) = false), h] at hb
  exact hb rfl
theorem ClosedP.fn {P : PP} {S : List (List Int)} (hc : ClosedP P S) {k : Nat} {x : PS} (hk : P.stmts[k]? = some x) (h : x.isK kFun = true) : (P.nodesV : Int) + x.y ∈ S.getD x.x.toNat [] := by
  have hl : k < P.stmts.length := by
    rcases Nat.lt_or_ge k P.stmts.length with g | g
    · exact g
    · rw [List.getElem?_eq_none g] at hk; cases hk
  have e : P.stAt k = x := Option.some.inj ((stAt_some hl).symm.trans hk)
  have hb := hc.base k hl
  rw [e] at hb
  unfold PP.ruleV at hb
  rw [isK_ne h (by decide : (kFun == kAddr) = false), isK_ne h (by decide : (kFun == kNew) = false), h] at hb
  exact hb rfl
theorem newsN_mono (P : PP) {a b : Nat} (h : a ≤ b) : P.newsN a ≤ P.newsN b := by
  induction b with
  | zero => rw [Nat.le_zero.1 h]; exact Nat.le_refl _
  | succ b ih =>
    rcases Nat.lt_or_ge b a with g | g
    · rw [show a = b + 1 by omega]; exact Nat.le_refl _
    · have := ih g
      rw [P.newsN_succ]; omega
theorem Sound.at {P : PP} {S : List (List Int)} {s : Rn} (h : Sound P S s) {j : Nat} (hj : j < s.things.length) : P.vars.length ≤ s.atN P j ∧ s.atN P j < P.nodesV := by
  have hl : j < s.places.length := by rw [h.ok.lp]; exact hj
  have hp := List.getElem?_eq_getElem hl
  obtain ⟨h1, h2⟩ := h.pl j _ hp
  unfold Rn.atN PP.nodesV
  rw [List.getD_eq_getElem?_getD, hp]
  show _ ∧ P.vars.length + P.newsN (s.places[j]'hl) < _
  have h3 := P.newsN_succ (s.places[j]'hl)
  rw [h2] at h3
  have h4 := newsN_mono P (show s.places[j]'hl + 1 ≤ P.stmts.length from h1)
  simp only [if_true] at h3
  omega
theorem Hs.at {P : PP} {S : List (List Int)} {s : Rn} (h : Sound P S s) (n : Int) : Hs P S s n.toNat (s.at n) := h.vars n.toNat
theorem Sound.get {P : PP} {S : List (List Int)} {s : Rn} (h : Sound P S s) (c : Vl) : Hs P S s (s.cN P c) (s.get c) := by
  cases c with
  | none => exact Hs.none
  | fn n => exact Hs.none
  | var n => exact h.vars n
  | thing n => exact h.things n
theorem Sound.cell {P : PP} {S : List (List Int)} {s : Rn} (h : Sound P S s) (n : Int) (hc : (s.at n).isAddr = true) : ((s.cN P (s.at n) : Nat) : Int) ∈ S.getD n.toNat [] ∧ s.cN P (s.at n) < P.nodesV := by
  have hi := h.ok.at n
  have hh := Hs.at h n
  generalize s.at n = c at *
  cases c with
  | none => cases hc
  | fn n => cases hc
  | var m =>
    refine ⟨hh (by intro e; cases e), ?_⟩
    have : m < P.vars.length := hi
    show m < _
    unfold PP.nodesV; omega
  | thing m => exact ⟨hh (by intro e; cases e), (h.at hi).2⟩
theorem Sound.give {P : PP} {S : List (List Int)} : ∀ (ps : List Int) (vs : List Vl) {s : Rn}, Sound P S s → (∀ v ∈ vs, v.In P.vars.length s.things.length P.funs.length) → (∀ (i : Nat) (p : Int) (v : Vl), ps[i]? = some p → vs[i]? = some v → Hs P S s p.toNat v) → Sound P S (s.give ps vs)
  | [], _, _, h, _, _ => h
  | _ :: _, [], _, h, _, _ => h
  | p :: ps, v :: vs, s, h, h1, h2 => Sound.give ps vs (h.set p (h1 v List.mem_cons_self) (h2 0 p v rfl rfl)) (fun u hu => h1 u (List.mem_cons_of_mem _ hu)) fun i q u hq hu => (h2 (i + 1) q u (by simpa using hq) (by simpa using hu)).same (oN_set _ _ _ _ _)
theorem Sound.begin (P : PP) (S : List (List Int)) : Sound P S (Rn.begin P) := by
  refine ⟨Rn.Ok.begin P, fun j k h => (by cases h), fun i => ?_, fun j => Hs.none⟩
  have : (Rn.begin P).vars.getD i .none = .none := by
    show (List.replicate _ Vl.none).getD i .none = .none
    rw [List.getD_eq_getElem?_getD, List.getElem?_replicate]
    split <;> rfl
  rw [this]
  exact Hs.none
theorem oN_new {P : PP} {s : Rn} (h : s.Ok P) {vs ts : List Vl} (k : Nat) {v : Vl} (hv : v.In P.vars.length s.things.length P.funs.length) : Rn.oN P ⟨vs, ts, s.places ++ [k]⟩ v = s.oN P v := by
  cases v with
  | none => rfl
  | var n => rfl
  | fn n => rfl
  | thing n =>
    have hn : n < s.things.length := hv
    show P.vars.length + P.newsN ((s.places ++ [k]).getD n 0) = P.vars.length + P.newsN (s.places.getD n 0)
    rw [List.getD_eq_getElem?_getD, List.getElem?_append_left (by rw [h.lp]; exact hn), ← List.getD_eq_getElem?_getD]
theorem Ok_getD {P : PP} {s : Rn} (h : s.Ok P) (i : Nat) : (s.vars.getD i .none).In P.vars.length s.things.length P.funs.length := by
  have := h.at (i : Int)
  unfold Rn.at at this
  rwa [Int.toNat_natCast] at this
theorem Ok_getT {P : PP} {s : Rn} (h : s.Ok P) (i : Nat) : (s.things.getD i .none).In P.vars.length s.things.length P.funs.length := h.get (.thing i)
theorem Sound.stmt {P : PP} {S : List (List Int)} {s : Rn} (hw : P.Well) (hc : ClosedP P S) (h : Sound P S s) {k : Nat} {x : PS} (hk : P.stmts[k]? = some x) : Sound P S (s.stmt P k x) := by
  have hkl : k < P.stmts.length := by
    rcases Nat.lt_or_ge k P.stmts.length with g | g
    · exact g
    · rw [List.getElem?_eq_none g] at hk; cases hk
  have hg := PP.good (hw.2 k x hkl hk)
  have hx : x ∈ P.stmts := List.mem_of_getElem? hk
  have hok := h.ok.stmt k hg
  unfold Rn.stmt at hok ⊢
  cases h1 : x.isK kAddr with
  | true =>
    have hy := hg.yv (isK_ne h1 (by decide)) (isK_ne h1 (by decide))
    refine h.set x.x (show x.y.toNat < P.vars.length by omega) fun _ => ?_
    have := hc.addr hk h1
    have e : ((x.y.toNat : Nat) : Int) = x.y := Int.toNat_of_nonneg hy.1
    show ((x.y.toNat : Nat) : Int) ∈ _
    rw [e]; exact this
  | false =>
  cases h2 : x.isK kCopy with
  | true => exact h.set x.x (h.ok.at _) ((Hs.at h x.y).to (hc.sedge hx (sedge_copy h2)))
  | false =>
  cases h3 : x.isK kLoad with
  | true =>
    simp only [cond_true, cond_false]
    cases h4 : (s.at x.y).isAddr with
    | false => exact h
    | true =>
      obtain ⟨g1, g2⟩ := h.cell x.y h4
      refine h.set x.x (h.ok.get _) ((h.get _).to ?_)
      have := hc.sedge hx (sedge_load h3 g1 (by omega))
      rwa [Int.toNat_natCast] at this
  | false =>
  cases h4 : x.isK kStore with
  | true =>
    simp only [cond_true, cond_false]
    refine h.put _ (h.ok.at _) fun hca => ?_
    obtain ⟨g1, g2⟩ := h.cell x.x hca
    refine (Hs.at h x.y).to ?_
    have := hc.sedge hx (sedge_store h4 g1 (by omega))
    rwa [Int.toNat_natCast] at this
  | false =>
  cases h5 : x.isK kNew with
  | true =>
    rw [h1, h2, h3, h4, h5] at hok
    simp only [cond_true, cond_false] at hok ⊢
    have hpl : P.isNew k = true := (isNew_at hk).trans h5
    have hlast : ∀ vs ts, Rn.atN P ⟨vs, ts, s.places ++ [k]⟩ s.things.length = P.vars.length + P.newsN k := fun vs ts => by
      show P.vars.length + P.newsN ((s.places ++ [k]).getD s.things.length 0) = _
      rw [List.getD_eq_getElem?_getD, ← h.ok.lp, List.getElem?_concat_length]; rfl
    refine ⟨hok, fun j q hq => ?_, fun i => ?_, fun j => ?_⟩
    · have hq : (s.places ++ [k])[j]? = some q := hq
      rcases Nat.lt_or_ge j s.places.length with g | g
      · rw [List.getElem?_append_left g] at hq; exact h.pl j q hq
      · rw [List.getElem?_append_right g] at hq
        have : j - s.places.length = 0 := by
          rcases Nat.eq_zero_or_pos (j - s.places.length) with g | g
          · exact g
          · rw [List.getElem?_eq_none (by simp; omega)] at hq; cases hq
        rw [this] at hq
        obtain rfl := Option.some.inj hq
        exact ⟨hkl, hpl⟩
    · show Hs P S _ i ((s.vars.set x.x.toNat (.thing s.things.length)).getD i .none)
      rcases getD_set_cases s.vars x.x.toNat i (.thing s.things.length) .none with e | ⟨rfl, e⟩
      · rw [e]; exact (h.vars i).same (oN_new h.ok k (Ok_getD h.ok i))
      · rw [e]
        intro _
        have hp := hc.new hk h5
        unfold PP.placeV at hp
        rw [if_pos ⟨by omega, by omega, by rw [Int.toNat_natCast]; exact hpl⟩, Int.toNat_natCast] at hp
        show ((Rn.atN P ⟨_, _, s.places ++ [k]⟩ s.things.length : Nat) : Int) ∈ _
        rw [hlast]
        exact hp
    · show Hs P S _ (Rn.atN P ⟨_, _, s.places ++ [k]⟩ j) ((s.things ++ [Vl.none]).getD j Vl.none)
      rcases Nat.lt_or_ge j s.things.length with g | g
      · have e1 : (s.things ++ [Vl.none]).getD j .none = s.things.getD j .none := by
          rw [List.getD_eq_getElem?_getD, List.getElem?_append_left g, ← List.getD_eq_getElem?_getD]
        have e2 : Rn.atN P ⟨(s.set x.x (.thing s.things.length)).vars, s.things ++ [Vl.none], s.places ++ [k]⟩ j = s.atN P j := oN_new h.ok k (v := .thing j) g
        rw [e1, e2]
        exact (h.things j).same (oN_new h.ok k (Ok_getT h.ok j))
      · have e1 : (s.things ++ [Vl.none]).getD j .none = .none := by
          rw [List.getD_eq_getElem?_getD, List.getElem?_append_right g]
          cases j - s.things.length <;> rfl
        rw [e1]; exact Hs.none
  | false =>
  cases h6 : x.isK kFun with
  | true =>
    have hy := hg.yf h6
    refine h.set x.x (show x.y.toNat < P.funs.length by omega) fun _ => ?_
    have := hc.fn hk h6
    show ((P.nodesV + x.y.toNat : Nat) : Int) ∈ _
    rw [show ((P.nodesV + x.y.toNat : Nat) : Int) = (P.nodesV : Int) + x.y by omega]; exact this
  | false =>
  cases h7 : x.isK kCall with
  | false => exact h
  | true =>
    simp only [cond_true, cond_false]
    unfold Rn.call
    have hh := Hs.at h x.y
    have hi := h.ok.at x.y
    generalize s.at x.y = c at *
    cases c with
    | none => exact h
    | var n => exact h
    | thing n => exact h
    | fn n =>
      have hn : n < P.funs.length := hi
      have ho := hh (by intro e; cases e)
      have hf := List.getElem?_eq_getElem hn
      obtain ⟨f, hfe⟩ : ∃ f, P.funs[n]? = some f := ⟨_, hf⟩
      simp only [hfe]
      unfold Rn.callF
      split
      case isFalse => exact h
      case isTrue hlen =>
        have hed : ∀ e ∈ calledV f ⟨bCall, x.y, x.x, 0, x.args⟩, ∀ n ∈ S.getD e.1.toNat [], n ∈ S.getD e.2.toNat [] := fun e he => hc.sedge hx (sedge_call h7 hfe ho he)
        unfold calledV at hed
        rw [if_pos hlen] at hed
        have hgv : Sound P S (s.give f.params (x.args.map s.at)) := by
          refine Sound.give _ _ h (fun v hv => ?_) fun i p v hp hv => ?_
          · obtain ⟨a, _, rfl⟩ := List.mem_map.1 hv
            exact h.ok.at a
          · rw [List.getElem?_map] at hv
            cases ha : x.args[i]? with
            | none => rw [ha] at hv; cases hv
            | some a =>
              rw [ha] at hv
              obtain rfl := Option.some.inj hv
              exact (Hs.at h a).to (hed (a, p) (List.mem_cons_of_mem _ (List.mem_of_getElem? (List.getElem?_zip_eq_some.2 ⟨ha, hp⟩))))
        exact hgv.set x.x (hgv.ok.at _) ((Hs.at hgv f.ret).to (hed _ List.mem_cons_self))
theorem Sound.foldl {P : PP} {S : List (List Int)} (hw : P.Well) (hc : ClosedP P S) : ∀ (l : List Nat) (s : Rn), Sound P S s → Sound P S (l.foldl (Rn.step P) s)
  | [], _, h => h
  | k :: l, s, h => by
    refine Sound.foldl hw hc l _ ?_
    unfold Rn.step
    cases hk : P.stmts[k]? with
    | none => exact h
    | some x => exact h.stmt hw hc hk
theorem Sound.run {P : PP} {S : List (List Int)} (hw : P.Well) (hc : ClosedP P S) (l : List Nat) : Sound P S (Rn.run P l) := Sound.foldl hw hc l _ (Sound.begin P S)
end Go.Proofs.YtdppgcbekhabnaaGreatDoor



namespace Go.Proofs.YtdppgcbekhabnaaGreatDoor
set_option linter.unusedSimpArgs false
set_option linter.unusedVariables false
open Go Go.RowKit

def PP.fitsR (P : PP) (S : List (List Int)) (x : PS) (f : Nat) : Bool := decide (((P.nodesV + f : Nat) : Int) ∈ S.getD x.y.toNat []) && decide ((P.funs.getD f ⟨⟨#[]⟩, [], 0⟩).params.length = x.args.length)
def calledUp (P : PP) (S : List (List Int)) (x : PS) (n : Nat) : List Int := ((List.range n).filter (P.fitsR S x)).map fun k : Nat => (k : Int)
end Go.Proofs.YtdppgcbekhabnaaGreatDoor



namespace Go.Proofs.YtdppgcbekhabnaaGreatDoor
set_option linter.unusedSimpArgs false
set_option linter.unusedVariables false
open Go Go.RowKit

end Go.Proofs.YtdppgcbekhabnaaGreatDoor



namespace Go.Proofs.YtdppgcbekhabnaaGreatDoor
set_option linter.unusedSimpArgs false
set_option linter.unusedVariables false
open Go Go.RowKit

def paramsL (P : PP) (fs : List Int) : List Int := fs.flatMap fun f => (P.funs.getD f.toNat ⟨⟨#[]⟩, [], 0⟩).params
def writesL (P : PP) (S : List (List Int)) (x : PS) : List Int :=
  bif x.isK kStore then nodesL S (S.getD x.x.toNat []) else
  bif x.isK kCall && decide ((calledL P S x).length = 0) then [] else sset (x.x :: paramsL P (calledL P S x))
end Go.Proofs.YtdppgcbekhabnaaGreatDoor



namespace Go.Proofs.YtdppgcbekhabnaaGreatDoor
set_option linter.unusedSimpArgs false
set_option linter.unusedVariables false
open Go Go.RowKit

set_option maxRecDepth 100000 in
set_option maxHeartbeats 800000 in
theorem coded2_any (w : World) (v : Value) (c : Int) (h : Calls Tryz.prog 47 #[v] w fun e w' => e = .returned (.tuple #[.int .i64 c, .int .i64 (-1)]) ∧ Ext w w') :
    Calls Tryz.prog 26 #[v, .int .i64 c] w fun e w' => e = .returned (.bool true) ∧ Ext w w' := by
  have HC := hid h
  clear h
  go_enter Tryz.func26, Tryz.ntmps26
  go_wp2_with fail
  refine HC.out.mono ?_
  intro e w1 hx
  obtain ⟨rfl, hx1⟩ := hx
  have HX1 := hid hx1
  clear HC hx1
  go_wp2
  go_ret
  exact ⟨rfl, HX1.out⟩
end Go.Proofs.YtdppgcbekhabnaaGreatDoor

