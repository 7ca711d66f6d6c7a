/- Texts of one proof, put together: Z5 X1 WG Z6 WH WI. -/
import Derived.Test.YtoaoienfggjepaaGreatDoorFS08
import Derived.Test.YtoaoienfggjepaaGreatDoorFS13
import Derived.Test.YtoaoienfggjepaaGreatDoorFS14
import Derived.Test.YtoaoienfggjepaaGreatDoorFS15

/- ConsOrder: the law walked. -/
namespace Go.Proofs.YtoaoienfggjepaaGreatDoor
set_option linter.unusedSimpArgs false
set_option linter.unusedVariables false
open Go Go.RowKit

end Go.Proofs.YtoaoienfggjepaaGreatDoor



/- FixClosed: the law walked. -/
namespace Go.Proofs.YtoaoienfggjepaaGreatDoor
set_option linter.unusedSimpArgs false
set_option linter.unusedVariables false
open Go Go.RowKit

end Go.Proofs.YtoaoienfggjepaaGreatDoor



/- ObjectOf of the reference. -/
namespace Go.Proofs.YtoaoienfggjepaaGreatDoor
set_option linter.unusedSimpArgs false
set_option linter.unusedVariables false
open Go Go.RowKit

def vkVar : List UInt8 := [118, 97, 114]
def vkThing : List UInt8 := [116, 104, 105, 110, 103]
def vkFun : List UInt8 := [102, 117, 110]
def PP.objV (P : PP) (pl : List Int) (k : List UInt8) (n : Int) : Int :=
  bif k == vkVar then (if 0 ≤ n ∧ n < P.vars.length then n else -1) else
  bif k == vkThing then (if 0 ≤ n ∧ n < pl.length then P.placeV (pl.getD n.toNat 0) else -1) else
  bif k == vkFun then (if 0 ≤ n ∧ n < P.funs.length then (P.nodesV : Int) + n else -1) else -1
theorem PP.nodesV_le (P : PP) : P.nodesV ≤ P.vars.length + P.stmts.length := by
  unfold PP.nodesV
  have := P.newsN_le P.stmts.length
  omega

end Go.Proofs.YtoaoienfggjepaaGreatDoor



/- Runs, plainly: whatever a run does, what a variable or a thing has is one of its node's objects. -/
namespace Go.Proofs.YtoaoienfggjepaaGreatDoor
set_option linter.unusedSimpArgs false
set_option linter.unusedVariables false
open Go Go.RowKit

def vkNone : List UInt8 := [110, 111, 110, 101]
/-- The node of a thing. -/
def Rn.atN (P : PP) (s : Rn) (j : Nat) : Nat := P.vars.length + P.newsN (s.places.getD j 0)
/-- The object of a value. -/
def Rn.oN (P : PP) (s : Rn) : Vl → Nat
  | .none => 0
  | .var n => n
  | .thing n => s.atN P n
  | .fn n => P.nodesV + n
/-- Is a value one of a node's? -/
def Hs (P : PP) (S : List (List Int)) (s : Rn) (i : Nat) (v : Vl) : Prop := v ≠ .none → ((s.oN P v : Nat) : Int) ∈ S.getD i []
theorem Hs.none {P : PP} {S : List (List Int)} {s : Rn} {i : Nat} : Hs P S s i .none := fun h => absurd rfl h
theorem Hs.to {P : PP} {S : List (List Int)} {s : Rn} {i j : Nat} {v : Vl} (h : Hs P S s i v) (hs : ∀ n ∈ S.getD i [], n ∈ S.getD j []) : Hs P S s j v := fun g => hs _ (h g)
theorem Hs.same {P : PP} {S : List (List Int)} {s t : Rn} {i : Nat} {v : Vl} (h : Hs P S s i v) (e : t.oN P v = s.oN P v) : Hs P S t i v := fun g => by rw [e]; exact h g
theorem oN_set (P : PP) (s : Rn) (n : Int) (u v : Vl) : (s.set n u).oN P v = s.oN P v := by cases v <;> rfl
theorem oN_put (P : PP) (s : Rn) (c u v : Vl) : (s.put c u).oN P v = s.oN P v := by cases c <;> cases v <;> rfl
structure Sound (P : PP) (S : List (List Int)) (s : Rn) : Prop where
  ok : s.Ok P
  pl : ∀ (j k : Nat), s.places[j]? = some k → k < P.stmts.length ∧ P.isNew k = true
  vars : ∀ i, Hs P S s i (s.vars.getD i .none)
  things : ∀ j, Hs P S s (s.atN P j) (s.things.getD j .none)
theorem getD_set_cases (l : List Vl) (n i : Nat) (v d : Vl) : (l.set n v).getD i d = l.getD i d ∨ (n = i ∧ (l.set n v).getD i d = v) := by
  rw [List.getD_eq_getElem?_getD, List.getD_eq_getElem?_getD, List.getElem?_set]
  by_cases h : n = i
  · subst h
    by_cases hl : n < l.length
    · right
      simp [hl]
    · left
      rw [if_pos rfl, if_neg hl, List.getElem?_eq_none (by omega)]
  · left
    rw [if_neg h]
theorem Sound.set {P : PP} {S : List (List Int)} {s : Rn} (h : Sound P S s) (n : Int) {v : Vl} (hv : v.In P.vars.length s.things.length P.funs.length) (hh : Hs P S s n.toNat v) : Sound P S (s.set n v) := by
  refine ⟨h.ok.set n hv, h.pl, fun i => ?_, fun j => (h.things j).same (oN_set _ _ _ _ _)⟩
  show Hs P S (s.set n v) i ((s.vars.set n.toNat v).getD i .none)
  rcases getD_set_cases s.vars n.toNat i v .none with e | ⟨rfl, e⟩
  · rw [e]; exact (h.vars i).same (oN_set _ _ _ _ _)
  · rw [e]; exact hh.same (oN_set _ _ _ _ _)
/-- The node of a place that is pointed to. -/
def Rn.cN (P : PP) (s : Rn) : Vl → Nat
  | .var n => n
  | .thing n => s.atN P n
  | _ => 0
theorem Sound.put {P : PP} {S : List (List Int)} {s : Rn} (h : Sound P S s) (c : Vl) {v : Vl} (hv : v.In P.vars.length s.things.length P.funs.length) (hh : c.isAddr = true → Hs P S s (s.cN P c) v) : Sound P S (s.put c v) := by
  cases c with
  | none => exact h
  | fn n => exact h
  | var n =>
    have hh := hh rfl
    refine ⟨h.ok.put _ hv, h.pl, fun i => ?_, fun j => (h.things j).same (oN_put P s (.var n) v _)⟩
    show Hs P S (s.put (.var n) v) i ((s.vars.set n v).getD i .none)
    rcases getD_set_cases s.vars n i v .none with e | ⟨rfl, e⟩
    · rw [e]; exact (h.vars i).same (oN_put _ _ _ _ _)
    · rw [e]; exact hh.same (oN_put _ _ _ _ _)
  | thing n =>
    have hh := hh rfl
    refine ⟨h.ok.put _ hv, h.pl, fun i => (h.vars i).same (oN_put P s (.thing n) v _), fun j => ?_⟩
    show Hs P S (s.put (.thing n) v) (s.atN P j) ((s.things.set n v).getD j .none)
    rcases getD_set_cases s.things n j v .none with e | ⟨rfl, e⟩
    · rw [e]; exact (h.things j).same (oN_put _ _ _ _ _)
    · rw [e]; exact hh.same (oN_put _ _ _ _ _)

/-- The answer is closed under a statement's edges. -/
theorem ClosedP.sedge {P : PP} {S : List (List Int)} (hc : ClosedP P S) {x : PS} (hx : x ∈ P.stmts) {a b : Int} (he : (a, b) ∈ P.sedges x S) : ∀ n ∈ S.getD a.toNat [], n ∈ S.getD b.toNat [] := by
  by_cases hab : a = b
  · subst hab; exact fun n h => h
  · exact hc.edge (a, b) (mem_edges0.2 ⟨x, hx, he⟩) hab
theorem kind_of {x : PS} {a : List UInt8} (h : x.isK a = true) : x.kind.toList = a := eq_of_beq h
theorem sedges_of {P : PP} {x : PS} {S : List (List Int)} (h1 : x.isK kAddr = false) (h2 : x.isK kNew = false) (h3 : x.isK kFun = false) (h4 : x.isK kCall = false) : P.sedges x S = P.redges ⟨x.kind, x.y, x.x, 0, []⟩ S := by
  unfold PP.sedges PP.ruleV
  rw [h1, h2, h3, h4]; rfl
theorem sedge_copy {P : PP} {x : PS} {S : List (List Int)} (h : x.isK kCopy = true) : (x.y, x.x) ∈ P.sedges x S := by
  rw [sedges_of (isK_ne h (by decide)) (isK_ne h (by decide)) (isK_ne h (by decide)) (isK_ne h (by decide))]
  unfold PP.redges
  simp only [kind_of h]
  exact List.mem_singleton.2 rfl
theorem sedge_load {P : PP} {x : PS} {S : List (List Int)} (h : x.isK kLoad = true) {o : Int} (ho : o ∈ S.getD x.y.toNat []) (hn : o < P.nodesV) : (o, x.x) ∈ P.sedges x S := by
  rw [sedges_of (isK_ne h (by decide)) (isK_ne h (by decide)) (isK_ne h (by decide)) (isK_ne h (by decide))]
  unfold PP.redges PP.nodesOf
  simp only [kind_of h]
  refine List.mem_map.2 ⟨o, List.mem_filter.2 ⟨ho, ?_⟩, rfl⟩
  rw [decide_eq_false (by omega)]; rfl
theorem sedge_store {P : PP} {x : PS} {S : List (List Int)} (h : x.isK kStore = true) {o : Int} (ho : o ∈ S.getD x.x.toNat []) (hn : o < P.nodesV) : (x.y, o) ∈ P.sedges x S := by
  rw [sedges_of (isK_ne h (by decide)) (isK_ne h (by decide)) (isK_ne h (by decide)) (isK_ne h (by decide))]
  unfold PP.redges PP.nodesOf
  simp only [kind_of h]
  refine List.mem_map.2 ⟨o, List.mem_filter.2 ⟨ho, ?_⟩, rfl⟩
  rw [decide_eq_false (by omega)]; rfl
theorem funV_of {P : PP} {n : Nat} (hn : n < P.funs.length) : P.funV ((P.nodesV + n : Nat) : Int) = n := by
  unfold PP.funV
  rw [if_pos (by omega)]; omega
theorem sedge_call {P : PP} {x : PS} {S : List (List Int)} (h : x.isK kCall = true) {n : Nat} {f : PF} (hf : P.funs[n]? = some f) (ho : ((P.nodesV + n : Nat) : Int) ∈ S.getD x.y.toNat []) {e : Int × Int} (he : e ∈ calledV f ⟨bCall, x.y, x.x, 0, x.args⟩) : e ∈ P.sedges x S := by
  have hb : bCall.toList = kCall := by decide +kernel
  unfold PP.sedges PP.ruleV
  rw [isK_ne h (by decide : (kCall == kAddr) = false), isK_ne h (by decide : (kCall == kNew) = false), isK_ne h (by decide : (kCall == kFun) = false), h]
  unfold PP.redges
  simp only [cond_true, cond_false, hb]
  refine List.mem_flatMap.2 ⟨_, ho, ?_⟩
  have hn : n < P.funs.length := by
    rcases Nat.lt_or_ge n P.funs.length with g | g
    · exact g
    · rw [List.getElem?_eq_none g] at hf; cases hf
  unfold PP.callsOf
  rw [funV_of hn, if_pos (by omega)]
  have e1 : P.funs.getD ((n : Int)).toNat ⟨⟨#[]⟩, [], 0⟩ = f := by rw [Int.toNat_natCast, List.getD_eq_getElem?_getD, hf]; rfl
  rw [e1]
  exact he
theorem ClosedP.addr {P : PP} {S : List (List Int)} (hc : ClosedP P S) {k : Nat} {x : PS} (hk : P.stmts[k]? = some x) (h : x.isK kAddr = true) : x.y ∈ S.getD x.x.toNat [] := by
  have hl : k < P.stmts.length := by
    rcases Nat.lt_or_ge k P.stmts.length with g | g
    · exact g
    · rw [List.getElem?_eq_none g] at hk; cases hk
  have e : P.stAt k = x := Option.some.inj ((stAt_some hl).symm.trans hk)
  have hb := hc.base k hl
  rw [e] at hb
  unfold PP.ruleV at hb
  rw [h] at hb
  exact hb rfl
theorem ClosedP.new {P : PP} {S : List (List Int)} (hc : ClosedP P S) {k : Nat} {x : PS} (hk : P.stmts[k]? = some x) (h : x.isK kNew = true) : P.placeV k ∈ S.getD x.x.toNat [] := by
  have hl : k < P.stmts.length := by
    rcases Nat.lt_or_ge k P.stmts.length with g | g
    · exact g
    · rw [List.getElem?_eq_none g] at hk; cases hk
  have e : P.stAt k = x := Option.some.inj ((stAt_some hl).symm.trans hk)
  have hb := hc.base k hl
  rw [e] at hb
  unfold PP.ruleV at hb
  rw [isK_ne h (by decide : (kNew == kAddr) = false), h] at hb
  exact hb rfl
theorem ClosedP.fn {P : PP} {S : List (List Int)} (hc : ClosedP P S) {k : Nat} {x : PS} (hk : P.stmts[k]? = some x) (h : x.isK kFun = true) : (P.nodesV : Int) + x.y ∈ S.getD x.x.toNat [] := by
  have hl : k < P.stmts.length := by
    rcases Nat.lt_or_ge k P.stmts.length with g | g
    · exact g
    · rw [List.getElem?_eq_none g] at hk; cases hk
  have e : P.stAt k = x := Option.some.inj ((stAt_some hl).symm.trans hk)
  have hb := hc.base k hl
  rw [e] at hb
  unfold PP.ruleV at hb
  rw [isK_ne h (by decide : (kFun == kAddr) = false), isK_ne h (by decide : (kFun == kNew) = false), h] at hb
  exact hb rfl
theorem newsN_mono (P : PP) {a b : Nat} (h : a ≤ b) : P.newsN a ≤ P.newsN b := by
  induction b with
  | zero => rw [Nat.le_zero.1 h]; exact Nat.le_refl _
  | succ b ih =>
    rcases Nat.lt_or_ge b a with g | g
    · rw [show a = b + 1 by omega]; exact Nat.le_refl _
    · have := ih g
      rw [P.newsN_succ]; omega
/-- A thing's node is a node, and no variable's. -/
theorem Sound.at {P : PP} {S : List (List Int)} {s : Rn} (h : Sound P S s) {j : Nat} (hj : j < s.things.length) : P.vars.length ≤ s.atN P j ∧ s.atN P j < P.nodesV := by
  have hl : j < s.places.length := by rw [h.ok.lp]; exact hj
  have hp := List.getElem?_eq_getElem hl
  obtain ⟨h1, h2⟩ := h.pl j _ hp
  unfold Rn.atN PP.nodesV
  rw [List.getD_eq_getElem?_getD, hp]
  show _ ∧ P.vars.length + P.newsN (s.places[j]'hl) < _
  have h3 := P.newsN_succ (s.places[j]'hl)
  rw [h2] at h3
  have h4 := newsN_mono P (show s.places[j]'hl + 1 ≤ P.stmts.length from h1)
  simp only [if_true] at h3
  omega
theorem Hs.at {P : PP} {S : List (List Int)} {s : Rn} (h : Sound P S s) (n : Int) : Hs P S s n.toNat (s.at n) := h.vars n.toNat
/-- What a place that is pointed to has. -/
theorem Sound.get {P : PP} {S : List (List Int)} {s : Rn} (h : Sound P S s) (c : Vl) : Hs P S s (s.cN P c) (s.get c) := by
  cases c with
  | none => exact Hs.none
  | fn n => exact Hs.none
  | var n => exact h.vars n
  | thing n => exact h.things n
/-- The node of a place that is pointed to is one of the pointer's objects. -/
theorem Sound.cell {P : PP} {S : List (List Int)} {s : Rn} (h : Sound P S s) (n : Int) (hc : (s.at n).isAddr = true) : ((s.cN P (s.at n) : Nat) : Int) ∈ S.getD n.toNat [] ∧ s.cN P (s.at n) < P.nodesV := by
  have hi := h.ok.at n
  have hh := Hs.at h n
  generalize s.at n = c at *
  cases c with
  | none => cases hc
  | fn n => cases hc
  | var m =>
    refine ⟨hh (by intro e; cases e), ?_⟩
    have : m < P.vars.length := hi
    show m < _
    unfold PP.nodesV; omega
  | thing m => exact ⟨hh (by intro e; cases e), (h.at hi).2⟩
theorem Sound.give {P : PP} {S : List (List Int)} : ∀ (ps : List Int) (vs : List Vl) {s : Rn}, Sound P S s → (∀ v ∈ vs, v.In P.vars.length s.things.length P.funs.length) → (∀ (i : Nat) (p : Int) (v : Vl), ps[i]? = some p → vs[i]? = some v → Hs P S s p.toNat v) → Sound P S (s.give ps vs)
  | [], _, _, h, _, _ => h
  | _ :: _, [], _, h, _, _ => h
  | p :: ps, v :: vs, s, h, h1, h2 => Sound.give ps vs (h.set p (h1 v List.mem_cons_self) (h2 0 p v rfl rfl)) (fun u hu => h1 u (List.mem_cons_of_mem _ hu)) fun i q u hq hu => (h2 (i + 1) q u (by simpa using hq) (by simpa using hu)).same (oN_set _ _ _ _ _)
theorem Sound.begin (P : PP) (S : List (List Int)) : Sound P S (Rn.begin P) := by
  refine ⟨Rn.Ok.begin P, fun j k h => (by cases h), fun i => ?_, fun j => Hs.none⟩
  have : (Rn.begin P).vars.getD i .none = .none := by
    show (List.replicate _ Vl.none).getD i .none = .none
    rw [List.getD_eq_getElem?_getD, List.getElem?_replicate]
    split <;> rfl
  rw [this]
  exact Hs.none
theorem oN_new {P : PP} {s : Rn} (h : s.Ok P) {vs ts : List Vl} (k : Nat) {v : Vl} (hv : v.In P.vars.length s.things.length P.funs.length) : Rn.oN P ⟨vs, ts, s.places ++ [k]⟩ v = s.oN P v := by
  cases v with
  | none => rfl
  | var n => rfl
  | fn n => rfl
  | thing n =>
    have hn : n < s.things.length := hv
    show P.vars.length + P.newsN ((s.places ++ [k]).getD n 0) = P.vars.length + P.newsN (s.places.getD n 0)
    rw [List.getD_eq_getElem?_getD, List.getElem?_append_left (by rw [h.lp]; exact hn), ← List.getD_eq_getElem?_getD]
theorem Ok_getD {P : PP} {s : Rn} (h : s.Ok P) (i : Nat) : (s.vars.getD i .none).In P.vars.length s.things.length P.funs.length := by
  have := h.at (i : Int)
  unfold Rn.at at this
  rwa [Int.toNat_natCast] at this
theorem Ok_getT {P : PP} {s : Rn} (h : s.Ok P) (i : Nat) : (s.things.getD i .none).In P.vars.length s.things.length P.funs.length := h.get (.thing i)
/-- A statement keeps what is sound. -/
theorem Sound.stmt {P : PP} {S : List (List Int)} {s : Rn} (hw : P.Well) (hc : ClosedP P S) (h : Sound P S s) {k : Nat} {x : PS} (hk : P.stmts[k]? = some x) : Sound P S (s.stmt P k x) := by
  have hkl : k < P.stmts.length := by
    rcases Nat.lt_or_ge k P.stmts.length with g | g
    · exact g
    · rw [List.getElem?_eq_none g] at hk; cases hk
  have hg := PP.good (hw.2 k x hkl hk)
  have hx : x ∈ P.stmts := List.mem_of_getElem? hk
  have hok := h.ok.stmt k hg
  unfold Rn.stmt at hok ⊢
  cases h1 : x.isK kAddr with
  | true =>
    have hy := hg.yv (isK_ne h1 (by decide)) (isK_ne h1 (by decide))
    refine h.set x.x (show x.y.toNat < P.vars.length by omega) fun _ => ?_
    have := hc.addr hk h1
    have e : ((x.y.toNat : Nat) : Int) = x.y := Int.toNat_of_nonneg hy.1
    show ((x.y.toNat : Nat) : Int) ∈ _
    rw [e]; exact this
  | false =>
  cases h2 : x.isK kCopy with
  | true => exact h.set x.x (h.ok.at _) ((Hs.at h x.y).to (hc.sedge hx (sedge_copy h2)))
  | false =>
  cases h3 : x.isK kLoad with
  | true =>
    simp only [cond_true, cond_false]
    cases h4 : (s.at x.y).isAddr with
    | false => exact h
    | true =>
      obtain ⟨g1, g2⟩ := h.cell x.y h4
      refine h.set x.x (h.ok.get _) ((h.get _).to ?_)
      have := hc.sedge hx (sedge_load h3 g1 (by omega))
      rwa [Int.toNat_natCast] at this
  | false =>
  cases h4 : x.isK kStore with
  | true =>
    simp only [cond_true, cond_false]
    refine h.put _ (h.ok.at _) fun hca => ?_
    obtain ⟨g1, g2⟩ := h.cell x.x hca
    refine (Hs.at h x.y).to ?_
    have := hc.sedge hx (sedge_store h4 g1 (by omega))
    rwa [Int.toNat_natCast] at this
  | false =>
  cases h5 : x.isK kNew with
  | true =>
    rw [h1, h2, h3, h4, h5] at hok
    simp only [cond_true, cond_false] at hok ⊢
    have hpl : P.isNew k = true := (isNew_at hk).trans h5
    have hlast : ∀ vs ts, Rn.atN P ⟨vs, ts, s.places ++ [k]⟩ s.things.length = P.vars.length + P.newsN k := fun vs ts => by
      show P.vars.length + P.newsN ((s.places ++ [k]).getD s.things.length 0) = _
      rw [List.getD_eq_getElem?_getD, ← h.ok.lp, List.getElem?_concat_length]; rfl
    refine ⟨hok, fun j q hq => ?_, fun i => ?_, fun j => ?_⟩
    · have hq : (s.places ++ [k])[j]? = some q := hq
      rcases Nat.lt_or_ge j s.places.length with g | g
      · rw [List.getElem?_append_left g] at hq; exact h.pl j q hq
      · rw [List.getElem?_append_right g] at hq
        have : j - s.places.length = 0 := by
          rcases Nat.eq_zero_or_pos (j - s.places.length) with g | g
          · exact g
          · rw [List.getElem?_eq_none (by simp; omega)] at hq; cases hq
        rw [this] at hq
        obtain rfl := Option.some.inj hq
        exact ⟨hkl, hpl⟩
    · show Hs P S _ i ((s.vars.set x.x.toNat (.thing s.things.length)).getD i .none)
      rcases getD_set_cases s.vars x.x.toNat i (.thing s.things.length) .none with e | ⟨rfl, e⟩
      · rw [e]; exact (h.vars i).same (oN_new h.ok k (Ok_getD h.ok i))
      · rw [e]
        intro _
        have hp := hc.new hk h5
        unfold PP.placeV at hp
        rw [if_pos ⟨by omega, by omega, by rw [Int.toNat_natCast]; exact hpl⟩, Int.toNat_natCast] at hp
        show ((Rn.atN P ⟨_, _, s.places ++ [k]⟩ s.things.length : Nat) : Int) ∈ _
        rw [hlast]
        exact hp
    · show Hs P S _ (Rn.atN P ⟨_, _, s.places ++ [k]⟩ j) ((s.things ++ [Vl.none]).getD j Vl.none)
      rcases Nat.lt_or_ge j s.things.length with g | g
      · have e1 : (s.things ++ [Vl.none]).getD j .none = s.things.getD j .none := by
          rw [List.getD_eq_getElem?_getD, List.getElem?_append_left g, ← List.getD_eq_getElem?_getD]
        have e2 : Rn.atN P ⟨(s.set x.x (.thing s.things.length)).vars, s.things ++ [Vl.none], s.places ++ [k]⟩ j = s.atN P j := oN_new h.ok k (v := .thing j) g
        rw [e1, e2]
        exact (h.things j).same (oN_new h.ok k (Ok_getT h.ok j))
      · have e1 : (s.things ++ [Vl.none]).getD j .none = .none := by
          rw [List.getD_eq_getElem?_getD, List.getElem?_append_right g]
          cases j - s.things.length <;> rfl
        rw [e1]; exact Hs.none
  | false =>
  cases h6 : x.isK kFun with
  | true =>
    have hy := hg.yf h6
    refine h.set x.x (show x.y.toNat < P.funs.length by omega) fun _ => ?_
    have := hc.fn hk h6
    show ((P.nodesV + x.y.toNat : Nat) : Int) ∈ _
    rw [show ((P.nodesV + x.y.toNat : Nat) : Int) = (P.nodesV : Int) + x.y by omega]; exact this
  | false =>
  cases h7 : x.isK kCall with
  | false => exact h
  | true =>
    simp only [cond_true, cond_false]
    unfold Rn.call
    have hh := Hs.at h x.y
    have hi := h.ok.at x.y
    generalize s.at x.y = c at *
    cases c with
    | none => exact h
    | var n => exact h
    | thing n => exact h
    | fn n =>
      have hn : n < P.funs.length := hi
      have ho := hh (by intro e; cases e)
      have hf := List.getElem?_eq_getElem hn
      obtain ⟨f, hfe⟩ : ∃ f, P.funs[n]? = some f := ⟨_, hf⟩
      simp only [hfe]
      unfold Rn.callF
      split
      case isFalse => exact h
      case isTrue hlen =>
        have hed : ∀ e ∈ calledV f ⟨bCall, x.y, x.x, 0, x.args⟩, ∀ n ∈ S.getD e.1.toNat [], n ∈ S.getD e.2.toNat [] := fun e he => hc.sedge hx (sedge_call h7 hfe ho he)
        unfold calledV at hed
        rw [if_pos hlen] at hed
        have hgv : Sound P S (s.give f.params (x.args.map s.at)) := by
          refine Sound.give _ _ h (fun v hv => ?_) fun i p v hp hv => ?_
          · obtain ⟨a, _, rfl⟩ := List.mem_map.1 hv
            exact h.ok.at a
          · rw [List.getElem?_map] at hv
            cases ha : x.args[i]? with
            | none => rw [ha] at hv; cases hv
            | some a =>
              rw [ha] at hv
              obtain rfl := Option.some.inj hv
              exact (Hs.at h a).to (hed (a, p) (List.mem_cons_of_mem _ (List.mem_of_getElem? (List.getElem?_zip_eq_some.2 ⟨ha, hp⟩))))
        exact hgv.set x.x (hgv.ok.at _) ((Hs.at hgv f.ret).to (hed _ List.mem_cons_self))
theorem Sound.foldl {P : PP} {S : List (List Int)} (hw : P.Well) (hc : ClosedP P S) : ∀ (l : List Nat) (s : Rn), Sound P S s → Sound P S (l.foldl (Rn.step P) s)
  | [], _, h => h
  | k :: l, s, h => by
    refine Sound.foldl hw hc l _ ?_
    unfold Rn.step
    cases hk : P.stmts[k]? with
    | none => exact h
    | some x => exact h.stmt hw hc hk
/-- Whatever a run does, what it has is in the answer. -/
theorem Sound.run {P : PP} {S : List (List Int)} (hw : P.Well) (hc : ClosedP P S) (l : List Nat) : Sound P S (Rn.run P l) := Sound.foldl hw hc l _ (Sound.begin P S)
theorem none_kind : Vl.none.kind.toList = vkNone := by decide +kernel
theorem var_kind (n : Nat) : (Vl.var n).kind.toList = vkVar := by
  rw [show (Vl.var n).kind = ⟨#[118, 97, 114]⟩ from rfl]; decide +kernel
theorem thing_kind1 (n : Nat) : (Vl.thing n).kind.toList = vkThing := by
  rw [show (Vl.thing n).kind = ⟨#[116, 104, 105, 110, 103]⟩ from rfl]; decide +kernel
theorem fn_kind (n : Nat) : (Vl.fn n).kind.toList = vkFun := by
  rw [show (Vl.fn n).kind = ⟨#[102, 117, 110]⟩ from rfl]; decide +kernel
/-- The object of a value, as it is told. -/
theorem objV_of {P : PP} {S : List (List Int)} {s : Rn} (h : Sound P S s) {v : Vl} (hv : v.In P.vars.length s.things.length P.funs.length) : P.objV s.pl v.kind.toList (v.num : Int) = if v.kind.toList = vkNone then -1 else ((s.oN P v : Nat) : Int) := by
  cases v with
  | none => rw [none_kind, if_pos rfl]; rfl
  | var n =>
    have hn : n < P.vars.length := hv
    rw [var_kind, if_neg (by decide)]
    show (if 0 ≤ (n : Int) ∧ (n : Int) < P.vars.length then (n : Int) else -1) = _
    rw [if_pos (by omega)]; rfl
  | fn n =>
    have hn : n < P.funs.length := hv
    rw [fn_kind, if_neg (by decide)]
    show (if 0 ≤ (n : Int) ∧ (n : Int) < P.funs.length then (P.nodesV : Int) + n else -1) = _
    rw [if_pos (by omega)]
    show _ = ((P.nodesV + n : Nat) : Int)
    omega
  | thing n =>
    have hn : n < s.things.length := hv
    have hl : n < s.places.length := by rw [h.ok.lp]; exact hn
    have hp := List.getElem?_eq_getElem hl
    obtain ⟨g1, g2⟩ := h.pl n _ hp
    have hpl : s.pl.getD n 0 = ((s.places[n]'hl : Nat) : Int) := by
      unfold Rn.pl
      rw [List.getD_eq_getElem?_getD, List.getElem?_map, hp]; rfl
    have hpl2 : s.places.getD n 0 = s.places[n]'hl := by rw [List.getD_eq_getElem?_getD, hp]; rfl
    have hpll : s.pl.length = s.places.length := by unfold Rn.pl; rw [List.length_map]
    rw [thing_kind1, if_neg (by decide)]
    show (if 0 ≤ (n : Int) ∧ (n : Int) < s.pl.length then P.placeV (s.pl.getD ((n : Int)).toNat 0) else -1) = _
    rw [if_pos (by omega), Int.toNat_natCast, hpl]
    unfold PP.placeV
    rw [if_pos ⟨by omega, by omega, by rw [Int.toNat_natCast]; exact g2⟩, Int.toNat_natCast]
    show _ = ((P.vars.length + P.newsN (s.places.getD n 0) : Nat) : Int)
    rw [hpl2]
end Go.Proofs.YtoaoienfggjepaaGreatDoor



/- run.Object. -/
namespace Go.Proofs.YtoaoienfggjepaaGreatDoor
set_option linter.unusedSimpArgs false
set_option linter.unusedVariables false
open Go Go.RowKit

set_option maxRecDepth 100000 in
set_option maxHeartbeats 800000 in
theorem runobjectc_any (n len : Int) (b : Bool) (hb : (decide (0 ≤ n) && decide (n < len)) = b) (g : Nat) (w : World) (h : w.cell? ⟨g, 1, none⟩ = some (.int .i64 n)) :
    Calls Tryz.prog 71 #[.int .i64 len, .pointer (some ⟨g, 0, none⟩)] w fun e w' => e = .returned (.bool b) ∧ w' = w := by
  go_enter Tryz.func71, Tryz.ntmps71
  by_cases hn : 0 ≤ n
  · by_cases hn2 : n < len
    · obtain rfl : b = true := by rw [← hb, decide_eq_true hn, decide_eq_true hn2]; rfl
      clear hb
      go_wp2
      go_ret
      exact ⟨rfl, rfl⟩
    · obtain rfl : b = false := by rw [← hb, decide_eq_true hn, decide_eq_false hn2]; rfl
      clear hb
      go_wp2
      go_ret
      exact ⟨rfl, rfl⟩
  · obtain rfl : b = false := by rw [← hb, decide_eq_false hn]; rfl
    clear hb
    go_wp2
    go_ret
    exact ⟨rfl, rfl⟩

theorem and_no {n L : Int} (hn : ¬ (0 ≤ n ∧ n < L)) : (decide (0 ≤ n) && decide (n < L)) = false := by
  by_cases h0 : 0 ≤ n
  · rw [decide_eq_false (fun h => hn ⟨h0, h⟩), Bool.and_false]
  · rw [decide_eq_false h0, Bool.false_and]
theorem and_yes {n L : Int} (hn : 0 ≤ n ∧ n < L) : (decide (0 ≤ n) && decide (n < L)) = true := by
  rw [decide_eq_true hn.1, decide_eq_true hn.2]; rfl
set_option maxRecDepth 100000 in
set_option maxHeartbeats 6400000 in
theorem runobject_any (a1 a2 a3 : Option Addr) (c1 c2 c3 : Nat) (P : PP) (kd : ByteArray) (n : Int) (s : Rn) (w : World) (n0 : Nat) (vv tv pv : Value) (ad : Nat → Addr) (hE : ErrsP w ad) (hR : RnRows w n0 vv tv pv s) (hP : ProgR w n0 (.slice a1 P.vars.length c1) (.slice a2 P.funs.length c2) (.slice a3 P.stmts.length c3) P)
    (hz1 : ∀ s ∈ P.vars, s.size ≤ 1000000) (hz2 : ∀ s ∈ P.names, s.size ≤ 1000000) (hw : P.Well) (hpl : s.places.length ≤ 100000) :
    Calls Tryz.prog 28 #[pval a1 a2 a3 c1 c2 c3 P, .agg #[vv, tv, pv], .agg #[.string kd, .int .i64 n]] w fun e w' => e = .returned (.int .i64 (P.objV s.pl kd.toList n)) ∧ Ext w w' := by
  have hlen : s.pl.length = s.places.length := by simp [Rn.pl]
  obtain ⟨va, vc, rfl⟩ := row_form hR.vars
  obtain ⟨ta, tc, rfl⟩ := row_form hR.things
  obtain ⟨pa, pc, rfl⟩ := row_form hR.places
  have hfew := hw.few
  obtain ⟨W1, hW1⟩ : ∃ W1, W1 = w.alloc (.cells (pcells a1 a2 a3 c1 c2 c3 P) 39) := ⟨_, rfl⟩
  have hx1 : Ext w W1 := by rw [hW1]; exact (Ext.refl _).alloc _
  obtain ⟨W2, hW2⟩ : ∃ W2, W2 = W1.alloc (.cells #[.slice va s.vars.length vc, .slice ta s.things.length tc, .slice pa s.places.length pc] 52) := ⟨_, rfl⟩
  have hx2 : Ext W1 W2 := by rw [hW2]; exact (Ext.refl _).alloc _
  obtain ⟨W3, hW3⟩ : ∃ W3, W3 = W2.alloc (.cells #[.string kd, .int .i64 n] 57) := ⟨_, rfl⟩
  have hx3 : Ext W2 W3 := by rw [hW3]; exact (Ext.refl _).alloc _
  have HX := hid ((hx1.trans hx2).trans hx3)
  have hs1 : W1.heap.size = w.heap.size + 1 := by rw [hW1, heap_size_alloc]
  have hs2 : W2.heap.size = w.heap.size + 2 := by rw [hW2, heap_size_alloc, hs1]
  have HB1 : Hid (Blk W3 w.heap.size (pcells a1 a2 a3 c1 c2 c3 P) 39) := hid (by
    have : Blk W1 w.heap.size (pcells a1 a2 a3 c1 c2 c3 P) 39 := by rw [hW1]; exact Blk.new _ _ _
    exact this.ext (hx2.trans hx3))
  have HB2 : Hid (Blk W3 (w.heap.size + 1) #[.slice va s.vars.length vc, .slice ta s.things.length tc, .slice pa s.places.length pc] 52) := hid (by
    have : Blk W2 (w.heap.size + 1) #[.slice va s.vars.length vc, .slice ta s.things.length tc, .slice pa s.places.length pc] 52 := by rw [← hs1, hW2]; exact Blk.new _ _ _
    exact this.ext hx3)
  have HB3 : Hid (Blk W3 (w.heap.size + 2) #[.string kd, .int .i64 n] 57) := hid (by
    rw [← hs2, hW3]; exact Blk.new _ _ _)
  have HWe : Hid (W3 = ((w.alloc (.cells #[.slice a1 P.vars.length c1, .slice a2 P.funs.length c2, .slice a3 P.stmts.length c3] 39)).alloc (.cells #[.slice va s.vars.length vc, .slice ta s.things.length tc, .slice pa s.places.length pc] 52)).alloc (.cells #[.string kd, .int .i64 n] 57)) := hid (by rw [hW3, hW2, hW1]; rfl)
  have HR := hid (own_ext hR.places HX.out)
  have HPl := fun p w1 (x : Ext w w1) => hid (progplace_any a1 a2 a3 c1 c2 c3 P p w1 n0 ad (hE.ext x) (hP.ext x) hz1 hz2 hw)
  have HNo := fun w1 (x : Ext w w1) => hid (prognodes_any a1 a2 a3 c1 c2 c3 P w1 n0 ad (hE.ext x) (hP.ext x) hz1 hz2 hw)
  have HK := hid (check_well (hE.ext HX.out) (hP.ext HX.out) hz1 hz2 hw)
  have hnl := P.nodesV_le
  unfold pval at HPl HNo HK ⊢
  clear hW1 hW2 hW3 hx1 hx2 hx3 hs1 hs2 hP hE hz1 hz2 hw
  cases h1 : (kd.toList == [118, 97, 114]) with
  | true =>
    have h2 : (kd.toList == [116, 104, 105, 110, 103]) = false := by rw [eq_of_beq h1]; rfl
    have h3 : (kd.toList == [102, 117, 110]) = false := by rw [eq_of_beq h1]; rfl
    by_cases hn : 0 ≤ n ∧ n < P.vars.length
    · have Hr := hid (show P.objV s.pl kd.toList n = n by unfold PP.objV vkVar; rw [h1, cond_true, if_pos hn])
      have Hn := hid hn
      clear hn
      clear hR
      go_enter Tryz.func28, Tryz.ntmps28
      go_wp2_with fail
      rw [← HWe.out]
      refine HK.out.mono ?_
      intro e w1 hx
      obtain ⟨rfl, hx1⟩ := hx
      have X1 := hid (HX.out.trans hx1)
      have B1 := hid (HB1.out.ext hx1)
      have B2 := hid (HB2.out.ext hx1)
      have B3 := hid (HB3.out.ext hx1)
      have R1 := hid (own_ext HR.out hx1)
      have b0 := B1.out.av 0 rfl
      have b1 := B1.out.av 1 rfl
      have b2 := B1.out.av 2 rfl
      have s2 := B2.out.av 2 rfl
      have m0 := B3.out.av 0 rfl
      have m1 := B3.out.av 1 rfl
      simp only [pcells, List.getElem_toArray, List.getElem_cons_zero, List.getElem_cons_succ] at b0 b1 b2 s2 m0 m1
      clear HK hx1 HB1 HB2 HB3 HR HWe HX
      have HC := hid (runobjectc_any _ (P.vars.length : Int) true (and_yes Hn.out) (w.heap.size + 2) w1 m1)
      go_wp2_with fail
      refine HC.out.mono ?_
      intro e w2 hx
      obtain ⟨rfl, rfl⟩ := hx
      clear HC
      go_wp2
      go_ret
      exact ⟨by rw [Hr.out]; rfl, X1.out⟩
    · have Hr := hid (show P.objV s.pl kd.toList n = -1 by unfold PP.objV vkVar; rw [h1, cond_true, if_neg hn])
      have Hn := hid hn
      clear hn
      clear hR
      go_enter Tryz.func28, Tryz.ntmps28
      go_wp2_with fail
      rw [← HWe.out]
      refine HK.out.mono ?_
      intro e w1 hx
      obtain ⟨rfl, hx1⟩ := hx
      have X1 := hid (HX.out.trans hx1)
      have B1 := hid (HB1.out.ext hx1)
      have B2 := hid (HB2.out.ext hx1)
      have B3 := hid (HB3.out.ext hx1)
      have R1 := hid (own_ext HR.out hx1)
      have b0 := B1.out.av 0 rfl
      have b1 := B1.out.av 1 rfl
      have b2 := B1.out.av 2 rfl
      have s2 := B2.out.av 2 rfl
      have m0 := B3.out.av 0 rfl
      have m1 := B3.out.av 1 rfl
      simp only [pcells, List.getElem_toArray, List.getElem_cons_zero, List.getElem_cons_succ] at b0 b1 b2 s2 m0 m1
      clear HK hx1 HB1 HB2 HB3 HR HWe HX
      have HC := hid (runobjectc_any _ (P.vars.length : Int) false (and_no Hn.out) (w.heap.size + 2) w1 m1)
      go_wp2_with fail
      refine HC.out.mono ?_
      intro e w2 hx
      obtain ⟨rfl, rfl⟩ := hx
      clear HC
      go_wp2
      go_ret
      exact ⟨by rw [Hr.out]; rfl, X1.out⟩
  | false =>
    cases h2 : (kd.toList == [116, 104, 105, 110, 103]) with
    | true =>
      have h3 : (kd.toList == [102, 117, 110]) = false := by rw [eq_of_beq h2]; rfl
      by_cases hn : 0 ≤ n ∧ n < s.places.length
      · obtain ⟨N, rfl⟩ := Int.eq_ofNat_of_zero_le hn.1
        have hN : N < s.pl.length := by omega
        obtain ⟨q, hq⟩ : ∃ q, s.pl[N]? = some q := ⟨_, List.getElem?_eq_getElem hN⟩
        have Hr := hid (show P.objV s.pl kd.toList (N : Int) = P.placeV q by unfold PP.objV vkVar vkThing; rw [h1, cond_false, h2, cond_true, if_pos ⟨hn.1, by omega⟩, Int.toNat_natCast, List.getD_eq_getElem?_getD, hq]; rfl)
        obtain ⟨g, cap, hg⟩ := own_some hR.places (by omega)
        simp only [Value.slice.injEq] at hg
        obtain ⟨rfl, _, rfl⟩ := hg
        have hcp := own_get hR.places N (u := .int .i64 q) (by unfold icells; rw [List.getElem?_map, hq]; rfl)
        have Hcp := hid (fun wx (x : Ext w wx) => x.cellx hcp)
        have hN3 : N < s.places.length := by omega
        have Hn := hid hn
        clear hq hN hn hcp
        clear hR
        go_enter Tryz.func28, Tryz.ntmps28
        go_wp2_with fail
        rw [← HWe.out]
        refine HK.out.mono ?_
        intro e w1 hx
        obtain ⟨rfl, hx1⟩ := hx
        have X1 := hid (HX.out.trans hx1)
        have B1 := hid (HB1.out.ext hx1)
        have B2 := hid (HB2.out.ext hx1)
        have B3 := hid (HB3.out.ext hx1)
        have R1 := hid (own_ext HR.out hx1)
        have b0 := B1.out.av 0 rfl
        have b1 := B1.out.av 1 rfl
        have b2 := B1.out.av 2 rfl
        have s2 := B2.out.av 2 rfl
        have m0 := B3.out.av 0 rfl
        have m1 := B3.out.av 1 rfl
        simp only [pcells, List.getElem_toArray, List.getElem_cons_zero, List.getElem_cons_succ] at b0 b1 b2 s2 m0 m1
        clear HK hx1 HB1 HB2 HB3 HR HWe HX
        have HC := hid (runobjectc_any _ (s.places.length : Int) true (and_yes Hn.out) (w.heap.size + 2) w1 m1)
        go_wp2_with fail
        refine HC.out.mono ?_
        intro e w2 hx
        obtain ⟨rfl, rfl⟩ := hx
        clear HC
        clear b0 b1 b2 s2 m0 m1
        go_wp2
        have b0 := B1.out.kc (X := fun _ => False) (fun e => e) 0 rfl
        have b1 := B1.out.kc (X := fun _ => False) (fun e => e) 1 rfl
        have b2 := B1.out.kc (X := fun _ => False) (fun e => e) 2 rfl
        have s2 := B2.out.kc (X := fun _ => False) (fun e => e) 2 rfl
        have m1 := B3.out.kc (X := fun _ => False) (fun e => e) 1 rfl
        simp only [pcells, List.getElem_toArray, List.getElem_cons_zero, List.getElem_cons_succ] at b0 b1 b2 s2 m1
        have r0 : ∀ wx, Keep (fun _ => False) w2 wx → wx.cell? ⟨g, N, none⟩ = some (.int .i64 q) := fun wx k => k.ext.cellx (Hcp.out w2 X1.out)
        refine wp_flowT (fun _ => False) (by kernel_rfl) (by kernel_rfl) ?_
        repeat (apply FlowT.d; (intro w1 hk; unfold does; go_simp; (try go_ints); (first | exact DetR.mk | (simp only [↓IntWalk.iteOmega, Oper.doesUpon_value]; exact DetR.mk) | (simp only [↓IntWalk.iteOmega]; go_simp; (try go_ints); exact DetR.mk))); simp only [Act.put, List.setIfInBounds_toArray, List.set_cons_zero, List.set_cons_succ])
        apply FlowT.d
        · intro w1 hk
          unfold does
          go_simp
          exact CallR.det ((HPl q w1 (X1.out.trans hk.ext)).out)
        simp only [Act.put, List.setIfInBounds_toArray, List.set_cons_zero, List.set_cons_succ]
        repeat (apply FlowT.d; (intro w1 hk; unfold does; go_simp; (try go_ints); (first | exact DetR.mk | (simp only [↓IntWalk.iteOmega, Oper.doesUpon_value]; exact DetR.mk) | (simp only [↓IntWalk.iteOmega]; go_simp; (try go_ints); exact DetR.mk))); simp only [Act.put, List.setIfInBounds_toArray, List.set_cons_zero, List.set_cons_succ])
        refine FlowT.fin fun w3 hx3 hk3 => ?_
        have X3 := hid (X1.out.trans hk3.ext)
        clear hk3 hx3 b0 b1 b2 s2 m1 r0
        go_wp2
        go_ret
        exact ⟨by rw [Hr.out]; rfl, X3.out⟩
      · have Hr := hid (show P.objV s.pl kd.toList n = -1 by unfold PP.objV vkVar vkThing; rw [h1, cond_false, h2, cond_true, if_neg (by rw [hlen]; exact hn)])
        have Hn := hid hn
        clear hn
        clear hR
        go_enter Tryz.func28, Tryz.ntmps28
        go_wp2_with fail
        rw [← HWe.out]
        refine HK.out.mono ?_
        intro e w1 hx
        obtain ⟨rfl, hx1⟩ := hx
        have X1 := hid (HX.out.trans hx1)
        have B1 := hid (HB1.out.ext hx1)
        have B2 := hid (HB2.out.ext hx1)
        have B3 := hid (HB3.out.ext hx1)
        have R1 := hid (own_ext HR.out hx1)
        have b0 := B1.out.av 0 rfl
        have b1 := B1.out.av 1 rfl
        have b2 := B1.out.av 2 rfl
        have s2 := B2.out.av 2 rfl
        have m0 := B3.out.av 0 rfl
        have m1 := B3.out.av 1 rfl
        simp only [pcells, List.getElem_toArray, List.getElem_cons_zero, List.getElem_cons_succ] at b0 b1 b2 s2 m0 m1
        clear HK hx1 HB1 HB2 HB3 HR HWe HX
        have HC := hid (runobjectc_any _ (s.places.length : Int) false (and_no Hn.out) (w.heap.size + 2) w1 m1)
        go_wp2_with fail
        refine HC.out.mono ?_
        intro e w2 hx
        obtain ⟨rfl, rfl⟩ := hx
        clear HC
        go_wp2
        go_ret
        exact ⟨by rw [Hr.out]; rfl, X1.out⟩
    | false =>
      cases h3 : (kd.toList == [102, 117, 110]) with
      | true =>
        by_cases hn : 0 ≤ n ∧ n < P.funs.length
        · have Hr := hid (show P.objV s.pl kd.toList n = (P.nodesV : Int) + n by unfold PP.objV vkVar vkThing vkFun; rw [h1, cond_false, h2, cond_false, h3, cond_true, if_pos hn])
          have Hn := hid hn
          obtain ⟨hn1, hn2⟩ := hn
          clear hR
          go_enter Tryz.func28, Tryz.ntmps28
          go_wp2_with fail
          rw [← HWe.out]
          refine HK.out.mono ?_
          intro e w1 hx
          obtain ⟨rfl, hx1⟩ := hx
          have X1 := hid (HX.out.trans hx1)
          have B1 := hid (HB1.out.ext hx1)
          have B2 := hid (HB2.out.ext hx1)
          have B3 := hid (HB3.out.ext hx1)
          have R1 := hid (own_ext HR.out hx1)
          have b0 := B1.out.av 0 rfl
          have b1 := B1.out.av 1 rfl
          have b2 := B1.out.av 2 rfl
          have s2 := B2.out.av 2 rfl
          have m0 := B3.out.av 0 rfl
          have m1 := B3.out.av 1 rfl
          simp only [pcells, List.getElem_toArray, List.getElem_cons_zero, List.getElem_cons_succ] at b0 b1 b2 s2 m0 m1
          clear HK hx1 HB1 HB2 HB3 HR HWe HX
          have HC := hid (runobjectc_any _ (P.funs.length : Int) true (and_yes Hn.out) (w.heap.size + 2) w1 m1)
          go_wp2_with fail
          refine HC.out.mono ?_
          intro e w2 hx
          obtain ⟨rfl, rfl⟩ := hx
          clear HC
          clear b0 b1 b2 s2 m0 m1
          go_wp2
          have b0 := B1.out.kc (X := fun _ => False) (fun e => e) 0 rfl
          have b1 := B1.out.kc (X := fun _ => False) (fun e => e) 1 rfl
          have b2 := B1.out.kc (X := fun _ => False) (fun e => e) 2 rfl
          have s2 := B2.out.kc (X := fun _ => False) (fun e => e) 2 rfl
          have m1 := B3.out.kc (X := fun _ => False) (fun e => e) 1 rfl
          simp only [pcells, List.getElem_toArray, List.getElem_cons_zero, List.getElem_cons_succ] at b0 b1 b2 s2 m1
          refine wp_flowT (fun _ => False) (by kernel_rfl) (by kernel_rfl) ?_
          repeat (apply FlowT.d; (intro w1 hk; unfold does; go_simp; (try go_ints); (first | exact DetR.mk | (simp only [↓IntWalk.iteOmega, Oper.doesUpon_value]; exact DetR.mk) | (simp only [↓IntWalk.iteOmega]; go_simp; (try go_ints); exact DetR.mk))); simp only [Act.put, List.setIfInBounds_toArray, List.set_cons_zero, List.set_cons_succ])
          apply FlowT.d
          · intro w1 hk
            unfold does
            go_simp
            exact CallR.det ((HNo w1 (X1.out.trans hk.ext)).out)
          simp only [Act.put, List.setIfInBounds_toArray, List.set_cons_zero, List.set_cons_succ]
          repeat (apply FlowT.d; (intro w1 hk; unfold does; go_simp; (try go_ints); (first | exact DetR.mk | (simp only [↓IntWalk.iteOmega, Oper.doesUpon_value]; exact DetR.mk) | (simp only [↓IntWalk.iteOmega]; go_simp; (try go_ints); exact DetR.mk))); simp only [Act.put, List.setIfInBounds_toArray, List.set_cons_zero, List.set_cons_succ])
          refine FlowT.fin fun w3 hx3 hk3 => ?_
          have X3 := hid (X1.out.trans hk3.ext)
          clear hk3 hx3 b0 b1 b2 s2 m1
          go_wp2
          go_ret
          exact ⟨by rw [Hr.out]; rfl, X3.out⟩
        · have Hr := hid (show P.objV s.pl kd.toList n = -1 by unfold PP.objV vkVar vkThing vkFun; rw [h1, cond_false, h2, cond_false, h3, cond_true, if_neg hn])
          have Hn := hid hn
          clear hn
          clear hR
          go_enter Tryz.func28, Tryz.ntmps28
          go_wp2_with fail
          rw [← HWe.out]
          refine HK.out.mono ?_
          intro e w1 hx
          obtain ⟨rfl, hx1⟩ := hx
          have X1 := hid (HX.out.trans hx1)
          have B1 := hid (HB1.out.ext hx1)
          have B2 := hid (HB2.out.ext hx1)
          have B3 := hid (HB3.out.ext hx1)
          have R1 := hid (own_ext HR.out hx1)
          have b0 := B1.out.av 0 rfl
          have b1 := B1.out.av 1 rfl
          have b2 := B1.out.av 2 rfl
          have s2 := B2.out.av 2 rfl
          have m0 := B3.out.av 0 rfl
          have m1 := B3.out.av 1 rfl
          simp only [pcells, List.getElem_toArray, List.getElem_cons_zero, List.getElem_cons_succ] at b0 b1 b2 s2 m0 m1
          clear HK hx1 HB1 HB2 HB3 HR HWe HX
          have HC := hid (runobjectc_any _ (P.funs.length : Int) false (and_no Hn.out) (w.heap.size + 2) w1 m1)
          go_wp2_with fail
          refine HC.out.mono ?_
          intro e w2 hx
          obtain ⟨rfl, rfl⟩ := hx
          clear HC
          go_wp2
          go_ret
          exact ⟨by rw [Hr.out]; rfl, X1.out⟩
      | false =>
        have Hr := hid (show P.objV s.pl kd.toList n = -1 by unfold PP.objV vkVar vkThing vkFun; rw [h1, cond_false, h2, cond_false, h3]; rfl)
        clear hR
        go_enter Tryz.func28, Tryz.ntmps28
        go_wp2_with fail
        rw [← HWe.out]
        refine HK.out.mono ?_
        intro e w1 hx
        obtain ⟨rfl, hx1⟩ := hx
        have X1 := hid (HX.out.trans hx1)
        have B1 := hid (HB1.out.ext hx1)
        have B2 := hid (HB2.out.ext hx1)
        have B3 := hid (HB3.out.ext hx1)
        have R1 := hid (own_ext HR.out hx1)
        have b0 := B1.out.av 0 rfl
        have b1 := B1.out.av 1 rfl
        have b2 := B1.out.av 2 rfl
        have s2 := B2.out.av 2 rfl
        have m0 := B3.out.av 0 rfl
        have m1 := B3.out.av 1 rfl
        simp only [pcells, List.getElem_toArray, List.getElem_cons_zero, List.getElem_cons_succ] at b0 b1 b2 s2 m0 m1
        clear HK hx1 HB1 HB2 HB3 HR HWe HX
        go_wp2
        go_ret
        exact ⟨by rw [Hr.out]; rfl, X1.out⟩
end Go.Proofs.YtoaoienfggjepaaGreatDoor



/- sameState. -/
namespace Go.Proofs.YtoaoienfggjepaaGreatDoor
set_option linter.unusedSimpArgs false
set_option linter.unusedVariables false
open Go Go.RowKit

end Go.Proofs.YtoaoienfggjepaaGreatDoor

