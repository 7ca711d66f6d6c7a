/- Texts of one proof, put together: E2 ZL ZM ZN ZO ZP ZT ZZWa ZZWb MQ MR ZQ ZR X5 Z5 X3 X6 ZS ZU ZV ZZWc ZZWd ZZWe T3 T4. -/
import Derived.Test.YtngdpnlgnpdkcaaGreatDoorHWC02
import Derived.Test.YtngdpnlgnpdkcaaGreatDoorHWC03
import Derived.Test.YtngdpnlgnpdkcaaGreatDoorHWC04
import Derived.Maps.Keyed
import Derived.DeepKeys4
import Derived.Test.YtngdpnlgnpdkcaaGreatDoorHWC01
set_option linter.unusedSimpArgs false
set_option linter.unusedVariables false
namespace Go.Proofs.YtngdpnlgnpdkcaaGreatDoor
open Go Go.RowKit
def PP.iterV (P : PP) : Nat → List (List Int)
 | 0 => List.replicate P.nodesV []
 | n + 1 => P.roundV (P.iterV n)
theorem iterV_good {P : PP} (hw : P.Well) : ∀ n, P.GoodS (P.iterV n)
 | 0 => ⟨hw, by simp [PP.iterV], fun l hl => by
  obtain rfl := List.eq_of_mem_replicate hl
  exact setE_of (by decide) fun x hx => by cases hx⟩
 | n + 1 => roundV_good (iterV_good hw n)
theorem roundV_sub {P : PP} {has : List (List Int)} (hg : P.GoodS has) : Sub has (P.roundV has) := fun i x hx => by
 by_cases hi : i < has.length
 ·exact (mem_roundV hg hi).2 (.inl hx)
 ·rw [List.getD_eq_getElem?_getD, List.getElem?_eq_none (by omega)] at hx
  cases hx
theorem closed_of_round {P : PP} {has : List (List Int)} (hg : P.GoodS has) (h : P.roundV has = has) : ClosedP P has := by
 refine ⟨fun k hk hb => ?_, fun e he hne n hn => ?_⟩
 ·have ha := rule_a_in hg.1 hk
  have hnv := nodes_vars P
  have hl := hg.2.1
  have hm : (P.ruleV k (P.stAt k)).b ∈ (P.roundV has).getD (P.ruleV k (P.stAt k)).a.toNat [] := (mem_roundV hg (by omega)).2 (.inr (.inl ⟨k, hk, hb, by omega, rfl⟩))
  rwa [h] at hm
 ·obtain ⟨h1, h2, h3, h4⟩ := edges0_in hg.1 hg.ok e he
  have hl := hg.2.1
  obtain ⟨i, hi⟩ := List.mem_iff_getElem?.1 (((edgesL_are hg).mem e).2 ⟨he, hne⟩)
  have hil : i < (P.edgesL has).length := by
   rcases Nat.lt_or_ge i (P.edgesL has).length with g | g
   ·exact g
   ·rw [List.getElem?_eq_none g] at hi; cases hi
  have hm : n ∈ (P.roundV has).getD e.2.toNat [] := (mem_roundV hg (by omega)).2 (.inr (.inr ⟨i, e, hil, hi, by omega, hn⟩))
  rwa [h] at hm
theorem round_within {P : PP} {has ans : List (List Int)} (hg : P.GoodS has) (ga : P.GoodS ans) (hc : ClosedP P ans) (hs : Sub has ans) : Sub (P.roundV has) ans := fun i x hx => by
 by_cases hi : i < has.length
 ·rcases (mem_roundV hg hi).1 hx with h | ⟨j, hj, h1, h2, h3⟩ | ⟨q, e, _, he, h2, h3⟩
  ·exact hs i x h
  ·have := hc.base j hj h1
   rw [h2, h3, Int.toNat_natCast] at this
   exact this
  ·have h0 := ((edgesL_are hg).mem e).1 (List.mem_of_getElem? he)
   have h5 := hc.edge e (edges0_mono hs e h0.1) h0.2 x (hs _ _ h3)
   rw [h2, Int.toNat_natCast] at h5
   exact h5
 ·rw [List.getD_eq_getElem?_getD, List.getElem?_eq_none (by rw [roundV_len]; omega)] at hx
  cases hx
theorem iter_within {P : PP} {ans : List (List Int)} (ga : P.GoodS ans) (hc : ClosedP P ans) : ∀ n, Sub (P.iterV n) ans
 | 0 => fun i x hx => by
  rw [List.getD_eq_getElem?_getD] at hx
  unfold PP.iterV at hx
  rw [List.getElem?_replicate] at hx
  split at hx <;> cases hx
 | n + 1 => round_within (iterV_good ga.1 n) ga hc (iter_within ga hc n)
def total (S : List (List Int)) : Nat := (S.map List.length).sum
theorem srt_len : ∀ {a b : List Int}, Srt a → Srt b → (∀ x, x ∈ a → x ∈ b) → a.length ≤ b.length ∧ (a.length = b.length → a = b)
 | [], b, _, _, _ => ⟨Nat.zero_le _, fun h => (List.eq_nil_of_length_eq_zero h.symm).symm⟩
 | x :: a, b, ha, hb, h => by
  obtain ⟨s, t, rfl⟩ := List.append_of_mem (h x List.mem_cons_self)
  have hb' := List.pairwise_append.1 hb
  have hbt := List.pairwise_cons.1 hb'.2.1
  have ih := srt_len ha.tail hbt.2 fun e he => by
   have hlt := ha.head e he
   rcases List.mem_append.1 (h e (List.mem_cons_of_mem _ he)) with g | g
   ·have := hb'.2.2 e g x List.mem_cons_self
    omega
   ·rcases List.mem_cons.1 g with g | g
    ·omega
    ·exact g
  rw [List.length_append, List.length_cons, List.length_cons]
  refine ⟨by omega, fun hl => ?_⟩
  have hs : s = [] := List.eq_nil_of_length_eq_zero (by omega)
  subst hs
  rw [List.nil_append, ih.2 (by simp at hl; omega)]
theorem total_sub : ∀ {S T : List (List Int)}, S.length = T.length → (∀ l ∈ S, Srt l) → (∀ l ∈ T, Srt l) → (∀ i x, x ∈ S.getD i [] → x ∈ T.getD i []) → total S ≤ total T ∧ (total S = total T → S = T)
 | [], [], _, _, _, _ => ⟨Nat.le_refl _, fun _ => rfl⟩
 | [], _ :: _, h, _, _, _ => by simp at h
 | _ :: _, [], h, _, _, _ => by simp at h
 | a :: S, b :: T, h, hs, ht, hm => by
  have h1 := srt_len (hs a List.mem_cons_self) (ht b List.mem_cons_self) fun x hx => by simpa using hm 0 x (by simpa using hx)
  have h2 := total_sub (S := S) (T := T) (by simpa using h) (fun l hl => hs l (List.mem_cons_of_mem _ hl)) (fun l hl => ht l (List.mem_cons_of_mem _ hl)) fun i x hx => by simpa using hm (i + 1) x (by simpa using hx)
  have e1 : total (a :: S) = a.length + total S := by unfold total; simp
  have e2 : total (b :: T) = b.length + total T := by unfold total; simp
  rw [e1, e2]
  refine ⟨by omega, fun he => ?_⟩
  rw [h1.2 (by omega), h2.2 (by omega)]
theorem total_few : ∀ {S : List (List Int)}, (∀ l ∈ S, l.length ≤ 1000) → total S ≤ S.length * 1000
 | [], _ => Nat.le_refl _
 | a :: S, h => by
  have h1 := h a List.mem_cons_self
  have h2 := total_few (S := S) fun l hl => h l (List.mem_cons_of_mem _ hl)
  have e1 : total (a :: S) = a.length + total S := by unfold total; simp
  rw [e1, List.length_cons]
  omega
theorem good_srt {P : PP} {has : List (List Int)} (hg : P.GoodS has) : ∀ l ∈ has, Srt l := fun l hl => (chkE_zero.1 (hg.ok.ok l hl).1).2
theorem iter_grows {P : PP} (hw : P.Well) (n : Nat) (h : P.iterV (n + 1) ≠ P.iterV n) : total (P.iterV n) + 1 ≤ total (P.iterV (n + 1)) := by
 have hg := iterV_good hw n
 have hg' := iterV_good hw (n + 1)
 have h1 := total_sub (S := P.iterV n) (T := P.iterV (n + 1)) (roundV_len P _).symm (good_srt hg) (good_srt hg') (roundV_sub hg)
 rcases Nat.lt_or_ge (total (P.iterV n)) (total (P.iterV (n + 1))) with g | g
 ·exact g
 ·exact absurd (h1.2 (by omega)).symm h
theorem iter_few {P : PP} (hw : P.Well) (n : Nat) : total (P.iterV n) ≤ 120000 := by
 have hg := iterV_good hw n
 have h1 := total_few (S := P.iterV n) fun l hl => srt_few (hg.ok.ok l hl).1
 have h2 := hg.2.1
 have h3 := nodesV_le P hw
 omega
structure LeastAt (P : PP) (n : Nat) (S : List (List Int)) : Prop where
 eq : S = P.iterV n
 fix : P.roundV S = S
 first : ∀ m, m < n → P.roundV (P.iterV m) ≠ P.iterV m
theorem LeastAt.uniq {P : PP} {n m : Nat} {S T : List (List Int)} (h : LeastAt P n S) (g : LeastAt P m T) : n = m ∧ S = T := by
 have hnm : n = m := by
  rcases Nat.lt_trichotomy n m with k | k | k
  ·exact absurd (by rw [← h.eq]; exact h.fix) (g.first n k)
  ·exact k
  ·exact absurd (by rw [← g.eq]; exact g.fix) (h.first m k)
 subst hnm
 exact ⟨rfl, h.eq.trans g.eq.symm⟩
theorem LeastAt.good {P : PP} (hw : P.Well) {n : Nat} {S : List (List Int)} (h : LeastAt P n S) : P.GoodS S := by rw [h.eq]; exact iterV_good hw n
theorem LeastAt.closed {P : PP} (hw : P.Well) {n : Nat} {S : List (List Int)} (h : LeastAt P n S) : ClosedP P S := closed_of_round (h.good hw) h.fix
theorem LeastAt.within {P : PP} {n : Nat} {S ans : List (List Int)} (h : LeastAt P n S) (ga : P.GoodS ans) (hc : ClosedP P ans) : Sub S ans := by rw [h.eq]; exact iter_within ga hc n
structure SV where
 has : List (List Bool)
 edges : List (Int × Int)
 rules : List RV
 wait : List (Int × Int)
def SV.bit (s : SV) (f : Int × Int) : Bool := (s.has.getD f.1.toNat []).getD f.2.toNat false
def SV.objs (s : SV) (n : Int) : List Int := ((List.range (s.has.getD n.toNat []).length).filter fun o => (s.has.getD n.toNat []).getD o false).map fun o : Nat => (o : Int)
def SV.succ (s : SV) (n : Int) : List Int := (s.edges.filter fun e => decide (e.1 = n)).map (·.2)
def SV.edge (s : SV) (e : Int × Int) : SV := if e.1 = e.2 ∨ e ∈ s.edges then s else { s with edges := s.edges ++ [e], wait := s.wait ++ (s.objs e.1).map fun o => (e.2, o) }
def PP.fires (P : PP) (r : RV) (o : Int) : List (Int × Int) :=
 bif r.kind.toList == kCall then P.callsOf r o else
 if (P.nodesV : Int) ≤ o then [] else bif r.kind.toList == kLoad then [(o, r.b)] else [(r.a, o)]
def RV.pivot (r : RV) : Int := bif r.kind.toList == kStore then r.b else r.a
def RV.fired (r : RV) : Bool := (r.kind.toList == kLoad) || (r.kind.toList == kStore) || (r.kind.toList == kCall)
def SV.fire (P : PP) (s : SV) (r : RV) (o : Int) : SV := (P.fires r o).foldl SV.edge s
def SV.add (P : PP) (s : SV) (r : RV) : SV :=
 bif r.kind.toList == bBase.toList then { s with rules := s.rules ++ [r], wait := s.wait ++ [(r.a, r.b)] } else
 bif r.kind.toList == kCopy then SV.edge { s with rules := s.rules ++ [r] } (r.a, r.b) else
 (s.objs r.pivot).foldl (fun s o => s.fire P r o) { s with rules := s.rules ++ [r] }
def SV.mark (s : SV) (f : Int × Int) : SV := { s with has := s.has.set f.1.toNat ((s.has.getD f.1.toNat []).set f.2.toNat true) }
def SV.came (P : PP) (s : SV) (f : Int × Int) : SV :=
 s.rules.foldl (fun s r => bif r.fired && decide (r.pivot = f.1) then s.fire P r f.2 else s) { s with wait := s.wait ++ (s.succ f.1).map fun t => (t, f.2) }
def SV.clean (s : SV) : SV := { s with wait := s.wait.dropWhile s.bit }
structure Core (P : PP) (S : List (List Int)) (s : SV) : Prop where
 len : s.has.length = P.nodesV
 row : ∀ l ∈ s.has, l.length = P.objectsV
 wait : ∀ f ∈ s.wait, (0 ≤ f.1 ∧ f.1 < P.nodesV) ∧ f.2 ∈ S.getD f.1.toNat []
 bit : ∀ f : Int × Int, s.bit f = true → 0 ≤ f.2 → f.2 ∈ S.getD f.1.toNat []
 edge : ∀ e ∈ s.edges, (0 ≤ e.1 ∧ e.1 < P.nodesV) ∧ (0 ≤ e.2 ∧ e.2 < P.nodesV) ∧ ∀ o ∈ S.getD e.1.toNat [], o ∈ S.getD e.2.toNat []
 along : ∀ e ∈ s.edges, ∀ o, 0 ≤ o → s.bit (e.1, o) = true → s.bit (e.2, o) = true ∨ (e.2, o) ∈ s.wait
 base : ∀ r ∈ s.rules, r.kind.toList = bBase.toList → s.bit (r.a, r.b) = true ∨ (r.a, r.b) ∈ s.wait
 copy : ∀ r ∈ s.rules, r.kind.toList = kCopy → r.a = r.b ∨ (r.a, r.b) ∈ s.edges
def SV.told (P : PP) (s : SV) (r : RV) (o : Int) : Prop := ∀ e ∈ P.fires r o, e.1 = e.2 ∨ e ∈ s.edges
def SndE (P : PP) (S : List (List Int)) (e : Int × Int) : Prop := (0 ≤ e.1 ∧ e.1 < P.nodesV) ∧ (0 ≤ e.2 ∧ e.2 < P.nodesV) ∧ ∀ o ∈ S.getD e.1.toNat [], o ∈ S.getD e.2.toNat []
theorem mem_objs {s : SV} {n o : Int} : o ∈ s.objs n ↔ 0 ≤ o ∧ s.bit (n, o) = true := by
 unfold SV.objs SV.bit
 rw [List.mem_map]
 constructor
 ·rintro ⟨k, hk, rfl⟩
  obtain ⟨h1, h2⟩ := List.mem_filter.1 hk
  exact ⟨by omega, by simpa using h2⟩
 ·rintro ⟨h0, h⟩
  obtain ⟨k, rfl⟩ := Int.eq_ofNat_of_zero_le h0
  refine ⟨k, List.mem_filter.2 ⟨List.mem_range.2 ?_, by simpa using h⟩, rfl⟩
  rcases Nat.lt_or_ge k (s.has.getD n.toNat []).length with g | g
  ·exact g
  ·have : (s.has.getD n.toNat []).getD k false = false := by rw [List.getD_eq_getElem?_getD, List.getElem?_eq_none g]; rfl
   simp only [Int.toNat_natCast] at h
   rw [this] at h; cases h
theorem edge_has (s : SV) (e : Int × Int) : (s.edge e).has = s.has := by unfold SV.edge; split <;> rfl
theorem edge_rules (s : SV) (e : Int × Int) : (s.edge e).rules = s.rules := by unfold SV.edge; split <;> rfl
theorem edge_bit (s : SV) (e f : Int × Int) : (s.edge e).bit f = s.bit f := by unfold SV.bit; rw [edge_has]
theorem edge_more {s : SV} {e g : Int × Int} (h : g ∈ s.edges) : g ∈ (s.edge e).edges := by
 unfold SV.edge
 split
 ·exact h
 ·exact List.mem_append_left _ h
theorem edge_in (s : SV) (e : Int × Int) : e.1 = e.2 ∨ e ∈ (s.edge e).edges := by
 unfold SV.edge
 split
 ·assumption
 ·exact .inr (List.mem_append_right _ (List.mem_singleton.2 rfl))
theorem Core.edgeTo {P : PP} {S : List (List Int)} {s : SV} (h : Core P S s) {e : Int × Int} (he : SndE P S e) : Core P S (s.edge e) := by
 unfold SV.edge
 by_cases hc : e.1 = e.2 ∨ e ∈ s.edges
 ·rw [if_pos hc]; exact h
 ·rw [if_neg hc]
  refine ⟨h.len, h.row, fun f hf => ?_, h.bit, fun g hg => ?_, fun g hg o h0 hb => ?_, fun r hr hk => ?_, fun r hr hk => ?_⟩
  ·rcases List.mem_append.1 hf with hf | hf
   ·exact h.wait f hf
   ·obtain ⟨o, ho, rfl⟩ := List.mem_map.1 hf
    obtain ⟨h0, hb⟩ := mem_objs.1 ho
    exact ⟨he.2.1, he.2.2 o (h.bit (e.1, o) hb h0)⟩
  ·rcases List.mem_append.1 hg with hg | hg
   ·exact h.edge g hg
   ·obtain rfl := List.mem_singleton.1 hg
    exact he
  ·have hb : s.bit (g.1, o) = true := hb
   show s.bit (g.2, o) = true ∨ (g.2, o) ∈ s.wait ++ _
   rcases List.mem_append.1 hg with hg | hg
   ·exact (h.along g hg o h0 hb).imp id fun k => List.mem_append_left _ k
   ·obtain rfl := List.mem_singleton.1 hg
    exact .inr (List.mem_append_right _ (List.mem_map.2 ⟨o, mem_objs.2 ⟨h0, hb⟩, rfl⟩))
  ·exact (h.base r hr hk).imp id fun k => List.mem_append_left _ k
  ·exact (h.copy r hr hk).imp id fun k => List.mem_append_left _ k
theorem edges_fold {P : PP} {S : List (List Int)} : ∀ (l : List (Int × Int)) {s : SV}, Core P S s → (∀ e ∈ l, SndE P S e) →
  Core P S (l.foldl SV.edge s) ∧ (l.foldl SV.edge s).has = s.has ∧ (l.foldl SV.edge s).rules = s.rules ∧ (∀ g ∈ s.edges, g ∈ (l.foldl SV.edge s).edges) ∧ ∀ e ∈ l, e.1 = e.2 ∨ e ∈ (l.foldl SV.edge s).edges
 | [], s, h, _ => ⟨h, rfl, rfl, fun _ hg => hg, fun _ he => by cases he⟩
 | e :: l, s, h, hs => by
  obtain ⟨k1, k2, k3, k4, k5⟩ := edges_fold l (h.edgeTo (hs e List.mem_cons_self)) fun g hg => hs g (List.mem_cons_of_mem _ hg)
  refine ⟨k1, k2.trans (edge_has s e), k3.trans (edge_rules s e), fun g hg => k4 g (edge_more hg), fun g hg => ?_⟩
  rcases List.mem_cons.1 hg with rfl | hg
  ·exact (edge_in s g).imp id fun k => k4 _ k
  ·exact k5 g hg
theorem fires_in {P : PP} {S : List (List Int)} {r : RV} {o : Int} (hf : r.fired = true) (ho : o ∈ S.getD r.pivot.toNat []) {e : Int × Int} (he : e ∈ P.fires r o) : e ∈ P.redges r S := by
 unfold PP.fires at he
 unfold RV.pivot at ho
 unfold RV.fired at hf
 unfold PP.redges
 cases h3 : (r.kind.toList == kCall) with
 | true =>
  have e1 := eq_of_beq h3
  have h0 : (r.kind.toList == kCopy) = false := by rw [e1]; decide
  have h1 : (r.kind.toList == kLoad) = false := by rw [e1]; decide
  have h2 : (r.kind.toList == kStore) = false := by rw [e1]; decide
  rw [h3, cond_true] at he
  rw [h2, cond_false] at ho
  rw [h0, h1, h2, cond_false, cond_false, cond_false, cond_true]
  exact List.mem_flatMap.2 ⟨o, ho, he⟩
 | false =>
  rw [h3, cond_false] at he
  have hn : o < P.nodesV := by
   by_cases g : (P.nodesV : Int) ≤ o
   ·rw [if_pos g] at he; cases he
   ·omega
  rw [if_neg (by omega)] at he
  have hno : o ∈ S.getD r.pivot.toNat [] := ho
  cases h1 : (r.kind.toList == kLoad) with
  | true =>
   have e1 := eq_of_beq h1
   have h0 : (r.kind.toList == kCopy) = false := by rw [e1]; decide
   have h2 : (r.kind.toList == kStore) = false := by rw [e1]; decide
   rw [h1, cond_true] at he
   rw [h2, cond_false] at ho
   rw [h0, cond_false, cond_true]
   refine List.mem_map.2 ⟨o, List.mem_filter.2 ⟨ho, by rw [decide_eq_false (by omega)]; rfl⟩, (List.mem_singleton.1 he).symm⟩
  | false =>
   rw [h1, h3] at hf
   cases h2 : (r.kind.toList == kStore) with
   | false => rw [h2] at hf; cases hf
   | true =>
    have e1 := eq_of_beq h2
    have h0 : (r.kind.toList == kCopy) = false := by rw [e1]; decide
    rw [h1, cond_false] at he
    rw [h2, cond_true] at ho
    rw [h0, cond_false, cond_false, cond_true]
    exact List.mem_map.2 ⟨o, List.mem_filter.2 ⟨ho, by rw [decide_eq_false (by omega)]; rfl⟩, (List.mem_singleton.1 he).symm⟩
theorem sndE_of {P : PP} {S : List (List Int)} (hg : P.GoodS S) (hc : ClosedP P S) {r : RV} (hr : r ∈ P.rulesV) {e : Int × Int} (he : e ∈ P.redges r S) : SndE P S e := by
 have h0 : e ∈ P.edges0 S := List.mem_flatMap.2 ⟨r, hr, he⟩
 obtain ⟨h1, h2, h3, h4⟩ := edges0_in hg.1 hg.ok e h0
 have hl := hg.2.1
 refine ⟨⟨by omega, by omega⟩, ⟨by omega, by omega⟩, ?_⟩
 by_cases k : e.1 = e.2
 ·rw [k]; exact fun _ h => h
 ·exact hc.edge e h0 k
structure Full (P : PP) (S : List (List Int)) (s : SV) : Prop where
 core : Core P S s
 of : ∀ r ∈ s.rules, r ∈ P.rulesV
 told : ∀ r ∈ s.rules, r.fired = true → ∀ o, 0 ≤ o → s.bit (r.pivot, o) = true → s.told P r o
theorem Core.fire {P : PP} {S : List (List Int)} {s : SV} (hg : P.GoodS S) (hc : ClosedP P S) (h : Core P S s) {r : RV} (hr : r ∈ P.rulesV) (hf : r.fired = true) {o : Int} (ho : o ∈ S.getD r.pivot.toNat []) :
  Core P S (s.fire P r o) ∧ (s.fire P r o).has = s.has ∧ (s.fire P r o).rules = s.rules ∧ (∀ g ∈ s.edges, g ∈ (s.fire P r o).edges) ∧ (s.fire P r o).told P r o :=
 edges_fold _ h fun _ he => sndE_of hg hc hr (fires_in hf ho he)
theorem told_more {P : PP} {s t : SV} (hm : ∀ g ∈ s.edges, g ∈ t.edges) {r : RV} {o : Int} (h : s.told P r o) : t.told P r o := fun e he => (h e he).imp id fun k => hm e k
theorem bit_has {s t : SV} (h : t.has = s.has) (f : Int × Int) : t.bit f = s.bit f := by unfold SV.bit; rw [h]
theorem objs_has {s t : SV} (h : t.has = s.has) (n : Int) : t.objs n = s.objs n := by unfold SV.objs; rw [h]
theorem fires_fold {P : PP} {S : List (List Int)} (hg : P.GoodS S) (hc : ClosedP P S) {f : Int × Int} (hf : f.2 ∈ S.getD f.1.toNat []) : ∀ (l : List RV) {s : SV}, Core P S s → (∀ r ∈ l, r ∈ P.rulesV) →
  let t := l.foldl (fun s r => bif r.fired && decide (r.pivot = f.1) then s.fire P r f.2 else s) s
  Core P S t ∧ t.has = s.has ∧ t.rules = s.rules ∧ (∀ g ∈ s.edges, g ∈ t.edges) ∧ ∀ r ∈ l, r.fired = true → r.pivot = f.1 → t.told P r f.2
 | [], s, h, _ => ⟨h, rfl, rfl, fun _ hg => hg, fun _ he => by cases he⟩
 | r :: l, s, h, hs => by
  have step : Core P S (bif r.fired && decide (r.pivot = f.1) then s.fire P r f.2 else s) ∧ (bif r.fired && decide (r.pivot = f.1) then s.fire P r f.2 else s).has = s.has ∧ (bif r.fired && decide (r.pivot = f.1) then s.fire P r f.2 else s).rules = s.rules ∧ (∀ g ∈ s.edges, g ∈ (bif r.fired && decide (r.pivot = f.1) then s.fire P r f.2 else s).edges) ∧ (r.fired = true → r.pivot = f.1 → (bif r.fired && decide (r.pivot = f.1) then s.fire P r f.2 else s).told P r f.2) := by
   cases h1 : (r.fired && decide (r.pivot = f.1)) with
   | false =>
    refine ⟨h, rfl, rfl, fun _ k => k, fun k1 k2 => ?_⟩
    rw [k1, decide_eq_true k2] at h1; cases h1
   | true =>
    rw [Bool.and_eq_true] at h1
    have hp := of_decide_eq_true h1.2
    obtain ⟨k1, k2, k3, k4, k5⟩ := h.fire hg hc (hs r List.mem_cons_self) h1.1 (o := f.2) (by rw [hp]; exact hf)
    exact ⟨k1, k2, k3, k4, fun _ _ => k5⟩
  obtain ⟨k1, k2, k3, k4, k5⟩ := step
  obtain ⟨j1, j2, j3, j4, j5⟩ := fires_fold hg hc hf l k1 fun g hg => hs g (List.mem_cons_of_mem _ hg)
  refine ⟨j1, j2.trans k2, j3.trans k3, fun g hg => j4 g (k4 g hg), fun q hq h1 h2 => ?_⟩
  rcases List.mem_cons.1 hq with rfl | hq
  ·exact told_more j4 (k5 h1 h2)
  ·exact j5 q hq h1 h2
theorem getD_set2 (l : List (List Bool)) (i n : Nat) (v : List Bool) (hn : n < l.length) : (l.set n v).getD i [] = if n = i then v else l.getD i [] := by
 rw [List.getD_eq_getElem?_getD, List.getElem?_set]
 by_cases h : n = i
 ·subst h; rw [if_pos rfl, if_pos hn, if_pos rfl]; rfl
 ·rw [if_neg h, if_neg h, List.getD_eq_getElem?_getD]
theorem mark_bit {s : SV} {f g : Int × Int} (hf : 0 ≤ f.1 ∧ f.1.toNat < s.has.length) (h2 : 0 ≤ f.2 ∧ f.2.toNat < (s.has.getD f.1.toNat []).length) (hg1 : 0 ≤ g.1) (hg2 : 0 ≤ g.2) : (s.mark f).bit g = true ↔ g = f ∨ s.bit g = true := by
 unfold SV.bit SV.mark
 rw [getD_set2 _ _ _ _ hf.2]
 by_cases h1 : f.1.toNat = g.1.toNat
 ·have e1 : f.1 = g.1 := by omega
  rw [if_pos h1, List.getD_eq_getElem?_getD, List.getElem?_set]
  by_cases h3 : f.2.toNat = g.2.toNat
  ·have e2 : f.2 = g.2 := by omega
   rw [if_pos h3, if_pos h2.2]
   exact ⟨fun _ => .inl (Prod.ext e1.symm e2.symm), fun _ => rfl⟩
  ·rw [if_neg h3, h1]
   refine ⟨fun h => .inr (by rw [List.getD_eq_getElem?_getD]; exact h), fun h => ?_⟩
   rcases h with rfl | h
   ·exact absurd rfl h3
   ·rw [List.getD_eq_getElem?_getD] at h; exact h
 ·rw [if_neg h1]
  refine ⟨.inr, fun h => ?_⟩
  rcases h with rfl | h
  ·exact absurd rfl h1
  ·exact h
theorem pivot_in {P : PP} (hw : P.Well) {k : Nat} (hk : k < P.stmts.length) (hf : (P.ruleV k (P.stAt k)).fired = true) : 0 ≤ (P.ruleV k (P.stAt k)).pivot := by
 have hgd := PP.good (hw.2 k (P.stAt k) hk (stAt_some hk))
 have ha := rule_a_in hw hk
 unfold RV.pivot
 cases h : ((P.ruleV k (P.stAt k)).kind.toList == kStore) with
 | false => exact ha.1
 | true =>
  rw [cond_true]
  have hb := eq_of_beq bBase_list
  have hk1 := eq_of_beq h
  unfold PP.ruleV at hk1 ⊢
  cases h1 : (P.stAt k).isK kAddr with
  | true => rw [h1, cond_true] at hk1; rw [show (bBase.toList = kStore) = False from by rw [hb]; exact eq_false (by decide)] at hk1; exact hk1.elim
  | false =>
  cases h2 : (P.stAt k).isK kNew with
  | true => rw [h1, h2, cond_false, cond_true] at hk1; rw [show (bBase.toList = kStore) = False from by rw [hb]; exact eq_false (by decide)] at hk1; exact hk1.elim
  | false =>
  cases h3 : (P.stAt k).isK kFun with
  | true => rw [h1, h2, h3, cond_false, cond_false, cond_true] at hk1; rw [show (bBase.toList = kStore) = False from by rw [hb]; exact eq_false (by decide)] at hk1; exact hk1.elim
  | false =>
  cases h4 : (P.stAt k).isK kCall with
  | true => exact hgd.gx.1
  | false => exact hgd.gx.1
theorem Full.marked {P : PP} {S : List (List Int)} {s : SV} (hg : P.GoodS S) (h : Full P S s) {f : Int × Int} (hf : (0 ≤ f.1 ∧ f.1 < P.nodesV) ∧ f.2 ∈ S.getD f.1.toNat []) (h2 : 0 ≤ f.2 ∧ f.2 < P.objectsV) :
  Core P S ({ s.mark f with wait := (s.mark f).wait ++ ((s.mark f).succ f.1).map fun t => (t, f.2) } : SV) := by
 have hl1 : f.1.toNat < s.has.length := by rw [h.core.len]; omega
 have hrow : (s.has.getD f.1.toNat []).length = P.objectsV := by
  rw [List.getD_eq_getElem?_getD, List.getElem?_eq_getElem hl1]
  exact h.core.row _ (List.getElem_mem hl1)
 have hmb := fun (g : Int × Int) (g1 : 0 ≤ g.1) (g2 : 0 ≤ g.2) => mark_bit (s := s) (f := f) (g := g) ⟨hf.1.1, hl1⟩ ⟨h2.1, by rw [hrow]; omega⟩ g1 g2
 obtain ⟨t, ht⟩ : ∃ t, t = ({ s.mark f with wait := (s.mark f).wait ++ ((s.mark f).succ f.1).map fun t => (t, f.2) } : SV) := ⟨_, rfl⟩
 have hth : t.has = (s.mark f).has := by rw [ht]
 have hte : t.edges = s.edges := by rw [ht]; rfl
 have htr : t.rules = s.rules := by rw [ht]; rfl
 have htw : t.wait = s.wait ++ (s.succ f.1).map fun t => (t, f.2) := by rw [ht]; rfl
 have htb : ∀ g : Int × Int, t.bit g = (s.mark f).bit g := bit_has hth
 rw [← ht]
 refine ⟨?_, fun l hl => ?_, fun g hw => ?_, fun g hb g0 => ?_, fun e he => ?_, fun e he o h0 hb => ?_, fun r hr hk => ?_, fun r hr hk => ?_⟩
 ·rw [hth]; unfold SV.mark; rw [List.length_set]; exact h.core.len
 ·rw [hth] at hl
  rcases List.mem_or_eq_of_mem_set hl with hl | rfl
  ·exact h.core.row l hl
  ·rw [List.length_set]; exact hrow
 ·rw [htw] at hw
  rcases List.mem_append.1 hw with hw | hw
  ·exact h.core.wait g hw
  ·obtain ⟨q, hq, rfl⟩ := List.mem_map.1 hw
   unfold SV.succ at hq
   obtain ⟨e, he, rfl⟩ := List.mem_map.1 hq
   obtain ⟨he, h1⟩ := List.mem_filter.1 he
   have h1 := of_decide_eq_true h1
   obtain ⟨_, k2, k3⟩ := h.core.edge e he
   rw [h1] at k3
   exact ⟨k2, k3 f.2 hf.2⟩
 ·rw [htb] at hb
  by_cases g1 : 0 ≤ g.1
  ·rcases (hmb g g1 g0).1 hb with rfl | hb
   ·exact hf.2
   ·exact h.core.bit g hb g0
  ·-- a negative node: its place is the first one's
   have e : g.1.toNat = (0 : Int).toNat := by omega
   have hb' : (s.mark f).bit (0, g.2) = true := by unfold SV.bit at hb ⊢; rw [e] at hb; exact hb
   rw [e]
   rcases (hmb (0, g.2) (Int.le_refl 0) g0).1 hb' with k | k
   ·have := hf.2; rw [← k] at this; exact this
   ·exact h.core.bit (0, g.2) k g0
 ·rw [hte] at he; exact h.core.edge e he
 ·rw [hte] at he
  obtain ⟨k1, k2, _⟩ := h.core.edge e he
  rw [htb] at hb ⊢
  rw [htw]
  rcases (hmb (e.1, o) k1.1 h0).1 hb with k | k
  ·refine .inr (List.mem_append_right _ (List.mem_map.2 ⟨e.2, ?_, by rw [← k]⟩))
   unfold SV.succ
   refine List.mem_map.2 ⟨e, List.mem_filter.2 ⟨he, decide_eq_true ?_⟩, rfl⟩
   rw [← k]
  ·rcases h.core.along e he o h0 k with k | k
   ·exact .inl ((hmb (e.2, o) k2.1 h0).2 (.inr k))
   ·exact .inr (List.mem_append_left _ k)
 ·rw [htr] at hr
  rw [htb, htw]
  have hrv := h.of r hr
  rcases h.core.base r hr hk with k | k
  ·refine .inl ?_
   obtain ⟨i, hi, rfl⟩ := List.mem_map.1 hrv
   have hi := List.mem_range.1 hi
   exact (hmb _ (rule_a_in hg.1 hi).1 (base_b_in hg.1 hi hk).1).2 (.inr k)
  ·exact .inr (List.mem_append_left _ k)
 ·rw [htr] at hr; rw [hte]; exact h.core.copy r hr hk
theorem Full.came {P : PP} {S : List (List Int)} {s : SV} (hg : P.GoodS S) (hc : ClosedP P S) (h : Full P S s) {f : Int × Int} (hf : (0 ≤ f.1 ∧ f.1 < P.nodesV) ∧ f.2 ∈ S.getD f.1.toNat []) (h2 : 0 ≤ f.2 ∧ f.2 < P.objectsV) :
  Full P S ((s.mark f).came P f) ∧ ((s.mark f).came P f).has = (s.mark f).has ∧ ((s.mark f).came P f).rules = s.rules := by
 have hl1 : f.1.toNat < s.has.length := by rw [h.core.len]; omega
 have hrow : (s.has.getD f.1.toNat []).length = P.objectsV := by
  rw [List.getD_eq_getElem?_getD, List.getElem?_eq_getElem hl1]
  exact h.core.row _ (List.getElem_mem hl1)
 have hmb := fun (g : Int × Int) (g1 : 0 ≤ g.1) (g2 : 0 ≤ g.2) => mark_bit (s := s) (f := f) (g := g) ⟨hf.1.1, hl1⟩ ⟨h2.1, by rw [hrow]; omega⟩ g1 g2
 obtain ⟨t, ht⟩ : ∃ t, t = ({ s.mark f with wait := (s.mark f).wait ++ ((s.mark f).succ f.1).map fun t => (t, f.2) } : SV) := ⟨_, rfl⟩
 have hth : t.has = (s.mark f).has := by rw [ht]
 have hte : t.edges = s.edges := by rw [ht]; rfl
 have htr : t.rules = s.rules := by rw [ht]; rfl
 have htw : t.wait = s.wait ++ (s.succ f.1).map fun t => (t, f.2) := by rw [ht]; rfl
 have htb : ∀ g : Int × Int, t.bit g = (s.mark f).bit g := bit_has hth
 have hcore : Core P S t := by rw [ht]; exact h.marked hg hf h2
 obtain ⟨k1, k2, k3, k4, k5⟩ := fires_fold hg hc hf.2 t.rules hcore fun r hr => by rw [htr] at hr; exact h.of r hr
 have hce : (s.mark f).came P f = t.rules.foldl (fun s r => bif r.fired && decide (r.pivot = f.1) then s.fire P r f.2 else s) t := by rw [ht]; rfl
 rw [hce]
 refine ⟨⟨k1, fun r hr => by rw [k3, htr] at hr; exact h.of r hr, fun r hr hfd o h0 hb => ?_⟩, k2.trans hth, k3.trans htr⟩
 rw [k3] at hr
 rw [bit_has k2, htb] at hb
 have hr' := hr
 rw [htr] at hr'
 have hp0 : 0 ≤ r.pivot := by
  obtain ⟨i, hi, rfl⟩ := List.mem_map.1 (h.of r hr')
  exact pivot_in hg.1 (List.mem_range.1 hi) hfd
 rcases (hmb (r.pivot, o) hp0 h0).1 hb with k | k
 ·have e1 : r.pivot = f.1 := by rw [← k]
  have e2 : o = f.2 := by rw [← k]
  rw [e2]
  exact k5 r hr hfd e1
 ·exact told_more (fun g hg => k4 g (by rw [hte]; exact hg)) (h.told r hr' hfd o h0 k)
theorem mem_dropWhile_or {α : Type} {p : α → Bool} : ∀ {l : List α} {x : α}, x ∈ l → x ∈ l.dropWhile p ∨ p x = true
 | y :: l, x, h => by
  cases hy : p y with
  | false => rw [List.dropWhile_cons, hy]; exact .inl h
  | true =>
   rw [List.dropWhile_cons, hy]
   rcases List.mem_cons.1 h with rfl | h
   ·exact .inr hy
   ·exact mem_dropWhile_or h
theorem mem_of_dropWhile {α : Type} {p : α → Bool} : ∀ {l : List α} {x : α}, x ∈ l.dropWhile p → x ∈ l
 | y :: l, x, h => by
  rw [List.dropWhile_cons] at h
  split at h
  ·exact List.mem_cons_of_mem _ (mem_of_dropWhile h)
  ·exact h
theorem dropWhile_head {α : Type} {p : α → Bool} : ∀ {l : List α} {x : α} {r : List α}, l.dropWhile p = x :: r → p x = false
 | y :: l, x, r, h => by
  rw [List.dropWhile_cons] at h
  split at h
  ·exact dropWhile_head h
  ·next hy =>
   obtain ⟨rfl, _⟩ := List.cons.inj h
   exact eq_false_of_ne_true hy
theorem Full.cleaned {P : PP} {S : List (List Int)} {s : SV} (h : Full P S s) : Full P S s.clean := by
 have k := h.core
 refine ⟨⟨k.len, k.row, fun f hf => k.wait f (mem_of_dropWhile hf), k.bit, k.edge, fun e he o h0 hb => ?_, fun r hr hk => ?_, k.copy⟩, h.of, h.told⟩
 ·rcases k.along e he o h0 hb with g | g
  ·exact .inl g
  ·rcases mem_dropWhile_or (p := s.bit) g with g | g
   ·exact .inr g
   ·exact .inl g
 ·rcases k.base r hr hk with g | g
  ·exact .inl g
  ·rcases mem_dropWhile_or (p := s.bit) g with g | g
   ·exact .inr g
   ·exact .inl g
theorem fires_objs {P : PP} {S : List (List Int)} (hg : P.GoodS S) (hc : ClosedP P S) {r : RV} (hr : r ∈ P.rulesV) (hf : r.fired = true) : ∀ (l : List Int) {s : SV}, Core P S s → (∀ o ∈ l, o ∈ S.getD r.pivot.toNat []) →
  let t := l.foldl (fun s o => s.fire P r o) s
  Core P S t ∧ t.has = s.has ∧ t.rules = s.rules ∧ (∀ g ∈ s.edges, g ∈ t.edges) ∧ ∀ o ∈ l, t.told P r o
 | [], s, h, _ => ⟨h, rfl, rfl, fun _ hg => hg, fun _ he => by cases he⟩
 | o :: l, s, h, hs => by
  obtain ⟨k1, k2, k3, k4, k5⟩ := h.fire hg hc hr hf (hs o List.mem_cons_self)
  obtain ⟨j1, j2, j3, j4, j5⟩ := fires_objs hg hc hr hf l k1 fun q hq => hs q (List.mem_cons_of_mem _ hq)
  refine ⟨j1, j2.trans k2, j3.trans k3, fun g hg => j4 g (k4 g hg), fun q hq => ?_⟩
  rcases List.mem_cons.1 hq with rfl | hq
  ·exact told_more j4 k5
  ·exact j5 q hq
theorem fired_kinds {r : RV} (h : r.fired = true) : r.kind.toList ≠ bBase.toList ∧ r.kind.toList ≠ kCopy := by
 have hb := eq_of_beq bBase_list
 rw [hb]
 unfold RV.fired at h
 rw [Bool.or_eq_true, Bool.or_eq_true] at h
 rcases h with (h | h) | h <;> rw [eq_of_beq h] <;> decide
theorem rule_kinds {P : PP} (hw : P.Well) {r : RV} (hr : r ∈ P.rulesV) : r.kind.toList = bBase.toList ∨ r.kind.toList = kCopy ∨ r.fired = true := by
 obtain ⟨k, hk, rfl⟩ := List.mem_map.1 hr
 have hk := List.mem_range.1 hk
 have h0 := hw.2 k (P.stAt k) hk (stAt_some hk)
 unfold PP.ruleV
 cases h1 : (P.stAt k).isK kAddr with
 | true => exact .inl rfl
 | false =>
 cases h2 : (P.stAt k).isK kNew with
 | true => exact .inl rfl
 | false =>
 cases h3 : (P.stAt k).isK kFun with
 | true => exact .inl rfl
 | false =>
 cases h4 : (P.stAt k).isK kCall with
 | true =>
  refine .inr (.inr ?_)
  show RV.fired ⟨bCall, _, _, _, _⟩ = true
  have hb : bCall.toList = kCall := by decide +kernel
  unfold RV.fired
  simp only [hb]
  decide
 | false =>
  show _ ∨ (P.stAt k).kind.toList = kCopy ∨ RV.fired ⟨(P.stAt k).kind, _, _, _, _⟩ = true
  rcases kind_cases h0 with h | h | h | h | h | h | h
  ·rw [h1] at h; cases h
  ·exact .inr (.inl (eq_of_beq h))
  ·have h := eq_of_beq h
   exact .inr (.inr (by unfold RV.fired; simp only [h]; decide))
  ·have h := eq_of_beq h
   exact .inr (.inr (by unfold RV.fired; simp only [h]; decide))
  ·rw [h2] at h; cases h
  ·rw [h3] at h; cases h
  ·rw [h4] at h; cases h
theorem Full.added {P : PP} {S : List (List Int)} {s : SV} (hg : P.GoodS S) (hc : ClosedP P S) (h : Full P S s) {r : RV} (hr : r ∈ P.rulesV) : Full P S (s.add P r) ∧ (s.add P r).has = s.has ∧ (s.add P r).rules = s.rules ++ [r] := by
 have hcore0 : r.kind.toList ≠ bBase.toList → r.kind.toList ≠ kCopy → Core P S { s with rules := s.rules ++ [r] } := fun n1 n2 =>
  ⟨h.core.len, h.core.row, h.core.wait, h.core.bit, h.core.edge, h.core.along, fun q hq hk => by
   rcases List.mem_append.1 hq with hq | hq
   ·exact h.core.base q hq hk
   ·obtain rfl := List.mem_singleton.1 hq
    exact absurd hk n1, fun q hq hk => by
   rcases List.mem_append.1 hq with hq | hq
   ·exact h.core.copy q hq hk
   ·obtain rfl := List.mem_singleton.1 hq
    exact absurd hk n2⟩
 have hof : ∀ q ∈ s.rules ++ [r], q ∈ P.rulesV := fun q hq => by
  rcases List.mem_append.1 hq with hq | hq
  ·exact h.of q hq
  ·obtain rfl := List.mem_singleton.1 hq
   exact hr
 unfold SV.add
 cases h1 : (r.kind.toList == bBase.toList) with
 | true =>
  have hb := eq_of_beq h1
  obtain ⟨k, hk, hrk⟩ := List.mem_map.1 hr
  have hk := List.mem_range.1 hk
  have ha := rule_a_in hg.1 hk
  have hba := hc.base k hk (by rw [hrk]; exact hb)
  rw [hrk] at ha hba
  have hnv := nodes_vars P
  refine ⟨⟨⟨h.core.len, h.core.row, fun f hf => ?_, h.core.bit, h.core.edge, fun e he o h0 hbt => (h.core.along e he o h0 hbt).imp id fun g => List.mem_append_left _ g, fun q hq hqk => ?_, fun q hq hqk => ?_⟩, hof, fun q hq hqf o h0 hbt => ?_⟩, rfl, rfl⟩
  ·rcases List.mem_append.1 hf with hf | hf
   ·exact h.core.wait f hf
   ·obtain rfl := List.mem_singleton.1 hf
    exact ⟨⟨ha.1, by omega⟩, hba⟩
  ·rcases List.mem_append.1 hq with hq | hq
   ·exact (h.core.base q hq hqk).imp id fun g => List.mem_append_left _ g
   ·obtain rfl := List.mem_singleton.1 hq
    exact .inr (List.mem_append_right _ (List.mem_singleton.2 rfl))
  ·rcases List.mem_append.1 hq with hq | hq
   ·exact h.core.copy q hq hqk
   ·obtain rfl := List.mem_singleton.1 hq
    rw [hb, eq_of_beq bBase_list] at hqk
    exact absurd hqk (by decide)
  ·rcases List.mem_append.1 hq with hq | hq
   ·exact h.told q hq hqf o h0 hbt
   ·obtain rfl := List.mem_singleton.1 hq
    exact absurd hb (fired_kinds hqf).1
 | false =>
 have n1 : r.kind.toList ≠ bBase.toList := fun e => by rw [e] at h1; simp at h1
 cases h2 : (r.kind.toList == kCopy) with
 | true =>
  have hb := eq_of_beq h2
  have hsnd : SndE P S (r.a, r.b) := sndE_of hg hc hr (by unfold PP.redges; rw [h2, cond_true]; exact List.mem_singleton.2 rfl)
  obtain ⟨t, ht⟩ : ∃ t : SV, t = { s with rules := s.rules ++ [r] } := ⟨_, rfl⟩
  have hin := edge_in t (r.a, r.b)
  have hcore1 : Core P S ({ s with rules := s.rules }.edge (r.a, r.b)) := h.core.edgeTo hsnd
  have e1 : (t.edge (r.a, r.b)).edges = (s.edge (r.a, r.b)).edges := by rw [ht]; unfold SV.edge; split <;> rfl
  have e2 : (t.edge (r.a, r.b)).wait = (s.edge (r.a, r.b)).wait := by rw [ht]; unfold SV.edge; split <;> rfl
  have e3 : (t.edge (r.a, r.b)).has = s.has := by rw [edge_has, ht]
  have e4 : (t.edge (r.a, r.b)).rules = s.rules ++ [r] := by rw [edge_rules, ht]
  have e5 : ∀ f, (t.edge (r.a, r.b)).bit f = s.bit f := bit_has e3
  have k := h.core.edgeTo hsnd
  have hmore : ∀ g ∈ s.edges, g ∈ (t.edge (r.a, r.b)).edges := fun g hg => by rw [e1]; exact edge_more hg
  rw [cond_false, cond_true, ← ht]
  refine ⟨⟨⟨by rw [e3]; exact h.core.len, by rw [e3]; exact h.core.row, fun f hf => by rw [e2] at hf; exact k.wait f hf, fun f hf h0 => by rw [e5] at hf; exact h.core.bit f hf h0, fun e he => by rw [e1] at he; exact k.edge e he, fun e he o h0 hbt => ?_, fun q hq hqk => ?_, fun q hq hqk => ?_⟩, fun q hq => by rw [e4] at hq; exact hof q hq, fun q hq hqf o h0 hbt => ?_⟩, e3, e4⟩
  ·rw [e1] at he
   rw [e5] at hbt ⊢
   rw [e2]
   have := k.along e he o h0 (by rw [edge_bit]; exact hbt)
   rwa [edge_bit] at this
  ·rw [e4] at hq
   rw [e5, e2]
   rcases List.mem_append.1 hq with hq | hq
   ·have := k.base q (by rw [edge_rules]; exact hq) hqk
    rwa [edge_bit] at this
   ·obtain rfl := List.mem_singleton.1 hq
    exact absurd hqk n1
  ·rw [e4] at hq
   rcases List.mem_append.1 hq with hq | hq
   ·exact (h.core.copy q hq hqk).imp id fun g => hmore _ g
   ·obtain rfl := List.mem_singleton.1 hq
    exact hin
  ·rw [e4] at hq
   rw [e5] at hbt
   rcases List.mem_append.1 hq with hq | hq
   ·exact told_more hmore (h.told q hq hqf o h0 hbt)
   ·obtain rfl := List.mem_singleton.1 hq
    exact absurd hb (fired_kinds hqf).2
 | false =>
 have n2 : r.kind.toList ≠ kCopy := fun e => by rw [e] at h2; simp at h2
 have hf : r.fired = true := by
  rcases rule_kinds hg.1 hr with g | g | g
  ·exact absurd g n1
  ·exact absurd g n2
  ·exact g
 obtain ⟨k1, k2, k3, k4, k5⟩ := fires_objs hg hc hr hf (s.objs r.pivot) (hcore0 n1 n2) fun o ho => by
  obtain ⟨h0, hb⟩ := mem_objs.1 ho
  exact h.core.bit (r.pivot, o) hb h0
 rw [cond_false, cond_false]
 refine ⟨⟨k1, fun q hq => by rw [k3] at hq; exact hof q hq, fun q hq hqf o h0 hbt => ?_⟩, k2, k3⟩
 rw [k3] at hq
 rw [bit_has k2] at hbt
 rcases List.mem_append.1 hq with hq | hq
 ·exact told_more k4 (h.told q hq hqf o h0 hbt)
 ·obtain rfl := List.mem_singleton.1 hq
  exact k5 o (mem_objs.2 ⟨h0, hbt⟩)
def SV.zero (P : PP) : SV := ⟨List.replicate P.nodesV (List.replicate P.objectsV false), [], [], []⟩
theorem zero_bit (P : PP) (f : Int × Int) : (SV.zero P).bit f = false := by
 unfold SV.bit SV.zero
 simp only [List.getD_eq_getElem?_getD, List.getElem?_replicate]
 split
 ·simp only [Option.getD_some, List.getElem?_replicate]
  split <;> rfl
 ·rfl
theorem Full.zero (P : PP) (S : List (List Int)) : Full P S (SV.zero P) := by
 refine ⟨⟨List.length_replicate, fun l hl => ?_, fun f hf => (by cases hf), fun f hb _ => ?_, fun e he => (by cases he), fun e he => (by cases he), fun r hr => (by cases hr), fun r hr => (by cases hr)⟩, fun r hr => (by cases hr), fun r hr => (by cases hr)⟩
 ·obtain rfl := List.eq_of_mem_replicate hl
  exact List.length_replicate
 ·rw [zero_bit] at hb; cases hb
theorem objs_srt (s : SV) (n : Int) : Srt (s.objs n) := by
 unfold SV.objs
 show List.Pairwise (· < ·) _
 rw [List.pairwise_map]
 exact List.Pairwise.imp (R := (· < ·)) (fun h => by omega) (List.Pairwise.sublist List.filter_sublist List.pairwise_lt_range)
theorem bit_few {P : PP} {S : List (List Int)} {s : SV} (h : Core P S s) {f : Int × Int} (h0 : 0 ≤ f.2) (hb : s.bit f = true) : f.2 < P.objectsV := by
 unfold SV.bit at hb
 rcases Nat.lt_or_ge f.1.toNat s.has.length with g | g
 ·have hl : (s.has.getD f.1.toNat []).length = P.objectsV := by
   rw [List.getD_eq_getElem?_getD, List.getElem?_eq_getElem g]
   exact h.row _ (List.getElem_mem g)
  rcases Nat.lt_or_ge f.2.toNat P.objectsV with k | k
  ·omega
  ·rw [List.getD_eq_getElem?_getD (l := s.has.getD f.1.toNat []), List.getElem?_eq_none (by omega)] at hb; cases hb
 ·rw [List.getD_eq_getElem?_getD (l := s.has), List.getElem?_eq_none g] at hb; cases hb
theorem redges_nil' {P : PP} {r : RV} {has : List (List Int)} (h : r.kind.toList = bBase.toList) : P.redges r has = [] := by
 have e := eq_of_beq bBase_list
 unfold PP.redges kCopy kLoad kStore kCall
 rw [h, e]; rfl
theorem redges_out {P : PP} {H : List (List Int)} {r : RV} (hf : r.fired = true) {e : Int × Int} (he : e ∈ P.redges r H) : ∃ o, o ∈ H.getD r.pivot.toNat [] ∧ e ∈ P.fires r o := by
 unfold PP.redges at he
 unfold PP.fires RV.pivot
 unfold RV.fired at hf
 cases h0 : (r.kind.toList == kCopy) with
 | true =>
  have e0 := eq_of_beq h0
  rw [e0] at hf
  exact absurd hf (by decide)
 | false =>
 rw [h0, cond_false] at he
 cases h1 : (r.kind.toList == kLoad) with
 | true =>
  have e1 := eq_of_beq h1
  have h2 : (r.kind.toList == kStore) = false := by rw [e1]; decide
  have h3 : (r.kind.toList == kCall) = false := by rw [e1]; decide
  rw [h1, cond_true] at he
  obtain ⟨o, ho, rfl⟩ := List.mem_map.1 he
  obtain ⟨k1, k2⟩ := List.mem_filter.1 ho
  have hn : ¬ (P.nodesV : Int) ≤ o := fun g => by rw [decide_eq_true g] at k2; cases k2
  rw [h2, h3, cond_false]
  refine ⟨o, k1, ?_⟩
  rw [cond_false, if_neg hn, cond_true]
  exact List.mem_singleton.2 rfl
 | false =>
 rw [h1, cond_false] at he
 cases h2 : (r.kind.toList == kStore) with
 | true =>
  have e1 := eq_of_beq h2
  have h3 : (r.kind.toList == kCall) = false := by rw [e1]; decide
  rw [h2, cond_true] at he
  obtain ⟨o, ho, rfl⟩ := List.mem_map.1 he
  obtain ⟨k1, k2⟩ := List.mem_filter.1 ho
  have hn : ¬ (P.nodesV : Int) ≤ o := fun g => by rw [decide_eq_true g] at k2; cases k2
  rw [h3, cond_true]
  refine ⟨o, k1, ?_⟩
  rw [cond_false, if_neg hn, cond_false]
  exact List.mem_singleton.2 rfl
 | false =>
 rw [h2, cond_false] at he
 cases h3 : (r.kind.toList == kCall) with
 | true =>
  rw [h3, cond_true] at he
  obtain ⟨o, ho, hc⟩ := List.mem_flatMap.1 he
  exact ⟨o, ho, hc⟩
 | false => rw [h3, cond_false] at he; cases he
def SV.sets (P : PP) (s : SV) : List (List Int) := (List.range P.nodesV).map fun n : Nat => s.objs (n : Int)
theorem sets_getD {P : PP} {s : SV} {n : Nat} (hn : n < P.nodesV) : (s.sets P).getD n [] = s.objs n := by
 unfold SV.sets
 rw [List.getD_eq_getElem?_getD, List.getElem?_map, List.getElem?_range hn]; rfl
theorem Core.sub {P : PP} {S : List (List Int)} {s : SV} (h : Core P S s) (n : Nat) : ∀ o ∈ s.objs n, o ∈ S.getD n [] := fun o ho => by
 obtain ⟨h0, hb⟩ := mem_objs.1 ho
 exact h.bit ((n : Int), o) hb h0
theorem Core.good {P : PP} {S : List (List Int)} {s : SV} (hw : P.Well) (h : Core P S s) : P.GoodS (s.sets P) := by
 have h126 := nodesV_le P hw
 have hf := hw.few
 refine ⟨hw, by unfold SV.sets; rw [List.length_map, List.length_range], fun l hl => ?_⟩
 obtain ⟨n, hn, rfl⟩ := List.mem_map.1 hl
 have hlt : ∀ x ∈ s.objs n, 0 ≤ x ∧ x < (P.objectsV : Int) := fun x hx => by
  obtain ⟨h0, hb⟩ := mem_objs.1 hx
  exact ⟨h0, bit_few h (f := ((n : Int), x)) h0 hb⟩
 refine setE_of (chkE_zero.2 ⟨fun x hx => ?_, objs_srt s n⟩) fun x hx => (hlt x hx).2
 have := hlt x hx
 unfold PP.objectsV at this
 omega
theorem Full.done {P : PP} {S : List (List Int)} {s : SV} {m : Nat} (hL : LeastAt P m S) (hw : P.Well) (h : Full P S s) (hr : ∀ r ∈ P.rulesV, r ∈ s.rules) (hwt : s.wait = []) {n : Nat} (hn : n < P.nodesV) : s.objs n = S.getD n [] := by
 have hg := hL.good hw
 have hgs := h.core.good hw
 have hcl : ClosedP P (s.sets P) := by
  refine ⟨fun k hk hb => ?_, fun e he hne q hq => ?_⟩
  ·have hrk : P.ruleV k (P.stAt k) ∈ P.rulesV := List.mem_map.2 ⟨k, List.mem_range.2 hk, rfl⟩
   have ha := rule_a_in hw hk
   have hnv := nodes_vars P
   have hbi := base_b_in hw hk hb
   rcases h.core.base _ (hr _ hrk) hb with g | g
   ·rw [sets_getD (by omega)]
    refine mem_objs.2 ⟨hbi.1, ?_⟩
    rw [show (((P.ruleV k (P.stAt k)).a.toNat : Nat) : Int) = (P.ruleV k (P.stAt k)).a by omega]
    exact g
   ·rw [hwt] at g; cases g
  ·obtain ⟨r, hrv, her⟩ := List.mem_flatMap.1 he
   obtain ⟨i1, i2, i3, i4⟩ := edges0_in hw hgs.ok e he
   have hin : e ∈ s.edges := by
    have hrs := hr r hrv
    cases hfd : r.fired with
    | false =>
     rcases rule_kinds hw hrv with g | g | g
     ·rw [redges_nil' g] at her; cases her
     ·have her2 : e = (r.a, r.b) := by
       unfold PP.redges at her
       rw [show (r.kind.toList == kCopy) = true from by rw [g]; decide, cond_true] at her
       exact List.mem_singleton.1 her
      rcases h.core.copy r hrs g with k | k
      ·rw [her2] at hne; exact absurd k hne
      ·rw [her2]; exact k
     ·rw [hfd] at g; cases g
    | true =>
     obtain ⟨i, hi, hri⟩ := List.mem_map.1 hrv
     have hi := List.mem_range.1 hi
     have hp0 : 0 ≤ r.pivot := by rw [← hri]; exact pivot_in hw hi (by rw [hri]; exact hfd)
     obtain ⟨o, ho, hfo⟩ := redges_out hfd her
     have hpn : r.pivot.toNat < P.nodesV := by
      rcases Nat.lt_or_ge r.pivot.toNat P.nodesV with g | g
      ·exact g
      ·rw [List.getD_eq_getElem?_getD, List.getElem?_eq_none (by rw [hgs.2.1]; exact g)] at ho; cases ho
     rw [sets_getD hpn] at ho
     obtain ⟨o0, ob⟩ := mem_objs.1 ho
     rw [Int.toNat_of_nonneg hp0] at ob
     rcases h.told r hrs hfd o o0 ob e hfo with k | k
     ·exact absurd k hne
     ·exact k
   rw [sets_getD (by omega)] at hq ⊢
   obtain ⟨q0, qb⟩ := mem_objs.1 hq
   rw [Int.toNat_of_nonneg i1] at qb
   rcases h.core.along e hin q q0 qb with k | k
   ·refine mem_objs.2 ⟨q0, ?_⟩
    rw [Int.toNat_of_nonneg i3]
    exact k
   ·rw [hwt] at k; cases k
 have hsub := hL.within hgs hcl
 refine srt_uniq (objs_srt s n) ?_ fun o => ⟨h.core.sub n o, fun ho => ?_⟩
 ·rw [List.getD_eq_getElem?_getD]
  cases hl : S[n]? with
  | none => exact List.Pairwise.nil
  | some l => exact (chkE_zero.1 (hg.ok.ok l (List.mem_of_getElem? hl)).1).2
 ·have := hsub n o ho
  rwa [sets_getD hn] at this
theorem row_count (l : List Bool) : ((List.range l.length).filter fun o => l.getD o false).length = l.countP id := by
 have e : l = (List.range l.length).map fun o => l.getD o false := by
  refine List.ext_getElem (by simp) fun i h1 h2 => ?_
  rw [List.getElem_map, List.getElem_range, List.getD_eq_getElem?_getD, List.getElem?_eq_getElem h1]; rfl
 conv => rhs; rw [e]
 rw [List.countP_map, List.countP_eq_length_filter]
 rfl
theorem objs_len (s : SV) (n : Int) : (s.objs n).length = (s.has.getD n.toNat []).countP id := by
 unfold SV.objs
 rw [List.length_map]
 exact row_count _
theorem count_set : ∀ (l : List Bool) (k : Nat), k < l.length → l.getD k false = false → (l.set k true).countP id = l.countP id + 1
 | b :: l, 0, _, h => by
  have hb : b = false := h
  subst hb
  simp
 | b :: l, k + 1, hk, h => by
  have ih := count_set l k (by simpa using hk) (by simpa using h)
  rw [qS2, List.countP_cons, List.countP_cons, ih]
  omega
theorem sum_one (g g' : Nat → Nat) (i : Nat) (h : ∀ n, n ≠ i → g' n = g n) (hi : g' i = g i + 1) : ∀ N, ((List.range N).map g').sum = ((List.range N).map g).sum + if i < N then 1 else 0
 | 0 => by simp
 | N + 1 => by
  rw [List.range_succ, List.map_append, List.map_append, List.sum_append, List.sum_append, sum_one g g' i h hi N]
  simp only [List.map_cons, List.map_nil, List.sum_cons, List.sum_nil]
  by_cases e : N = i
  ·subst e
   rw [hi, if_neg (Nat.lt_irrefl _), if_pos (Nat.lt_succ_self _)]
   omega
  ·rw [h N e]
   by_cases k : i < N
   ·rw [if_pos k, if_pos (by omega)]; omega
   ·rw [if_neg k, if_neg (by omega)]; omega
theorem sum_le (g g' : Nat → Nat) : ∀ N, (∀ n, n < N → g n ≤ g' n) → ((List.range N).map g).sum ≤ ((List.range N).map g').sum ∧ (((List.range N).map g).sum = ((List.range N).map g').sum → ∀ n, n < N → g n = g' n)
 | 0, _ => ⟨Nat.le_refl _, fun _ n h => by omega⟩
 | N + 1, h => by
  obtain ⟨k1, k2⟩ := sum_le g g' N fun n hn => h n (by omega)
  have hN := h N (Nat.lt_succ_self _)
  rw [List.range_succ, List.map_append, List.map_append, List.sum_append, List.sum_append]
  simp only [List.map_cons, List.map_nil, List.sum_cons, List.sum_nil]
  refine ⟨by omega, fun e n hn => ?_⟩
  by_cases hc : n = N
  ·subst hc; omega
  ·exact k2 (by omega) n (by omega)
def SV.tot (P : PP) (s : SV) : Nat := ((List.range P.nodesV).map fun n : Nat => (s.objs (n : Int)).length).sum
def totS (P : PP) (S : List (List Int)) : Nat := ((List.range P.nodesV).map fun n : Nat => (S.getD n []).length).sum
theorem set_srt {P : PP} {S : List (List Int)} (hg : P.GoodS S) (n : Nat) : Srt (S.getD n []) := by
 rw [List.getD_eq_getElem?_getD]
 cases hl : S[n]? with
 | none => exact List.Pairwise.nil
 | some l => exact (chkE_zero.1 (hg.ok.ok l (List.mem_of_getElem? hl)).1).2
theorem tot_le {P : PP} {S : List (List Int)} {s : SV} (hg : P.GoodS S) (h : Core P S s) : s.tot P ≤ totS P S ∧ (s.tot P = totS P S → ∀ n, n < P.nodesV → s.objs (n : Int) = S.getD n []) := by
 obtain ⟨k1, k2⟩ := sum_le (fun n : Nat => (s.objs (n : Int)).length) (fun n => (S.getD n []).length) P.nodesV fun n _ => (srt_len (objs_srt s n) (set_srt hg n) (h.sub n)).1
 exact ⟨k1, fun e n hn => (srt_len (objs_srt s n) (set_srt hg n) (h.sub n)).2 (k2 e n hn)⟩
theorem tot_mark {P : PP} {s : SV} (hl : s.has.length = P.nodesV) {f : Int × Int} (h1 : 0 ≤ f.1 ∧ f.1 < P.nodesV) (h2 : 0 ≤ f.2 ∧ f.2.toNat < (s.has.getD f.1.toNat []).length) (hb : s.bit f = false) : (s.mark f).tot P = s.tot P + 1 := by
 unfold SV.tot
 have hn : f.1.toNat < s.has.length := by omega
 have h1' : ∀ n : Nat, n ≠ f.1.toNat → ((s.mark f).objs (n : Int)).length = (s.objs (n : Int)).length := fun n hne => by
  rw [objs_len, objs_len]
  unfold SV.mark
  rw [getD_set2 _ _ _ _ hn, if_neg (by omega)]
 have h2' : ((s.mark f).objs ((f.1.toNat : Nat) : Int)).length = (s.objs ((f.1.toNat : Nat) : Int)).length + 1 := by
  rw [objs_len, objs_len]
  unfold SV.mark
  rw [getD_set2 _ _ _ _ hn, if_pos (by omega), Int.toNat_natCast]
  exact count_set _ _ h2.2 hb
 have key := sum_one (fun n : Nat => (s.objs (n : Int)).length) (fun n : Nat => ((s.mark f).objs (n : Int)).length) f.1.toNat h1' h2' P.nodesV
 rw [if_pos (by omega)] at key
 exact key
def SV.one (P : PP) (s : SV) : SV := match s.wait with
 | [] => s
 | f :: _ => ((s.mark f).came P f).clean
def SV.ready (s : SV) : Prop := ∀ f r, s.wait = f :: r → s.bit f = false
theorem clean_ready (s : SV) : s.clean.ready := fun _ _ h => dropWhile_head h
theorem clean_has (s : SV) : s.clean.has = s.has := rfl
theorem tot_has {P : PP} {s t : SV} (h : t.has = s.has) : t.tot P = s.tot P := by unfold SV.tot; simp only [objs_has h]
theorem Full.one {P : PP} {S : List (List Int)} {s : SV} (hg : P.GoodS S) (hc : ClosedP P S) (h : Full P S s) (hr : s.ready) {f : Int × Int} {r : List (Int × Int)} (hw : s.wait = f :: r) :
  Full P S (s.one P) ∧ (s.one P).ready ∧ (s.one P).rules = s.rules ∧ (s.one P).tot P = s.tot P + 1 := by
 have hfw := h.core.wait f (by rw [hw]; exact List.mem_cons_self)
 have hlen := hg.2.1
 have hin : f.2 ∈ S.getD f.1.toNat [] := hfw.2
 have h2 : 0 ≤ f.2 ∧ f.2 < P.objectsV := by
  rw [List.getD_eq_getElem?_getD, List.getElem?_eq_getElem (show f.1.toNat < S.length by omega)] at hin
  have hk := hg.ok.ok _ (List.getElem_mem (show f.1.toNat < S.length by omega))
  exact ⟨((chkE_zero.1 hk.1).1 _ hin).1, hk.2 _ hin⟩
 obtain ⟨k1, k2, k3⟩ := h.came hg hc hfw h2
 have hrow : (s.has.getD f.1.toNat []).length = P.objectsV := by
  have hl1 : f.1.toNat < s.has.length := by rw [h.core.len]; omega
  rw [List.getD_eq_getElem?_getD, List.getElem?_eq_getElem hl1]
  exact h.core.row _ (List.getElem_mem hl1)
 have e : s.one P = ((s.mark f).came P f).clean := by unfold SV.one; rw [hw]
 rw [e]
 refine ⟨k1.cleaned, clean_ready _, k3, ?_⟩
 rw [tot_has (clean_has _), tot_has k2]
 exact tot_mark h.core.len hfw.1 ⟨h2.1, by rw [hrow]; omega⟩ (hr f r hw)
def SV.steps (P : PP) : Nat → SV → SV × Nat
 | 0, s => (s, 0)
 | k + 1, s => match s.wait with
  | [] => (s, 0)
  | _ :: _ => ((SV.steps P k (s.one P)).1, (SV.steps P k (s.one P)).2 + 1)
theorem steps_keep {P : PP} {S : List (List Int)} (hg : P.GoodS S) (hc : ClosedP P S) : ∀ (k : Nat) {s : SV}, Full P S s → s.ready →
  Full P S (s.steps P k).1 ∧ (s.steps P k).1.ready ∧ (s.steps P k).1.rules = s.rules ∧ (s.steps P k).1.tot P = s.tot P + (s.steps P k).2 ∧ (s.steps P k).2 ≤ k ∧ ((s.steps P k).2 < k → (s.steps P k).1.wait = [])
 | 0, s, h, hr => ⟨h, hr, rfl, rfl, Nat.le_refl _, fun g => absurd g (Nat.lt_irrefl _)⟩
 | k + 1, s, h, hr => by
  unfold SV.steps
  cases hw : s.wait with
  | nil => exact ⟨h, hr, rfl, rfl, Nat.zero_le _, fun _ => hw⟩
  | cons f r =>
   obtain ⟨k1, k2, k3, k4⟩ := h.one hg hc hr hw
   obtain ⟨j1, j2, j3, j4, j5, j6⟩ := steps_keep hg hc k k1 k2
   refine ⟨j1, j2, j3.trans k3, ?_, by simp only; omega, fun g => j6 (by simp only at g; omega)⟩
   simp only
   omega
theorem Full.all {P : PP} {S : List (List Int)} {s : SV} {m : Nat} (hL : LeastAt P m S) (hw : P.Well) (h : Full P S s) (hr : ∀ r ∈ P.rulesV, r ∈ s.rules) (hrd : s.ready) : s.wait = [] ↔ s.tot P = totS P S := by
 have hg := hL.good hw
 constructor
 ·intro hwt
  unfold SV.tot totS
  congr 1
  refine List.map_congr_left fun n hn => ?_
  rw [h.done hL hw hr hwt (List.mem_range.1 hn)]
 ·intro e
  cases hwt : s.wait with
  | nil => rfl
  | cons f r =>
   have hfw := h.core.wait f (by rw [hwt]; exact List.mem_cons_self)
   have hb := hrd f r hwt
   have heq := (tot_le hg h.core).2 e f.1.toNat (by omega)
   have hin := hfw.2
   rw [← heq] at hin
   obtain ⟨_, hb2⟩ := mem_objs.1 hin
   rw [Int.toNat_of_nonneg hfw.1.1] at hb2
   rw [hb] at hb2
   cases hb2
theorem nodup_le {α : Type} [BEq α] [LawfulBEq α] : ∀ (l L : List α), l.Nodup → (∀ x ∈ l, x ∈ L) → l.length ≤ L.length
 | [], _, _, _ => Nat.zero_le _
 | x :: l, L, h, hs => by
  rw [List.nodup_cons] at h
  have hx := hs x List.mem_cons_self
  have k := nodup_le l (L.erase x) h.2 fun y hy => (List.mem_erase_of_ne (show y ≠ x from fun e => h.1 (by rw [← e]; exact hy))).2 (hs y (List.mem_cons_of_mem _ hy))
  rw [List.length_erase_of_mem hx] at k
  have := List.length_pos_of_mem hx
  rw [List.length_cons]; omega
def allPairs (N : Nat) : List (Int × Int) := (List.range N).flatMap fun a : Nat => (List.range N).map fun b : Nat => ((a : Int), (b : Int))
theorem allPairs_len (N : Nat) : (allPairs N).length = N * N := by
 unfold allPairs
 rw [List.length_flatMap]
 have : (List.range N).map (fun a : Nat => ((List.range N).map fun b : Nat => ((a : Int), (b : Int))).length) = List.replicate N N := by
  refine List.eq_replicate_iff.2 ⟨by simp, fun b hb => ?_⟩
  obtain ⟨a, _, rfl⟩ := List.mem_map.1 hb
  simp
 rw [this, List.sum_replicate_nat]
theorem mem_allPairs {N : Nat} {e : Int × Int} (h1 : 0 ≤ e.1 ∧ e.1 < N) (h2 : 0 ≤ e.2 ∧ e.2 < N) : e ∈ allPairs N :=
 List.mem_flatMap.2 ⟨e.1.toNat, List.mem_range.2 (by omega), List.mem_map.2 ⟨e.2.toNat, List.mem_range.2 (by omega), by
  rw [Int.toNat_of_nonneg h1.1, Int.toNat_of_nonneg h2.1]⟩⟩
structure SV.Bnd (P : PP) (s : SV) : Prop where
 nd : s.edges.Nodup
 ru : s.rules.length ≤ 80
 le : s.wait.length ≤ s.rules.length + s.edges.length * P.objectsV + s.tot P * 14400
theorem PP.Well.nodes {P : PP} (hw : P.Well) : P.nodesV ≤ 120 ∧ P.objectsV ≤ 126 := by
 obtain ⟨h1, h2, h3⟩ := hw.few
 have := P.nodesV_le2
 unfold PP.objectsV
 omega
section
variable {P : PP} {S : List (List Int)} {s : SV}
theorem Core.edges_few (hw : P.Well) (h : Core P S s) (hn : s.edges.Nodup) : s.edges.length ≤ 14400 := by
 have h1 := nodup_le s.edges (allPairs P.nodesV) hn fun e he => by
  obtain ⟨k1, k2, _⟩ := h.edge e he
  exact mem_allPairs k1 k2
 rw [allPairs_len] at h1
 have h2 : P.nodesV * P.nodesV ≤ 120 * 120 := Nat.mul_le_mul hw.nodes.1 hw.nodes.1
 omega
theorem objs_few (h : Core P S s) (n : Int) : (s.objs n).length ≤ P.objectsV := by
 unfold SV.objs
 rw [List.length_map]
 refine Nat.le_trans (List.length_filter_le _ _) ?_
 rw [List.length_range, List.getD_eq_getElem?_getD]
 rcases Nat.lt_or_ge n.toNat s.has.length with g | g
 ·rw [List.getElem?_eq_getElem g]
  exact Nat.le_of_eq (h.row _ (List.getElem_mem g))
 ·rw [List.getElem?_eq_none g]; exact Nat.zero_le _
theorem succ_few (s : SV) (n : Int) : (s.succ n).length ≤ s.edges.length := by
 unfold SV.succ
 rw [List.length_map]
 exact List.length_filter_le _ _
theorem SV.Bnd.edgeTo (h : Core P S s) (b : s.Bnd P) (e : Int × Int) : (s.edge e).Bnd P := by
 have ht : (s.edge e).tot P = s.tot P := tot_has (edge_has s e)
 refine ⟨?_, by rw [edge_rules]; exact b.ru, ?_⟩
 ·unfold SV.edge
  split
  ·exact b.nd
  ·rename_i hc
   refine List.nodup_append.2 ⟨b.nd, by simp, fun a ha c hc' => ?_⟩
   rw [List.mem_singleton] at hc'
   rintro rfl
   exact hc (.inr (hc' ▸ ha))
 ·rw [ht, edge_rules]
  have hle := b.le
  unfold SV.edge
  split
  ·exact hle
  ·simp only [List.length_append, List.length_map, List.length_singleton, Nat.add_mul, Nat.one_mul]
   have := objs_few h e.1
   omega
theorem bnd_edges : ∀ (l : List (Int × Int)) {s : SV}, Core P S s → (∀ e ∈ l, SndE P S e) → s.Bnd P → (l.foldl SV.edge s).Bnd P
 | [], _, _, _, b => b
 | e :: l, _, h, hs, b => bnd_edges l (h.edgeTo (hs e List.mem_cons_self)) (fun g hg => hs g (List.mem_cons_of_mem _ hg)) (b.edgeTo h e)
theorem bnd_fire (hg : P.GoodS S) (hc : ClosedP P S) (h : Core P S s) (b : s.Bnd P) {r : RV} (hr : r ∈ P.rulesV) (hf : r.fired = true) {o : Int} (ho : o ∈ S.getD r.pivot.toNat []) : (s.fire P r o).Bnd P :=
 bnd_edges _ h (fun _ he => sndE_of hg hc hr (fires_in hf ho he)) b
end
structure ST where
 node : Int
 obj : Int
 stmt : Int
 frm : Int
 via : Int
def ST.fact (s : ST) : Int × Int := (s.node, s.obj)
def facts (l : List ST) : List (Int × Int) := l.map ST.fact
def addS (l : List ST) (s : ST) : List ST := if s.fact ∈ facts l then l else l ++ [s]
def edgeUp (l0 : List ST) (e : Int × Int) (stmt via : Int) : Nat → List ST
 | 0 => l0
 | k + 1 => match l0[k]? with
  | some x => if x.node = e.1 then addS (edgeUp l0 e stmt via k) ⟨e.2, x.obj, stmt, k, via⟩ else edgeUp l0 e stmt via k
  | none => edgeUp l0 e stmt via k
def edgeS (l : List ST) (e : Int × Int) (stmt via : Int) : List ST := edgeUp l e stmt via l.length
def firesS (P : PP) (r : RV) (o : Int) (k : Nat) (l : List ST) : List ST := (P.fires r o).foldl (fun a e => edgeS a e r.k k) l
def ruleUp (P : PP) (l0 : List ST) (r : RV) : Nat → List ST
 | 0 => l0
 | k + 1 => match l0[k]? with
  | some x => if x.node = r.pivot then firesS P r x.obj k (ruleUp P l0 r k) else ruleUp P l0 r k
  | none => ruleUp P l0 r k
def ruleS (P : PP) (l : List ST) (r : RV) : List ST :=
 bif r.kind.toList == bBase.toList then addS l ⟨r.a, r.b, r.k, -1, -1⟩ else
 bif r.kind.toList == kCopy then edgeS l (r.a, r.b) r.k (-1) else ruleUp P l r l.length
def roundS (P : PP) (l : List ST) : List ST := P.rulesV.foldl (ruleS P) l
theorem addS_pre (l : List ST) (s : ST) : l <+: addS l s := by
 unfold addS
 split
 ·exact List.prefix_refl l
 ·exact List.prefix_append l [s]
theorem addS_fix {l : List ST} {s : ST} (h : addS l s = l) : s.fact ∈ facts l := by
 unfold addS at h
 split at h
 ·assumption
 ·have := congrArg List.length h
  rw [List.length_append] at this
  simp at this
theorem edgeUp_pre (l0 : List ST) (e : Int × Int) (stmt via : Int) (k : Nat) : edgeUp l0 e stmt via k <+: edgeUp l0 e stmt via (k + 1) := by
 conv => rhs; unfold edgeUp
 split
 ·split
  ·exact addS_pre _ _
  ·exact List.prefix_refl _
 ·exact List.prefix_refl _
theorem edgeUp_le (l0 : List ST) (e : Int × Int) (stmt via : Int) (k : Nat) : ∀ d, edgeUp l0 e stmt via k <+: edgeUp l0 e stmt via (k + d)
 | 0 => List.prefix_refl _
 | d + 1 => (edgeUp_le l0 e stmt via k d).trans (edgeUp_pre l0 e stmt via (k + d))
theorem edgeS_pre (l : List ST) (e : Int × Int) (stmt via : Int) : l <+: edgeS l e stmt via := by
 have := edgeUp_le l e stmt via 0 l.length
 rw [Nat.zero_add] at this
 exact this
theorem pre_same {a b : List ST} (h : a <+: b) (g : b <+: a) : a = b := h.eq_of_length (Nat.le_antisymm h.length_le g.length_le)
theorem edgeUp_at {l : List ST} {e : Int × Int} {stmt via : Int} (h : edgeS l e stmt via = l) {k : Nat} (hk : k ≤ l.length) : edgeUp l e stmt via k = l := by
 have h1 := edgeUp_le l e stmt via 0 k
 have h2 := edgeUp_le l e stmt via k (l.length - k)
 rw [Nat.zero_add] at h1
 rw [show k + (l.length - k) = l.length by omega] at h2
 unfold edgeS at h
 rw [h] at h2
 exact pre_same h2 h1
theorem edgeS_fix {l : List ST} {e : Int × Int} {stmt via : Int} (h : edgeS l e stmt via = l) {x : ST} (hx : x ∈ l) (hn : x.node = e.1) : (e.2, x.obj) ∈ facts l := by
 obtain ⟨k, hk⟩ := List.getElem?_of_mem hx
 have hkl : k < l.length := (List.getElem?_eq_some_iff.1 hk).1
 have h1 := edgeUp_at h (Nat.succ_le_of_lt hkl)
 have h0 := edgeUp_at h (Nat.le_of_lt hkl)
 unfold edgeUp at h1
 rw [hk] at h1
 simp only [hn, if_true, h0] at h1
 exact addS_fix h1
theorem fold_pre {β : Type} {f : List ST → β → List ST} (hf : ∀ a b, a <+: f a b) : ∀ (bs : List β) (l : List ST), l <+: bs.foldl f l
 | [], l => List.prefix_refl l
 | b :: bs, l => (hf l b).trans (fold_pre hf bs (f l b))
theorem fold_fix {β : Type} {f : List ST → β → List ST} (hf : ∀ a b, a <+: f a b) : ∀ (bs : List β) {l : List ST}, bs.foldl f l = l → ∀ b ∈ bs, f l b = l
 | [], _, _, _, hb => by cases hb
 | c :: bs, l, h, b, hb => by
  have h1 := hf l c
  have h2 := fold_pre hf bs (f l c)
  rw [List.foldl_cons] at h
  rw [h] at h2
  have e := pre_same h2 h1
  rcases List.mem_cons.1 hb with rfl | hb
  ·exact e
  ·rw [e] at h
   exact fold_fix hf bs h b hb
theorem firesS_pre (P : PP) (r : RV) (o : Int) (k : Nat) (l : List ST) : l <+: firesS P r o k l := fold_pre (fun a e => edgeS_pre a e r.k k) _ l
theorem ruleUp_pre (P : PP) (l0 : List ST) (r : RV) (k : Nat) : ruleUp P l0 r k <+: ruleUp P l0 r (k + 1) := by
 conv => rhs; unfold ruleUp
 split
 ·split
  ·exact firesS_pre P r _ _ _
  ·exact List.prefix_refl _
 ·exact List.prefix_refl _
theorem ruleUp_le (P : PP) (l0 : List ST) (r : RV) (k : Nat) : ∀ d, ruleUp P l0 r k <+: ruleUp P l0 r (k + d)
 | 0 => List.prefix_refl _
 | d + 1 => (ruleUp_le P l0 r k d).trans (ruleUp_pre P l0 r (k + d))
theorem ruleUp_zero (P : PP) (l : List ST) (r : RV) (k : Nat) : l <+: ruleUp P l r k := by
 have := ruleUp_le P l r 0 k
 rw [Nat.zero_add] at this
 exact this
theorem ruleUp_at {P : PP} {l : List ST} {r : RV} (h : ruleUp P l r l.length = l) {k : Nat} (hk : k ≤ l.length) : ruleUp P l r k = l := by
 have h2 := ruleUp_le P l r k (l.length - k)
 rw [show k + (l.length - k) = l.length by omega, h] at h2
 exact pre_same h2 (ruleUp_zero P l r k)
theorem ruleUp_fix {P : PP} {l : List ST} {r : RV} (h : ruleUp P l r l.length = l) {y : ST} (hy : y ∈ l) (hn : y.node = r.pivot) {e : Int × Int} (he : e ∈ P.fires r y.obj) {x : ST} (hx : x ∈ l) (hxn : x.node = e.1) : (e.2, x.obj) ∈ facts l := by
 obtain ⟨k, hk⟩ := List.getElem?_of_mem hy
 have hkl : k < l.length := (List.getElem?_eq_some_iff.1 hk).1
 have h1 := ruleUp_at h (Nat.succ_le_of_lt hkl)
 have h0 := ruleUp_at h (Nat.le_of_lt hkl)
 unfold ruleUp at h1
 rw [hk] at h1
 simp only [hn, if_true, h0] at h1
 exact edgeS_fix (fold_fix (fun a e => edgeS_pre a e r.k k) _ h1 e he) hx hxn
theorem ruleS_pre (P : PP) (l : List ST) (r : RV) : l <+: ruleS P l r := by
 unfold ruleS
 cases (r.kind.toList == bBase.toList) with
 | true => exact addS_pre _ _
 | false =>
  cases (r.kind.toList == kCopy) with
  | true => exact edgeS_pre _ _ _ _
  | false => exact ruleUp_zero P l r l.length
theorem roundS_pre (P : PP) (l : List ST) : l <+: roundS P l := fold_pre (ruleS_pre P) _ l
def FolS (P : PP) (l : List ST) (s : ST) (i : Nat) : Prop := ∃ k, s.stmt = ((k : Nat) : Int) ∧ k < P.stmts.length ∧
 (((P.ruleV k (P.stAt k)).kind.toList = bBase.toList ∧ s.fact = ((P.ruleV k (P.stAt k)).a, (P.ruleV k (P.stAt k)).b) ∧ s.frm = -1 ∧ s.via = -1) ∨
  ((P.ruleV k (P.stAt k)).kind.toList = kCopy ∧ s.via = -1 ∧ ∃ (f : Nat) (x : ST), s.frm = (f : Int) ∧ f < i ∧ l[f]? = some x ∧ x.fact = ((P.ruleV k (P.stAt k)).a, s.obj) ∧ s.node = (P.ruleV k (P.stAt k)).b) ∨
  ((P.ruleV k (P.stAt k)).fired = true ∧ ∃ (f : Nat) (x : ST) (v : Nat) (y : ST), s.frm = (f : Int) ∧ f < i ∧ l[f]? = some x ∧ x.obj = s.obj ∧ s.via = (v : Int) ∧ v < i ∧ l[v]? = some y ∧ y.node = (P.ruleV k (P.stAt k)).pivot ∧ (x.node, s.node) ∈ P.fires (P.ruleV k (P.stAt k)) y.obj))
theorem pre_at {a b : List ST} (h : a <+: b) {i : Nat} {x : ST} (hx : a[i]? = some x) : b[i]? = some x := by
 obtain ⟨t, rfl⟩ := h
 rw [List.getElem?_append_left (List.getElem?_eq_some_iff.1 hx).1]
 exact hx
theorem FolS.more {P : PP} {a b : List ST} {s : ST} {i j : Nat} (h : FolS P a s i) (hp : a <+: b) (hij : i ≤ j) : FolS P b s j := by
 obtain ⟨k, h1, h2, h3⟩ := h
 refine ⟨k, h1, h2, ?_⟩
 rcases h3 with h3 | ⟨g1, g2, f, x, g3, g4, g5, g6⟩ | ⟨g1, f, x, v, y, g2, g3, g4, g5, g6, g7, g8, g9⟩
 ·exact .inl h3
 ·exact .inr (.inl ⟨g1, g2, f, x, g3, by omega, pre_at hp g5, g6⟩)
 ·exact .inr (.inr ⟨g1, f, x, v, y, g2, by omega, pre_at hp g4, g5, g6, by omega, pre_at hp g8, g9⟩)
structure WhyOk (P : PP) (S : List (List Int)) (l : List ST) : Prop where
 nd : (facts l).Nodup
 fol : ∀ i s, l[i]? = some s → FolS P l s i
 snd : ∀ s ∈ l, (0 ≤ s.node ∧ s.node < P.nodesV) ∧ s.obj ∈ S.getD s.node.toNat []
theorem WhyOk.nil (P : PP) (S : List (List Int)) : WhyOk P S [] := ⟨List.nodup_nil, fun _ _ h => by simp at h, fun _ h => by cases h⟩
section
variable {P : PP} {S : List (List Int)} {l : List ST}
theorem WhyOk.add (h : WhyOk P S l) {s : ST} (hf : FolS P l s l.length) (hs : (0 ≤ s.node ∧ s.node < P.nodesV) ∧ s.obj ∈ S.getD s.node.toNat []) : WhyOk P S (addS l s) := by
 unfold addS
 split
 ·exact h
 ·rename_i hn
  refine ⟨?_, fun i x hx => ?_, fun x hx => ?_⟩
  ·unfold facts
   rw [List.map_append]
   refine List.nodup_append.2 ⟨h.nd, by simp, fun a ha c hc => ?_⟩
   simp only [List.map_cons, List.map_nil, List.mem_singleton] at hc
   rintro rfl
   exact hn (hc ▸ ha)
  ·rcases Nat.lt_trichotomy i l.length with g | g | g
   ·rw [List.getElem?_append_left g] at hx
    exact (h.fol i x hx).more (List.prefix_append _ _) (Nat.le_refl _)
   ·subst g
    rw [List.getElem?_concat_length] at hx
    obtain rfl := Option.some.inj hx
    exact hf.more (List.prefix_append _ _) (Nat.le_refl _)
   ·rw [List.getElem?_eq_none (by rw [List.length_append, List.length_singleton]; omega)] at hx; cases hx
  ·rcases List.mem_append.1 hx with hx | hx
   ·exact h.snd x hx
   ·rw [List.mem_singleton.1 hx]; exact hs
theorem WhyOk.edgeUp (h : WhyOk P S l) {e : Int × Int} {stmt via : Int} (he : SndE P S e) (H : ∀ a, l <+: a → ∀ (k : Nat) x, l[k]? = some x → x.node = e.1 → FolS P a ⟨e.2, x.obj, stmt, k, via⟩ a.length) : ∀ k, WhyOk P S (edgeUp l e stmt via k)
 | 0 => h
 | k + 1 => by
  have ih := h.edgeUp he H k
  unfold Go.Proofs.YtngdpnlgnpdkcaaGreatDoor.edgeUp
  split
  ·rename_i x hx
   split
   ·rename_i hn
    have hp := edgeUp_le l e stmt via 0 k
    rw [Nat.zero_add] at hp
    refine ih.add (H _ hp k x hx hn) ⟨he.2.1, ?_⟩
    have hs := h.snd x (List.mem_of_getElem? hx)
    rw [hn] at hs
    exact he.2.2 _ hs.2
   ·exact ih
  ·exact ih
theorem rule_stmt {k : Nat} (x : PS) : (P.ruleV k x).k = k := by
 unfold PP.ruleV
 cases x.isK kAddr with
 | true => rfl
 | false =>
 cases x.isK kNew with
 | true => rfl
 | false =>
 cases x.isK kFun with
 | true => rfl
 | false =>
 cases x.isK kCall with
 | true => rfl
 | false => rfl
theorem WhyOk.fires (hg : P.GoodS S) (hc : ClosedP P S) {k : Nat} (hk : k < P.stmts.length) (hf : (P.ruleV k (P.stAt k)).fired = true) {v : Nat} {y : ST} (hn : y.node = (P.ruleV k (P.stAt k)).pivot) : ∀ (es : List (Int × Int)) {l : List ST}, WhyOk P S l → l[v]? = some y → (∀ e ∈ es, e ∈ P.fires (P.ruleV k (P.stAt k)) y.obj) →
  WhyOk P S (es.foldl (fun a e => edgeS a e (P.ruleV k (P.stAt k)).k v) l)
 | [], _, h, _, _ => h
 | e :: es, l, h, hv, hs => by
  have he := hs e List.mem_cons_self
  have hy := h.snd y (List.mem_of_getElem? hv)
  rw [hn] at hy
  have hrv : P.ruleV k (P.stAt k) ∈ P.rulesV := List.mem_map.2 ⟨k, List.mem_range.2 hk, rfl⟩
  have hsn := sndE_of hg hc hrv (fires_in hf hy.2 he)
  have hvl : v < l.length := (List.getElem?_eq_some_iff.1 hv).1
  have h1 : WhyOk P S (edgeS l e (P.ruleV k (P.stAt k)).k v) := h.edgeUp hsn (fun a hp j x hx hxn => by
   have hal := hp.length_le
   have hjl : j < l.length := (List.getElem?_eq_some_iff.1 hx).1
   refine ⟨k, rule_stmt _, hk, .inr (.inr ⟨hf, j, x, v, y, rfl, by omega, pre_at hp hx, rfl, rfl, by omega, pre_at hp hv, hn, ?_⟩)⟩
   rw [hxn]; exact he) l.length
  exact WhyOk.fires hg hc hk hf hn es h1 (pre_at (edgeS_pre _ _ _ _) hv) fun g hgm => hs g (List.mem_cons_of_mem _ hgm)
theorem WhyOk.ruleUp (hg : P.GoodS S) (hc : ClosedP P S) {k : Nat} (hk : k < P.stmts.length) (hf : (P.ruleV k (P.stAt k)).fired = true) (h : WhyOk P S l) : ∀ j, WhyOk P S (ruleUp P l (P.ruleV k (P.stAt k)) j)
 | 0 => h
 | j + 1 => by
  have ih := WhyOk.ruleUp hg hc hk hf h j
  unfold Go.Proofs.YtngdpnlgnpdkcaaGreatDoor.ruleUp
  split
  ·rename_i x hx
   split
   ·rename_i hn
    exact WhyOk.fires hg hc hk hf hn _ ih (pre_at (ruleUp_zero P l _ j) hx) fun e he => he
   ·exact ih
  ·exact ih
theorem WhyOk.rule (hg : P.GoodS S) (hc : ClosedP P S) (h : WhyOk P S l) {r : RV} (hr : r ∈ P.rulesV) : WhyOk P S (ruleS P l r) := by
 obtain ⟨k, hk, rfl⟩ := List.mem_map.1 hr
 have hk := List.mem_range.1 hk
 unfold ruleS
 cases h1 : ((P.ruleV k (P.stAt k)).kind.toList == bBase.toList) with
 | true =>
  have hb := eq_of_beq h1
  have ha := rule_a_in hg.1 hk
  have hnv := nodes_vars P
  exact h.add ⟨k, rule_stmt _, hk, .inl ⟨hb, rfl, rfl, rfl⟩⟩ ⟨⟨ha.1, by simp only; omega⟩, hc.base k hk hb⟩
 | false =>
 have n1 : (P.ruleV k (P.stAt k)).kind.toList ≠ bBase.toList := fun e => by rw [e] at h1; simp at h1
 cases h2 : ((P.ruleV k (P.stAt k)).kind.toList == kCopy) with
 | true =>
  have hb := eq_of_beq h2
  have hsn : SndE P S ((P.ruleV k (P.stAt k)).a, (P.ruleV k (P.stAt k)).b) := sndE_of hg hc hr (by unfold PP.redges; rw [h2, cond_true]; exact List.mem_singleton.2 rfl)
  exact h.edgeUp hsn (fun a hp j x hx hxn => by
   have hal := hp.length_le
   have hjl : j < l.length := (List.getElem?_eq_some_iff.1 hx).1
   refine ⟨k, rule_stmt _, hk, .inr (.inl ⟨hb, rfl, j, x, rfl, by omega, pre_at hp hx, ?_, rfl⟩)⟩
   unfold ST.fact; rw [hxn]) l.length
 | false =>
 have n2 : (P.ruleV k (P.stAt k)).kind.toList ≠ kCopy := fun e => by rw [e] at h2; simp at h2
 have hf : (P.ruleV k (P.stAt k)).fired = true := by
  rcases rule_kinds hg.1 hr with g | g | g
  ·exact absurd g n1
  ·exact absurd g n2
  ·exact g
 exact WhyOk.ruleUp hg hc hk hf h l.length
theorem WhyOk.rules (hg : P.GoodS S) (hc : ClosedP P S) : ∀ (rs : List RV) {l : List ST}, WhyOk P S l → (∀ r ∈ rs, r ∈ P.rulesV) → WhyOk P S (rs.foldl (ruleS P) l)
 | [], _, h, _ => h
 | r :: rs, _, h, hr => WhyOk.rules hg hc rs (h.rule hg hc (hr r List.mem_cons_self)) fun q hq => hr q (List.mem_cons_of_mem _ hq)
theorem WhyOk.round (hg : P.GoodS S) (hc : ClosedP P S) (h : WhyOk P S l) : WhyOk P S (roundS P l) := WhyOk.rules hg hc _ h fun _ hr => hr
theorem objs_in {S : List (List Int)} (hg : P.GoodS S) {n : Int} (hn : 0 ≤ n ∧ n < P.nodesV) {o : Int} (ho : o ∈ S.getD n.toNat []) : 0 ≤ o ∧ o < P.objectsV := by
 have hlen := hg.2.1
 rw [List.getD_eq_getElem?_getD, List.getElem?_eq_getElem (show n.toNat < S.length by omega)] at ho
 have hk := hg.ok.ok _ (List.getElem_mem (show n.toNat < S.length by omega))
 exact ⟨((chkE_zero.1 hk.1).1 _ ho).1, hk.2 _ ho⟩
theorem WhyOk.few (hg : P.GoodS S) (h : WhyOk P S l) : l.length ≤ 15876 := by
 obtain ⟨h1, h2⟩ := hg.1.nodes
 have := nodup_le (facts l) (allPairs 126) h.nd fun x hx => by
  obtain ⟨s, hs, rfl⟩ := List.mem_map.1 hx
  obtain ⟨k1, k2⟩ := h.snd s hs
  have k3 := objs_in hg k1 k2
  exact mem_allPairs (by simp only [ST.fact]; omega) (by simp only [ST.fact]; omega)
 rw [allPairs_len] at this
 unfold facts at this
 rw [List.length_map] at this
 exact this
def tells (P : PP) (l : List ST) (n : Nat) : List Int := ((List.range P.objectsV).filter fun o : Nat => decide (((n : Int), (o : Int)) ∈ facts l)).map fun o : Nat => (o : Int)
def tellsV (P : PP) (l : List ST) : List (List Int) := (List.range P.nodesV).map (tells P l)
theorem tellsV_getD {n : Nat} (hn : n < P.nodesV) : (tellsV P l).getD n [] = tells P l n := by
 unfold tellsV
 rw [List.getD_eq_getElem?_getD, List.getElem?_map, List.getElem?_range hn]; rfl
theorem mem_tells {n : Nat} {o : Int} : o ∈ tells P l n ↔ (0 ≤ o ∧ o < P.objectsV) ∧ ((n : Int), o) ∈ facts l := by
 unfold tells
 rw [List.mem_map]
 constructor
 ·rintro ⟨k, hk, rfl⟩
  obtain ⟨h1, h2⟩ := List.mem_filter.1 hk
  have := List.mem_range.1 h1
  exact ⟨by omega, of_decide_eq_true h2⟩
 ·rintro ⟨h0, h⟩
  obtain ⟨k, rfl⟩ := Int.eq_ofNat_of_zero_le h0.1
  exact ⟨k, List.mem_filter.2 ⟨List.mem_range.2 (by omega), decide_eq_true h⟩, rfl⟩
theorem tells_srt (P : PP) (l : List ST) (n : Nat) : Srt (tells P l n) := by
 unfold tells
 show List.Pairwise (· < ·) _
 rw [List.pairwise_map]
 exact List.Pairwise.imp (R := (· < ·)) (fun h => by omega) (List.Pairwise.sublist List.filter_sublist List.pairwise_lt_range)
theorem tells_good (hw : P.Well) (l : List ST) : P.GoodS (tellsV P l) := by
 have h126 := nodesV_le P hw
 have hf := hw.few
 refine ⟨hw, by unfold tellsV; rw [List.length_map, List.length_range], fun q hq => ?_⟩
 obtain ⟨n, hn, rfl⟩ := List.mem_map.1 hq
 refine setE_of (chkE_zero.2 ⟨fun x hx => ?_, tells_srt P l n⟩) fun x hx => (mem_tells.1 hx).1.2
 have := (mem_tells.1 hx).1
 unfold PP.objectsV at this
 omega
theorem WhyOk.done {m : Nat} (hL : LeastAt P m S) (hw : P.Well) (h : WhyOk P S l) (hfix : roundS P l = l) {n : Nat} (hn : n < P.nodesV) {o : Int} (ho : o ∈ S.getD n []) : ((n : Int), o) ∈ facts l := by
 have hg := hL.good hw
 have hgs := tells_good hw l
 have hrf := fold_fix (ruleS_pre P) _ hfix
 have hin : ∀ {a : Int}, 0 ≤ a → ∀ {o : Int}, (a, o) ∈ facts l ↔ (((a.toNat : Nat) : Int), o) ∈ facts l := fun ha => by rw [Int.toNat_of_nonneg ha]
 have hofact : ∀ {a o : Int}, (a, o) ∈ facts l → 0 ≤ o ∧ o < P.objectsV := fun hf => by
  obtain ⟨s, hs, e⟩ := List.mem_map.1 hf
  obtain ⟨k1, k2⟩ := h.snd s hs
  have := objs_in hg k1 k2
  unfold ST.fact at e
  obtain ⟨_, rfl⟩ := Prod.mk.inj e
  exact this
 have hcl : ClosedP P (tellsV P l) := by
  refine ⟨fun k hk hb => ?_, fun e he hne q hq => ?_⟩
  ·have hrk : P.ruleV k (P.stAt k) ∈ P.rulesV := List.mem_map.2 ⟨k, List.mem_range.2 hk, rfl⟩
   have ha := rule_a_in hw hk
   have hnv := nodes_vars P
   have hfx := hrf _ hrk
   unfold ruleS at hfx
   rw [hb, beq_self_eq_true, cond_true] at hfx
   have hf := addS_fix hfx
   rw [tellsV_getD (by omega)]
   exact mem_tells.2 ⟨hofact hf, (hin ha.1).1 hf⟩
  ·obtain ⟨r, hrv, her⟩ := List.mem_flatMap.1 he
   obtain ⟨i1, i2, i3, i4⟩ := edges0_in hw hgs.ok e he
   have hfx := hrf r hrv
   rw [tellsV_getD (by omega)] at hq ⊢
   obtain ⟨q0, qf⟩ := mem_tells.1 hq
   have qf := (hin i1).2 qf
   obtain ⟨x, hx, hxe⟩ := List.mem_map.1 qf
   unfold ST.fact at hxe
   obtain ⟨x1, x2⟩ := Prod.mk.inj hxe
   have key : (e.2, x.obj) ∈ facts l := by
    unfold ruleS at hfx
    cases hfd : r.fired with
    | false =>
     rcases rule_kinds hw hrv with g | g | g
     ·rw [redges_nil' g] at her; cases her
     ·have n1 : (r.kind.toList == bBase.toList) = false := by rw [g, eq_of_beq bBase_list]; decide
      have n2 : (r.kind.toList == kCopy) = true := by rw [g]; decide
      rw [n1, n2, cond_false, cond_true] at hfx
      have her2 : e = (r.a, r.b) := by
       unfold PP.redges at her
       rw [n2, cond_true] at her
       exact List.mem_singleton.1 her
      rw [← her2] at hfx
      exact edgeS_fix hfx hx x1
     ·rw [hfd] at g; cases g
    | true =>
     obtain ⟨k1, k2⟩ := fired_kinds hfd
     have n1 : (r.kind.toList == bBase.toList) = false := by
      cases g : (r.kind.toList == bBase.toList) with
      | false => rfl
      | true => exact absurd (eq_of_beq g) k1
     have n2 : (r.kind.toList == kCopy) = false := by
      cases g : (r.kind.toList == kCopy) with
      | false => rfl
      | true => exact absurd (eq_of_beq g) k2
     rw [n1, n2, cond_false, cond_false] at hfx
     obtain ⟨i, hi, hri⟩ := List.mem_map.1 hrv
     have hi := List.mem_range.1 hi
     have hp0 : 0 ≤ r.pivot := by rw [← hri]; exact pivot_in hw hi (by rw [hri]; exact hfd)
     obtain ⟨o, ho, hfo⟩ := redges_out hfd her
     have hpn : r.pivot.toNat < P.nodesV := by
      rcases Nat.lt_or_ge r.pivot.toNat P.nodesV with g | g
      ·exact g
      ·rw [List.getD_eq_getElem?_getD, List.getElem?_eq_none (by rw [hgs.2.1]; exact g)] at ho; cases ho
     rw [tellsV_getD hpn] at ho
     have hyf := (hin hp0).2 (mem_tells.1 ho).2
     obtain ⟨y, hy, hye⟩ := List.mem_map.1 hyf
     unfold ST.fact at hye
     obtain ⟨y1, y2⟩ := Prod.mk.inj hye
     exact ruleUp_fix hfx hy y1 (by rw [y2]; exact hfo) hx x1
   rw [x2] at key
   exact mem_tells.2 ⟨hofact key, (hin i3).1 key⟩
 have := hL.within hgs hcl n o ho
 rw [tellsV_getD hn] at this
 exact (mem_tells.1 this).2
end
def dST : ST := ⟨0, 0, 0, 0, 0⟩
def kept (M : List Int) (n : Nat) : List Nat := (List.range n).filter fun j : Nat => decide ((j : Int) ∈ M)
def rankI (M : List Int) (c : Int) : Int := if c < 0 then -1 else ((kept M c.toNat).length : Int)
def renum (M : List Int) (s : ST) : ST := ⟨s.node, s.obj, s.stmt, rankI M s.frm, rankI M s.via⟩
def neededUp (l : List ST) (M : List Int) (n : Nat) : List ST := (kept M n).map fun j => renum M (l.getD j dST)
structure Marked (l : List ST) (M : List Int) (last : Nat) : Prop where
 top : ((last : Nat) : Int) ∈ M
 le : ∀ j ∈ M, 0 ≤ j ∧ j ≤ last
 kid : ∀ (j : Nat) s, (j : Int) ∈ M → l[j]? = some s → (0 ≤ s.frm → s.frm ∈ M) ∧ (0 ≤ s.via → s.via ∈ M)
theorem kept_succ (M : List Int) (n : Nat) : kept M (n + 1) = kept M n ++ if (n : Int) ∈ M then [n] else [] := by
 unfold kept
 rw [List.range_succ, List.filter_append]
 congr 1
 by_cases h : (n : Int) ∈ M
 ·rw [List.filter_cons, decide_eq_true h, if_pos h]; rfl
 ·rw [List.filter_cons, decide_eq_false h, if_neg h]; rfl
theorem kept_at {M : List Int} {j : Nat} (hj : (j : Int) ∈ M) : ∀ d, (kept M (j + 1 + d))[(kept M j).length]? = some j
 | 0 => by rw [Nat.add_zero, kept_succ, if_pos hj, List.getElem?_concat_length]
 | d + 1 => by
  have ih := kept_at hj d
  rw [show j + 1 + (d + 1) = (j + 1 + d) + 1 by omega, kept_succ, List.getElem?_append_left (List.getElem?_eq_some_iff.1 ih).1]
  exact ih
theorem kept_lt {M : List Int} {n j : Nat} (hj : (j : Int) ∈ M) (hn : j < n) : (kept M n)[(kept M j).length]? = some j := by
 have := kept_at hj (n - (j + 1))
 rwa [show j + 1 + (n - (j + 1)) = n by omega] at this
theorem kept_nodup (M : List Int) (n : Nat) : (kept M n).Nodup := List.nodup_range.sublist List.filter_sublist
theorem mem_kept {M : List Int} {n j : Nat} : j ∈ kept M n ↔ j < n ∧ (j : Int) ∈ M := by
 unfold kept
 rw [List.mem_filter, List.mem_range]
 exact ⟨fun h => ⟨h.1, of_decide_eq_true h.2⟩, fun h => ⟨h.1, decide_eq_true h.2⟩⟩
theorem kept_rank {M : List Int} {n i j : Nat} (h : (kept M n)[i]? = some j) : j < n ∧ (j : Int) ∈ M ∧ (kept M j).length = i := by
 obtain ⟨hn, hj⟩ := mem_kept.1 (List.mem_of_getElem? h)
 have h2 := kept_lt hj hn
 obtain ⟨l1, e1⟩ := List.getElem?_eq_some_iff.1 h
 obtain ⟨l2, e2⟩ := List.getElem?_eq_some_iff.1 h2
 exact ⟨hn, hj, (List.getElem_inj (kept_nodup M n)).1 (e2.trans e1.symm)⟩
theorem kept_mono (M : List Int) (j : Nat) : ∀ d, (kept M j).length ≤ (kept M (j + d)).length
 | 0 => Nat.le_refl _
 | d + 1 => by
  rw [show j + (d + 1) = (j + d) + 1 by omega, kept_succ, List.length_append]
  have := kept_mono M j d
  omega
theorem rank_lt {M : List Int} {f j : Nat} (hf : (f : Int) ∈ M) (h : f < j) : (kept M f).length < (kept M j).length := by
 have := kept_mono M (f + 1) (j - (f + 1))
 rw [show f + 1 + (j - (f + 1)) = j by omega, kept_succ, if_pos hf, List.length_append, List.length_singleton] at this
 omega
theorem rankI_nat (M : List Int) (f : Nat) : rankI M (f : Int) = ((kept M f).length : Int) := by
 unfold rankI
 rw [if_neg (by omega), Int.toNat_natCast]
section
variable {P : PP} {S : List (List Int)} {l : List ST} {M : List Int}
theorem needed_get {i : Nat} {s : ST} (h : (neededUp l M l.length)[i]? = some s) : ∃ (j : Nat) (x : ST), l[j]? = some x ∧ (j : Int) ∈ M ∧ (kept M j).length = i ∧ s = renum M x := by
 unfold neededUp at h
 rw [List.getElem?_map] at h
 obtain ⟨j, hj, rfl⟩ := Option.map_eq_some_iff.1 h
 obtain ⟨h1, h2, h3⟩ := kept_rank hj
 refine ⟨j, l[j], List.getElem?_eq_getElem h1, h2, h3, ?_⟩
 rw [List.getD_eq_getElem?_getD, List.getElem?_eq_getElem h1]; rfl
theorem needed_put {j : Nat} {x : ST} (hx : l[j]? = some x) (hj : (j : Int) ∈ M) : (neededUp l M l.length)[(kept M j).length]? = some (renum M x) := by
 have hjl := (List.getElem?_eq_some_iff.1 hx).1
 unfold neededUp
 rw [List.getElem?_map, kept_lt hj hjl, Option.map_some, List.getD_eq_getElem?_getD, hx]; rfl
theorem needed_ok (h : WhyOk P S l) {last : Nat} (hm : Marked l M last) : WhyOk P S (neededUp l M l.length) := by
 refine ⟨?_, fun i s hs => ?_, fun s hs => ?_⟩
 ·have e : facts (neededUp l M l.length) = (kept M l.length).map fun j => (l.getD j dST).fact := by
   unfold facts neededUp
   rw [List.map_map]; rfl
  have e2 : facts l = (List.range l.length).map fun j => (l.getD j dST).fact := by
   unfold facts
   refine List.ext_getElem (by simp) fun i h1 h2 => ?_
   rw [List.getElem_map, List.getElem_map, List.getElem_range, List.getD_eq_getElem?_getD, List.getElem?_eq_getElem (by simpa using h1)]; rfl
  rw [e]
  have hn := h.nd
  rw [e2] at hn
  exact hn.sublist (List.filter_sublist.map _)
 ·obtain ⟨j, x, hx, hj, rfl, rfl⟩ := needed_get hs
  obtain ⟨k, h1, h2, h3⟩ := h.fol j x hx
  obtain ⟨hk1, hk2⟩ := hm.kid j x hj hx
  refine ⟨k, h1, h2, ?_⟩
  rcases h3 with ⟨g1, g2, g3, g4⟩ | ⟨g1, g2, f, y, g3, g4, g5, g6, g7⟩ | ⟨g1, f, y, v, z, g2, g3, g4, g5, g6, g7, g8, g9, g10⟩
  ·exact .inl ⟨g1, g2, by simp only [renum]; rw [g3]; rfl, by simp only [renum]; rw [g4]; rfl⟩
  ·have hf : (f : Int) ∈ M := by rw [← g3]; exact hk1 (by omega)
   exact .inr (.inl ⟨g1, by simp only [renum]; rw [g2]; rfl, (kept M f).length, renum M y, by simp only [renum]; rw [g3, rankI_nat], rank_lt hf g4, needed_put g5 hf, g6, g7⟩)
  ·have hf : (f : Int) ∈ M := by rw [← g2]; exact hk1 (by omega)
   have hv : (v : Int) ∈ M := by rw [← g6]; exact hk2 (by omega)
   exact .inr (.inr ⟨g1, (kept M f).length, renum M y, (kept M v).length, renum M z, by simp only [renum]; rw [g2, rankI_nat], rank_lt hf g3, needed_put g4 hf, g5, by simp only [renum]; rw [g6, rankI_nat], rank_lt hv g7, needed_put g8 hv, g9, g10⟩)
 ·obtain ⟨i, hi⟩ := List.getElem?_of_mem hs
  obtain ⟨j, x, hx, _, _, rfl⟩ := needed_get hi
  exact h.snd x (List.mem_of_getElem? hx)
theorem kept_stop {last : Nat} (h : ∀ j ∈ M, 0 ≤ j ∧ j ≤ (last : Int)) : ∀ d, kept M (last + 1 + d) = kept M (last + 1)
 | 0 => rfl
 | d + 1 => by
  rw [show last + 1 + (d + 1) = (last + 1 + d) + 1 by omega, kept_succ, if_neg fun g => by have := h _ g; omega, List.append_nil]
  exact kept_stop h d
theorem needed_last {last : Nat} (hm : Marked l M last) (hl : last < l.length) : ∃ m, neededUp l M l.length = m ++ [renum M (l.getD last dST)] := by
 have e : kept M l.length = kept M last ++ [last] := by
  have := kept_stop hm.le (l.length - (last + 1))
  rw [show last + 1 + (l.length - (last + 1)) = l.length by omega] at this
  rw [this, kept_succ, if_pos hm.top]
 unfold neededUp
 rw [e, List.map_append]
 exact ⟨_, rfl⟩
end
end Go.Proofs.YtngdpnlgnpdkcaaGreatDoor
namespace Go.Proofs.YtngdpnlgnpdkcaaGreatDoor
open Go Go.RowKit Go.MapKept
open Go.Maps (Keyed)
section
variable {κ : Type} [DecidableEq κ]
def kget (m : List (κ × Value)) (k : κ) : Option Value := (m.find? fun x => decide (x.1 = k)).map (·.2)
theorem kget_none {m : List (κ × Value)} {k : κ} (h : ∀ x ∈ m, x.1 ≠ k) : kget m k = none := by
 unfold kget
 rw [List.find?_eq_none.2 fun x hx => by simpa using h x hx]; rfl
theorem kget_at {m : List (κ × Value)} (hn : (m.map (·.1)).Nodup) {j : Nat} {k : κ} {v : Value} (h : m[j]? = some (k, v)) : kget m k = some v := by
 induction m generalizing j with
 | nil => simp at h
 | cons x r ih =>
  rw [List.map_cons, List.nodup_cons] at hn
  unfold kget
  rw [List.find?_cons]
  cases j with
  | zero =>
   rw [List.getElem?_cons_zero] at h
   obtain rfl := Option.some.inj h
   simp
  | succ j =>
   rw [List.getElem?_cons_succ] at h
   have hx : x.1 ≠ k := fun e => hn.1 (by rw [e]; exact List.mem_map.2 ⟨(k, v), List.mem_of_getElem? h, rfl⟩)
   rw [decide_eq_false hx]
   exact ih hn.2 h
def KMap (P : Program) (kt : TypeId) (enc : κ → Value) (w : World) (b : Nat) (f : κ → Option Value) : Prop :=
 ∃ es clock, ∃ m : List (κ × Value), w.heap[b]? = some (.map es clock) ∧ es.toList.map (fun x => (x.key, x.val)) = m.map (fun x => (enc x.1, x.2)) ∧ (m.map (·.1)).Nodup ∧ (∀ x ∈ m, ∃ l, keyOf P kt (enc x.1) = some l) ∧ ∀ k, kget m k = f k
variable {P : Program} {kt : TypeId} {enc : κ → Value} {w : World} {b : Nat} {f : κ → Option Value}
theorem KMap.keep {X : Nat → Prop} {w' : World} (h : KMap P kt enc w b f) (x : Keep X w w') (hx : ¬ X b) : KMap P kt enc w' b f := by
 obtain ⟨es, c, m, hb, he⟩ := h
 exact ⟨es, c, m, Keep.get x hb hx, he⟩
theorem KMap.ext {w' : World} (h : KMap P kt enc w b f) (x : Ext w w') : KMap P kt enc w' b f := by
 obtain ⟨es, c, m, hb, he⟩ := h
 exact ⟨es, c, m, Ext.get x hb, he⟩
theorem KMap.lt (h : KMap P kt enc w b f) : b < w.heap.size := by
 obtain ⟨es, c, m, hb, he⟩ := h
 exact (Array.getElem?_eq_some_iff.1 hb).1
theorem KMap.ne {g : Nat} (h : KMap P kt enc w b f) {c : Array Value} {e : TypeId} (hb : Blk w g c e) : g ≠ b := by
 rintro rfl
 obtain ⟨es, c, m, h1, _⟩ := h
 have := h1.symm.trans hb
 cases this
theorem KMap.eq {g : κ → Option Value} (h : KMap P kt enc w b f) (e : ∀ k, f k = g k) : KMap P kt enc w b g := by
 obtain ⟨es, c, m, h1, h2, h3, h4, h5⟩ := h
 exact ⟨es, c, m, h1, h2, h3, h4, fun k => (h5 k).trans (e k)⟩
theorem KMap.new (P : Program) (kt : TypeId) (enc : κ → Value) (w : World) : KMap P kt enc (w.alloc (.map #[] 0)) w.heap.size (fun _ => none) := ⟨#[], 0, [], heap_alloc_new w _, rfl, List.nodup_nil, fun _ h => by simp at h, fun _ => rfl⟩
omit [DecidableEq κ] in
theorem KMap.found (K : Keyed P kt) (hinj : ∀ a c : κ, enc a = enc c → a = c) {es : Array MapEntry} {m : List (κ × Value)} (he : es.toList.map (fun x => (x.key, x.val)) = m.map (fun x => (enc x.1, x.2))) (hn : (m.map (·.1)).Nodup) (hk : ∀ x ∈ m, ∃ l, keyOf P kt (enc x.1) = some l)
  {k : κ} {l : Lit} (hl : keyOf P kt (enc k) = some l) : ((Instr.findKey kt (enc k) es.toList).run P w = .ok none w ∧ ∀ x ∈ m, x.1 ≠ k) ∨ ∃ j e v, (Instr.findKey kt (enc k) es.toList).run P w = .ok (some (j, v)) w ∧ m[j]? = some (k, v) ∧ es[j]? = some e ∧ e.key = enc k := by
 have hall : ∀ e ∈ es.toList, ∃ l, keyOf P kt e.key = some l := fun e h => by
  have : (e.key, e.val) ∈ m.map (fun x => (enc x.1, x.2)) := by rw [← he]; exact List.mem_map.2 ⟨e, h, rfl⟩
  obtain ⟨x, hx, h2⟩ := List.mem_map.1 this
  obtain ⟨l, hl⟩ := hk x hx
  exact ⟨l, by rw [← (Prod.mk.inj h2).1]; exact hl⟩
 rcases K.find w hl es.toList hall with ⟨h1, h2⟩ | ⟨j, e, h1, h2, h3⟩
 ·refine .inl ⟨h1, fun x hx hxk => ?_⟩
  have : (enc x.1, x.2) ∈ es.toList.map (fun x => (x.key, x.val)) := by rw [he]; exact List.mem_map.2 ⟨x, hx, rfl⟩
  obtain ⟨e, he1, he2⟩ := List.mem_map.1 this
  exact h2 e he1 (by rw [(Prod.mk.inj he2).1, hxk])
 ·have h2' : es.toList[j]? = some e := by simpa using h2
  have h4 : (es.toList.map (fun x => (x.key, x.val)))[j]? = some (e.key, e.val) := by rw [List.getElem?_map, h2']; rfl
  rw [he, List.getElem?_map] at h4
  obtain ⟨x, hx⟩ : ∃ x, m[j]? = some x := by
   cases hx : m[j]? with
   | none => rw [hx] at h4; simp at h4
   | some x => exact ⟨x, rfl⟩
  rw [hx] at h4
  obtain ⟨q1, q2⟩ := Prod.mk.inj (Option.some.inj h4)
  refine .inr ⟨j, e, e.val, h1, ?_, by simpa using h2', h3⟩
  rw [hx]
  have : x.1 = k := hinj _ _ (by rw [q1, h3])
  rw [← this, ← q2]
theorem run_kmap_lookup (K : Keyed P kt) (hinj : ∀ a c : κ, enc a = enc c → a = c) {t et : TypeId} (ht : P.underlying t = some (.map kt et)) (h : KMap P kt enc w b f) {k : κ} {l : Lit} (hl : keyOf P kt (enc k) = some l) {z : Value} (hz : (zeroValue et).run P w = .ok z w) (c : Bool) :
  (Instr.lookup t (.map (some b)) (enc k) c).run P w = .ok (if c then .tuple #[(f k).getD z, .bool (f k).isSome] else (f k).getD z) w := by
 obtain ⟨es, cl, m, hb, he, hn, hk, hf⟩ := h
 unfold Instr.lookup
 rcases KMap.found (w := w) K hinj he hn hk hl with ⟨h1, h2⟩ | ⟨j, e, v, h1, h2, h3, h4⟩
 ·rw [← hf k, kget_none h2]
  cases c <;> simp [run_underlying ht, Go.MapKept.run_getObj_map hb, K.check w _ hl, h1, hz, Result.andThen]
 ·rw [← hf k, kget_at hn h2]
  cases c <;> simp [run_underlying ht, Go.MapKept.run_getObj_map hb, K.check w _ hl, h1, Result.andThen]
theorem run_kmap_put (K : Keyed P kt) (hinj : ∀ a c : κ, enc a = enc c → a = c) {t et : TypeId} (ht : P.underlying t = some (.map kt et)) (h : KMap P kt enc w b f) {k : κ} {l : Lit} (hl : keyOf P kt (enc k) = some l) (v : Value) :
  ∃ w', (Instr.mapUpdate t (.map (some b)) (enc k) v).run P w = .ok () w' ∧ KMap P kt enc w' b (fun q => if q = k then some v else f q) ∧ Keep (fun q => q = b) w w' := by
 obtain ⟨es, cl, m, hb, he, hn, hk, hf⟩ := h
 rcases KMap.found (w := w) K hinj he hn hk hl with ⟨h1, h2⟩ | ⟨j, e, u, h1, h2, h3, h4⟩
 ·refine ⟨_, ?_, ⟨es.push { key := enc k, val := v, born := cl }, cl + 1, m ++ [(k, v)], (heap_set hb).1, ?_, ?_, ?_, fun q => ?_⟩, map_setBlock hb _⟩
  ·unfold Instr.mapUpdate
   simp [run_underlying ht, Go.MapKept.run_getObj_map hb, K.check w _ hl, h1, Go.MapKept.run_setObj_map _ hb, Result.andThen]
  ·simp [he]
  ·rw [List.map_append, List.nodup_append]
   refine ⟨hn, by simp, fun a ha c hc => ?_⟩
   obtain ⟨x, hx, rfl⟩ := List.mem_map.1 ha
   simp at hc
   rw [hc]; exact h2 x hx
  ·intro x hx
   rcases List.mem_append.1 hx with hx | hx
   ·exact hk x hx
   ·rw [List.mem_singleton.1 hx]; exact ⟨l, hl⟩
  ·show _ = if q = k then some v else f q
   rw [← hf q]
   unfold kget
   rw [List.find?_append]
   by_cases hq : q = k
   ·subst hq
    rw [if_pos rfl, List.find?_eq_none.2 fun x hx => by simpa using h2 x hx]
    simp
   ·rw [if_neg hq]
    have : List.find? (fun x : κ × Value => decide (x.1 = q)) [(k, v)] = none := by
     rw [List.find?_eq_none]
     intro x hx
     rw [List.mem_singleton.1 hx]
     simpa using fun e => hq e.symm
    rw [this]
    cases List.find? (fun x : κ × Value => decide (x.1 = q)) m <;> rfl
 ·have hj : j < m.length := by
   rcases Nat.lt_or_ge j m.length with g | g
   ·exact g
   ·rw [List.getElem?_eq_none g] at h2; cases h2
  have hkeys : (m.set j (k, v)).map (·.1) = m.map (·.1) := by
   rw [List.map_set]
   refine List.ext_getElem? fun i => ?_
   rw [List.getElem?_set]
   by_cases hi : j = i
   ·subst hi
    rw [if_pos rfl, List.getElem?_map, h2]; simp [hj]
   ·rw [if_neg hi]
  refine ⟨_, ?_, ⟨es.modify j fun e => { e with key := enc k, val := v }, cl, m.set j (k, v), (heap_set hb).1, ?_, ?_, ?_, fun q => ?_⟩, map_setBlock hb _⟩
  ·unfold Instr.mapUpdate
   simp [run_underlying ht, Go.MapKept.run_getObj_map hb, K.check w _ hl, h1, h3, h4, K.stays w hl, Go.MapKept.run_setObj_map _ hb, Result.andThen]
  ·have e1 : (es.modify j fun e => { e with key := enc k, val := v }).toList.map (fun x => (x.key, x.val)) = (es.toList.map (fun x => (x.key, x.val))).set j (enc k, v) := by
    refine List.ext_getElem? fun i => ?_
    rw [List.getElem?_map, List.getElem?_set, Array.getElem?_toList, Array.getElem?_modify]
    have hjs : j < (es.toList.map (fun x => (x.key, x.val))).length := by rw [he, List.length_map]; exact hj
    by_cases hi : j = i
    ·subst hi
     rw [if_pos rfl, if_pos rfl, if_pos hjs, h3]; rfl
    ·rw [if_neg hi, if_neg hi, List.getElem?_map, Array.getElem?_toList]
   rw [e1, he, List.map_set]
  ·rw [hkeys]; exact hn
  ·intro x hx
   rcases List.mem_or_eq_of_mem_set hx with hx | rfl
   ·exact hk x hx
   ·exact ⟨l, hl⟩
  ·show _ = if q = k then some v else f q
   by_cases hq : q = k
   ·subst hq
    rw [if_pos rfl]
    exact kget_at (by rw [hkeys]; exact hn) (j := j) (by rw [List.getElem?_set_self hj])
   ·rw [if_neg hq, ← hf q]
    cases hg : kget m q with
    | none =>
     refine kget_none fun x hx => ?_
     rcases List.mem_or_eq_of_mem_set hx with hx | rfl
     ·intro e
      unfold kget at hg
      have := List.find?_eq_none.1 (Option.map_eq_none_iff.1 hg) x hx
      simp [e] at this
     ·exact fun e => hq e.symm
    | some u2 =>
     unfold kget at hg
     obtain ⟨x, hx, hx2⟩ := Option.map_eq_some_iff.1 hg
     have hxq : x.1 = q := by simpa using List.find?_some hx
     obtain ⟨i, hi⟩ := List.getElem?_of_mem (List.mem_of_find?_eq_some hx)
     have hij : j ≠ i := by
      rintro rfl
      rw [h2] at hi
      obtain rfl := Option.some.inj hi
      exact hq hxq.symm
     refine kget_at (by rw [hkeys]; exact hn) (j := i) ?_
     rw [List.getElem?_set_ne hij, hi, ← hxq, ← hx2]
variable {ops : Array Oper} {Q : Exit → Act → World → Prop} {rest : List Oper} {o : Oper} {a : Act}
theorem does_kmap_put (hg : o.guard = none) (mo x vo : Operand) (t et : TypeId) (hop : o.op = Op.mapUpdate t mo x vo) (K : Keyed P kt) (hinj : ∀ a c : κ, enc a = enc c → a = c) (ht : P.underlying t = some (.map kt et)) (h : KMap P kt enc w b f)
  (hm : a.eval mo = .map (some b)) (k : κ) (hx : a.eval x = enc k) {l : Lit} (hl : keyOf P kt (enc k) = some l) (v : Value) (hv : a.eval vo = v) {R : Value → World → Prop}
  (hK : ∀ w', KMap P kt enc w' b (fun q => if q = k then some v else f q) → Keep (fun q => q = b) w w' → R undef w') : does P ops o a w R := by
 obtain ⟨w', hrun, r1, r2⟩ := run_kmap_put K hinj ht h hl v
 unfold does
 rw [if_pos (by simp [Region.wanted, hg])]
 simp [execOp, hop, hm, hx, hv, hrun, Result.andThen]
 exact hK w' r1 r2
end
end Go.Proofs.YtngdpnlgnpdkcaaGreatDoor
namespace Go.Proofs.YtngdpnlgnpdkcaaGreatDoor
open Go Go.RowKit
open Go.Maps (Keyed)
def twoV (e : Int × Int) : Value := .agg #[.int .i64 e.1, .int .i64 e.2]
theorem twoV_inj (a c : Int × Int) (h : twoV a = twoV c) : a = c := by
 unfold twoV at h
 injection h with h
 simp at h
 exact Prod.ext h.1 h.2
theorem intV_inj (a c : Int) (h : Value.int .i64 a = Value.int .i64 c) : a = c := by injection h
theorem keyOf_two {P : Program} {k ti : TypeId} {f g : Field} (hu : P.underlying k = some (.struct #[f, g])) (hf1 : f.type = ti) (hf2 : f.offset = 0) (hg1 : g.type = ti) (hg2 : g.offset = 1) (hfn : (f.name != "_") = true) (hgn : (g.name != "_") = true)
  (hc : P.cellsOf k = 2) (hci : P.cellsOf ti = 1) (hti : P.underlying ti = some (.int .i64)) (hkt : P.keyType k = true) {m : Nat} (hsz : P.types.size = m + 1) {a b : Int} (wa : (Lit.int .i64 a).wf = true) (wb : (Lit.int .i64 b).wf = true) :
  keyOf P k (twoV (a, b)) = some (.string (keyBytes [.int .i64 a, .int .i64 b])) := by
 have e1 : (twoV (a, b)).formed P k = true := by simp [twoV, Value.formed, hu, hc]
 have e2 : ∀ n (c : Int), (Lit.int .i64 c).wf = true → P.keyLits (n + 1) ti [.int .i64 c] = some [.int .i64 c] := fun n c hw => by simp [Program.keyLits, hti, hw]
 have e3 : P.keyLits (m + 1 + 1) k [.int .i64 a, .int .i64 b] = some [.int .i64 a, .int .i64 b] := by
  have h1 := e2 m a wa
  have h2 := e2 m b wb
  unfold Program.keyLits
  simp only [hu]
  simp at hfn hgn
  simp [hc, hf1, hf2, hg1, hg2, hci, hfn, hgn, h1, h2]
 unfold keyOf
 simp only [hu, hkt, e1, Bool.true_and, if_true, hsz]
 show Option.map _ (P.keyLits (m + 1 + 1) k (twoV (a, b)).cells.toList) = _
 rw [show (twoV (a, b)).cells.toList = [Value.int .i64 a, Value.int .i64 b] by simp [twoV, Value.cells]]
 rw [e3]; rfl
theorem wf_small {a : Int} (h : 0 ≤ a ∧ a < 1000000) : (Lit.int .i64 a).wf = true := by
 simp [Lit.wf, IntKind.min, IntKind.max, IntKind.signed, IntKind.bits]
 omega
theorem int_keyed64 : Keyed Tryz.prog 3 := Go.Maps.int_keyed Tryz.underlying3
theorem key_int {a : Int} (h : 0 ≤ a ∧ a < 1000000) : ∃ l, keyOf Tryz.prog 3 (Value.int .i64 a) = some l := by
 refine ⟨.int .i64 a, ?_⟩
 simp [keyOf, mapKey, Tryz.underlying3, wf_small h]
end Go.Proofs.YtngdpnlgnpdkcaaGreatDoor
namespace Go.Proofs.YtngdpnlgnpdkcaaGreatDoor
open Go Go.RowKit
structure ElF (F : Nat → Prop) (v : Value) (n : Nat) (E : Nat → Addr → Prop) : Prop where
 form : ∃ a cap, v = .slice a n cap ∧ n ≤ cap ∧ (cap : Int) ≤ 9223372036854775807 ∧ (0 < n → ∃ y, a = some y) ∧ ∀ y, a = some y → 0 < n → F y.block ∧ ∀ i, i < n → E i y
section
variable {F G X : Nat → Prop} {w w' : World} {n0 n : Nat} {v v1 v2 v3 : Value} {E E' : Nat → Addr → Prop}
theorem ElF.mono (h : ElF F v n E) (hF : ∀ b, F b → G b) (hE : ∀ i y, i < n → F y.block → E i y → E' i y) : ElF G v n E' := by
 obtain ⟨a, cap, h1, h2, h3, h4, h5⟩ := h
 exact ⟨a, cap, h1, h2, h3, h4, fun y hy h0 => ⟨hF _ (h5 y hy h0).1, fun i hi => hE i y hi (h5 y hy h0).1 ((h5 y hy h0).2 i hi)⟩⟩
theorem ElF.toR (h : ElF F v n E) (hF : ∀ b, F b → b < n0) (hE : ∀ i y, i < n → F y.block → E i y → E' i y) : ElR n0 v n E' := by
 obtain ⟨a, cap, h1, h2, h3, h4, h5⟩ := h
 exact ⟨a, cap, h1, h2, h3, h4, fun y hy h0 => ⟨hF _ (h5 y hy h0).1, fun i hi => hE i y hi (h5 y hy h0).1 ((h5 y hy h0).2 i hi)⟩⟩
theorem ElF.ofR (h : ElR n0 v n E) (hF : ∀ b, b < n0 → F b) (hE : ∀ i y, i < n → y.block < n0 → E i y → E' i y) : ElF F v n E' := by
 obtain ⟨a, cap, h1, h2, h3, h4, h5⟩ := h
 exact ⟨a, cap, h1, h2, h3, h4, fun y hy h0 => ⟨hF _ (h5 y hy h0).1, fun i hi => hE i y hi (h5 y hy h0).1 ((h5 y hy h0).2 i hi)⟩⟩
def StrsF (w : World) (F : Nat → Prop) (v : Value) (l : List ByteArray) : Prop := ElF F v l.length fun i y => ∀ s, l[i]? = some s → w.cell? (y.add i) = some (.string s)
def IntsF (w : World) (F : Nat → Prop) (v : Value) (l : List Int) : Prop := ElF F v l.length fun i y => ∀ s, l[i]? = some s → w.cell? (y.add i) = some (.int .i64 s)
def FunsF (w : World) (F : Nat → Prop) (v : Value) (l : List PF) : Prop := ElF F v l.length fun i y => ∀ f, l[i]? = some f → ∃ pv, w.cell? (y.add (i * 3)) = some (.string f.name) ∧ w.cell? ((y.add (i * 3)).add 1) = some pv ∧ w.cell? ((y.add (i * 3)).add 2) = some (.int .i64 f.ret) ∧ IntsF w F pv f.params
def StmtsF (w : World) (F : Nat → Prop) (v : Value) (l : List PS) : Prop := ElF F v l.length fun i y => ∀ s, l[i]? = some s → ∃ av, w.cell? (y.add (i * 4)) = some (.string s.kind) ∧ w.cell? ((y.add (i * 4)).add 1) = some (.int .i64 s.x) ∧ w.cell? ((y.add (i * 4)).add 2) = some (.int .i64 s.y) ∧ w.cell? ((y.add (i * 4)).add 3) = some av ∧ IntsF w F av s.args
structure ProgF (w : World) (F : Nat → Prop) (v1 v2 v3 : Value) (P : PP) : Prop where
 vars : StrsF w F v1 P.vars
 funs : FunsF w F v2 P.funs
 stmts : StmtsF w F v3 P.stmts
theorem StrsF.keep {l : List ByteArray} (h : StrsF w F v l) (k : Keep X w w') (hX : ∀ b, F b → ¬ X b) (hG : ∀ b, F b → G b) : StrsF w' G v l :=
 ElF.mono h hG fun i y _ hy hE s hs => k.cellx (hE s hs) (by rw [add_block]; exact hX _ hy)
theorem IntsF.keep {l : List Int} (h : IntsF w F v l) (k : Keep X w w') (hX : ∀ b, F b → ¬ X b) (hG : ∀ b, F b → G b) : IntsF w' G v l :=
 ElF.mono h hG fun i y _ hy hE s hs => k.cellx (hE s hs) (by rw [add_block]; exact hX _ hy)
theorem FunsF.keep {l : List PF} (h : FunsF w F v l) (k : Keep X w w') (hX : ∀ b, F b → ¬ X b) (hG : ∀ b, F b → G b) : FunsF w' G v l :=
 ElF.mono h hG fun i y _ hy hE s hs => by
  obtain ⟨pv, h1, h2, h3, h4⟩ := hE s hs
  exact ⟨pv, k.cellx h1 (by rw [add_block]; exact hX _ hy), k.cellx h2 (by rw [add_block, add_block]; exact hX _ hy), k.cellx h3 (by rw [add_block, add_block]; exact hX _ hy), h4.keep k hX hG⟩
theorem StmtsF.keep {l : List PS} (h : StmtsF w F v l) (k : Keep X w w') (hX : ∀ b, F b → ¬ X b) (hG : ∀ b, F b → G b) : StmtsF w' G v l :=
 ElF.mono h hG fun i y _ hy hE s hs => by
  obtain ⟨pv, h1, h2, h3, h4, h5⟩ := hE s hs
  exact ⟨pv, k.cellx h1 (by rw [add_block]; exact hX _ hy), k.cellx h2 (by rw [add_block, add_block]; exact hX _ hy), k.cellx h3 (by rw [add_block, add_block]; exact hX _ hy), k.cellx h4 (by rw [add_block, add_block]; exact hX _ hy), h5.keep k hX hG⟩
theorem ProgF.keep {P : PP} (h : ProgF w F v1 v2 v3 P) (k : Keep X w w') (hX : ∀ b, F b → ¬ X b) (hG : ∀ b, F b → G b) : ProgF w' G v1 v2 v3 P := ⟨h.vars.keep k hX hG, h.funs.keep k hX hG, h.stmts.keep k hX hG⟩
theorem IntsF.toR {l : List Int} (h : IntsF w F v l) (hF : ∀ b, F b → b < n0) : IntsR w n0 v l := ElF.toR h hF fun _ _ _ _ h => h
theorem IntsF.ofR {l : List Int} (h : IntsR w n0 v l) (hF : ∀ b, b < n0 → F b) : IntsF w F v l := ElF.ofR h hF fun _ _ _ _ h => h
theorem ProgF.toR {P : PP} (h : ProgF w F v1 v2 v3 P) (hF : ∀ b, F b → b < n0) : ProgR w n0 v1 v2 v3 P :=
 ⟨ElF.toR h.vars hF fun _ _ _ _ h => h,
  ElF.toR h.funs hF fun i y _ _ hE s hs => (let ⟨pv, h1, h2, h3, h4⟩ := hE s hs; ⟨pv, h1, h2, h3, h4.toR hF⟩),
  ElF.toR h.stmts hF fun i y _ _ hE s hs => (let ⟨pv, h1, h2, h3, h4, h5⟩ := hE s hs; ⟨pv, h1, h2, h3, h4, h5.toR hF⟩)⟩
theorem ProgF.ofR {P : PP} (h : ProgR w n0 v1 v2 v3 P) (hF : ∀ b, b < n0 → F b) : ProgF w F v1 v2 v3 P :=
 ⟨ElF.ofR h.vars hF fun _ _ _ _ h => h,
  ElF.ofR h.funs hF fun i y _ _ hE s hs => (let ⟨pv, h1, h2, h3, h4⟩ := hE s hs; ⟨pv, h1, h2, h3, IntsF.ofR h4 hF⟩),
  ElF.ofR h.stmts hF fun i y _ _ hE s hs => (let ⟨pv, h1, h2, h3, h4, h5⟩ := hE s hs; ⟨pv, h1, h2, h3, h4, IntsF.ofR h5 hF⟩)⟩
def ErrB (ad : Nat → Addr) (b : Nat) : Prop := b = 3 ∨ b = 4 ∨ b = 5 ∨ b = 6 ∨ b = 7 ∨ b = 1 ∨ b = 8 ∨ b = (ad 5).block ∨ b = (ad 7).block
theorem ErrsP.keep {ad : Nat → Addr} (h : ErrsP w ad) (k : Keep X w w') (hX : ∀ b, ErrB ad b → ¬ X b) : ErrsP w' ad :=
 ⟨k.cellx h.at2 (hX _ (.inl rfl)), k.cellx h.at3 (hX _ (.inr (.inl rfl))), k.cellx h.at4 (hX _ (.inr (.inr (.inl rfl)))), k.cellx h.at5 (hX _ (.inr (.inr (.inr (.inl rfl))))), k.cellx h.at7 (hX _ (.inr (.inr (.inr (.inr (.inl rfl)))))), k.cellx h.at8 (hX _ (.inr (.inr (.inr (.inr (.inr (.inl rfl))))))), k.cellx h.at9 (hX _ (.inr (.inr (.inr (.inr (.inr (.inr (.inl rfl)))))))), h.ne57,
  (let ⟨cs, t, e⟩ := h.row5; ⟨cs, t, k.get e (hX _ (.inr (.inr (.inr (.inr (.inr (.inr (.inr (.inl rfl)))))))))⟩), (let ⟨cs, t, e⟩ := h.row7; ⟨cs, t, k.get e (hX _ (.inr (.inr (.inr (.inr (.inr (.inr (.inr (.inr rfl)))))))))⟩)⟩
theorem ErrsP.lt {ad : Nat → Addr} (h : ErrsP w ad) {b : Nat} (hb : ErrB ad b) : b < w.heap.size := by
 rcases hb with rfl | rfl | rfl | rfl | rfl | rfl | rfl | rfl | rfl
 ·exact cell_lt h.at2
 ·exact cell_lt h.at3
 ·exact cell_lt h.at4
 ·exact cell_lt h.at5
 ·exact cell_lt h.at7
 ·exact cell_lt h.at8
 ·exact cell_lt h.at9
 ·obtain ⟨cs, t, e⟩ := h.row5; exact (Array.getElem?_eq_some_iff.1 e).1
 ·obtain ⟨cs, t, e⟩ := h.row7; exact (Array.getElem?_eq_some_iff.1 e).1
structure PWF (w : World) (F : Nat → Prop) (ad : Nat → Addr) (a1 a2 a3 : Option Addr) (c1 c2 c3 : Nat) (P : PP) : Prop where
 lt : ∀ b, F b → b < w.heap.size
 ef : ∀ b, ErrB ad b → F b
 errs : ErrsP w ad
 prog : ProgF w F (.slice a1 P.vars.length c1) (.slice a2 P.funs.length c2) (.slice a3 P.stmts.length c3) P
 z1 : ∀ s ∈ P.vars, s.size ≤ 1000000
 z2 : ∀ s ∈ P.names, s.size ≤ 1000000
 well : P.Well
variable {ad : Nat → Addr} {a1 a2 a3 : Option Addr} {c1 c2 c3 : Nat} {P : PP}
theorem PWF.pw (h : PWF w F ad a1 a2 a3 c1 c2 c3 P) : PW w w.heap.size ad a1 a2 a3 c1 c2 c3 P := ⟨h.errs, h.prog.toR h.lt, h.z1, h.z2, h.well⟩
theorem PWF.keep (h : PWF w F ad a1 a2 a3 c1 c2 c3 P) (k : Keep X w w') (hX : ∀ b, F b → ¬ X b) : PWF w' F ad a1 a2 a3 c1 c2 c3 P :=
 ⟨fun b hb => Nat.lt_of_lt_of_le (h.lt b hb) k.size, h.ef, h.errs.keep k fun b hb => hX b (h.ef b hb), h.prog.keep k hX fun _ h => h, h.z1, h.z2, h.well⟩
theorem PWF.ext (h : PWF w F ad a1 a2 a3 c1 c2 c3 P) (x : Ext w w') : PWF w' F ad a1 a2 a3 c1 c2 c3 P := h.keep (x.keep fun _ => False) fun _ _ h => h
theorem PWF.more (h : PWF w F ad a1 a2 a3 c1 c2 c3 P) (hF : ∀ b, F b → G b) (hG : ∀ b, G b → b < w.heap.size) : PWF w G ad a1 a2 a3 c1 c2 c3 P :=
 ⟨hG, fun b hb => hF b (h.ef b hb), h.errs, h.prog.keep (Keep.refl (fun _ => False) w) (fun _ _ h => h) hF, h.z1, h.z2, h.well⟩
theorem PWF.of (h : PW w n0 ad a1 a2 a3 c1 c2 c3 P) (hn : n0 ≤ w.heap.size) : PWF w (fun b => b < w.heap.size) ad a1 a2 a3 c1 c2 c3 P :=
 ⟨fun _ h => h, fun b hb => h.errs.lt hb, h.errs, ProgF.ofR h.prog fun b hb => Nat.lt_of_lt_of_le hb hn, h.z1, h.z2, h.well⟩
end
def OwnsQ (w : World) (base : Nat) (e : TypeId) (size : Nat) (v : Value) (n : Nat) (xs : List Value) : Prop :=
 xs.length = n * size ∧ ((v = .slice none 0 0 ∧ n = 0) ∨ ∃ g off cap cur, v = .slice (some ⟨g, off, none⟩) n cap ∧ base ≤ g ∧ Blk w g cur e ∧ n ≤ cap ∧ off + cap * size ≤ cur.size ∧ (cur.toList.drop off).take (n * size) = xs)
section
variable {w w' : World} {base : Nat} {e : TypeId} {size n : Nat} {v : Value} {xs : List Value}
theorem OwnsQ.ofRow (h : w.ownsRow base e size v n xs) : OwnsQ w base e size v n xs := by
 refine ⟨h.1, h.2.imp id ?_⟩
 rintro ⟨g, cap, cur, h1, h2, h3, h4, h5, h6, h7⟩
 exact ⟨g, 0, cap, cur, h1, h2, h3, h4, by omega, h7⟩
theorem OwnsQ.nil (w : World) (base : Nat) (e : TypeId) (size : Nat) : OwnsQ w base e size (.slice none 0 0) 0 [] := .ofRow (World.ownsRow_nil _ _ _ _)
theorem OwnsQ.form (h : OwnsQ w base e size v n xs) : ∃ a c, v = .slice a n c := by
 rcases h.2 with ⟨h1, h2⟩ | ⟨g, off, cap, cur, h1, _⟩
 ·exact ⟨none, 0, by rw [h1, h2]⟩
 ·exact ⟨_, _, h1⟩
theorem OwnsQ.keep {X : Nat → Prop} (h : OwnsQ w base e size v n xs) (k : Keep X w w') (hx : ∀ i, v.ownBlock = some i → ¬ X i) : OwnsQ w' base e size v n xs := by
 refine ⟨h.1, h.2.imp id ?_⟩
 rintro ⟨g, off, cap, cur, rfl, h2, h3, h4⟩
 exact ⟨g, off, cap, cur, rfl, h2, h3.keep k (hx g rfl), h4⟩
theorem OwnsQ.ext (h : OwnsQ w base e size v n xs) (x : Ext w w') : OwnsQ w' base e size v n xs := h.keep (x.keep fun _ => False) fun _ _ h => h
theorem OwnsQ.ty (h : OwnsQ w base e size v n xs) {k : Nat} (hk : v.ownBlock = some k) : base ≤ k ∧ ∃ c, Blk w k c e := by
 rcases h.2 with ⟨rfl, _⟩ | ⟨g, off, cap, cur, rfl, h2, h3, _⟩
 ·cases hk
 ·obtain rfl := Option.some.inj hk
  exact ⟨h2, cur, h3⟩
theorem OwnsQ.get {g off cap : Nat} (h : OwnsQ w base e size (.slice (some ⟨g, off, none⟩) n cap) n xs) (i : Nat) {u : Value} (hu : xs[i]? = some u) : w.cell? ⟨g, off + i, none⟩ = some u := by
 rcases h.2 with ⟨h1, _⟩ | ⟨g', off', cap', cur, h1, h2, h3, h4, h5, h6⟩
 ·cases h1
 ·simp only [Value.slice.injEq, Option.some.injEq, Addr.mk.injEq, and_true, true_and] at h1
  obtain ⟨⟨rfl, rfl⟩, rfl⟩ := h1
  rw [h3.cell, ← Array.getElem?_toList]
  rw [← h6, List.getElem?_take] at hu
  split at hu
  ·rwa [List.getElem?_drop] at hu
  ·cases hu
theorem OwnsQ.tail {g off cap : Nat} (h : OwnsQ w base e size (.slice (some ⟨g, off, none⟩) n cap) n xs) (hn : 0 < n) : OwnsQ w base e size (.slice (some (if cap = 1 then ⟨g, off, none⟩ else ⟨g, off + size, none⟩)) (n - 1) (cap - 1)) (n - 1) (xs.drop size) := by
 rcases h.2 with ⟨h1, _⟩ | ⟨g', off', cap', cur, h1, h2, h3, h4, h5, h6⟩
 ·cases h1
 ·simp only [Value.slice.injEq, Option.some.injEq, Addr.mk.injEq, and_true, true_and] at h1
  obtain ⟨⟨rfl, rfl⟩, rfl⟩ := h1
  obtain ⟨m, rfl⟩ : ∃ m, n = m + 1 := ⟨n - 1, by omega⟩
  obtain ⟨c, rfl⟩ : ∃ c, cap = c + 1 := ⟨cap - 1, by omega⟩
  have e1 : (m + 1) * size = m * size + size := by rw [Nat.add_mul, Nat.one_mul]
  have e2 : (c + 1) * size = c * size + size := by rw [Nat.add_mul, Nat.one_mul]
  refine ⟨by rw [List.length_drop, h.1, e1]; simp, .inr ?_⟩
  by_cases hc : c = 0
  ·subst hc
   obtain rfl : m = 0 := by omega
   refine ⟨g, off, 0, cur, by simp, h2, h3, Nat.le_refl _, by omega, ?_⟩
   have := h.1
   simp at this ⊢
   omega
  ·refine ⟨g, off + size, c, cur, by rw [if_neg (by omega)]; simp, h2, h3, by omega, by omega, ?_⟩
   rw [← h6, List.drop_take, List.drop_drop, e1]
   congr 1
   ·simp
end
def cntE (EL : List (Int × Int)) (m n : Nat) : Nat := ((EL.take m).filter fun e => decide (e.2 = (n : Int))).length
theorem cntE_succ {EL : List (Int × Int)} {m n : Nat} {e : Int × Int} (he : EL[m]? = some e) : cntE EL (m + 1) n = cntE EL m n + if e.2 = (n : Int) then 1 else 0 := by
 unfold cntE
 rw [List.take_add_one, he, List.filter_append, List.length_append]
 congr 1
 show (List.filter _ [e]).length = _
 rw [List.filter_cons]
 by_cases h : e.2 = (n : Int)
 ·rw [if_pos (decide_eq_true h), if_pos h]; rfl
 ·rw [if_neg (by simpa using h), if_neg h]; rfl
structure BagAt (P : PP) (has : List (List Int)) (EL : List (Int × Int)) (k m : Nat) (B : List (List Int)) : Prop where
 set : ∃ S, RoundAt P has EL k m S ∧ B.length = S.length ∧ ∀ n x, x ∈ B.getD n [] ↔ x ∈ S.getD n []
 few : ∀ n, (B.getD n []).length ≤ 1000 + k + 1000 * cntE EL m n
theorem BagAt.len {P : PP} {has : List (List Int)} {EL : List (Int × Int)} {k m : Nat} {B : List (List Int)} (h : BagAt P has EL k m B) : B.length = has.length := by
 obtain ⟨S, h1, h2, _⟩ := h.set
 exact h2.trans h1.len
theorem BagAt.start {P : PP} {has : List (List Int)} (hg : P.GoodS has) (EL : List (Int × Int)) : BagAt P has EL 0 0 has :=
 ⟨⟨has, RoundAt.start hg EL, rfl, fun _ _ => Iff.rfl⟩, fun n => by
  by_cases hn : n < has.length
  ·have := srt_few (hg.ok.ok _ (getD_mem hn)).1
   omega
  ·rw [List.getD_eq_getElem?_getD, List.getElem?_eq_none (by omega)]
   show (0 : Nat) ≤ _
   omega⟩
theorem BagAt.skip {P : PP} {has : List (List Int)} {EL : List (Int × Int)} {k : Nat} {B : List (List Int)} (h : BagAt P has EL k 0 B) (hb : (P.ruleV k (P.stAt k)).kind.toList ≠ bBase.toList) : BagAt P has EL (k + 1) 0 B := by
 obtain ⟨S, h1, h2, h3⟩ := h.set
 exact ⟨⟨S, h1.skip hb, h2, h3⟩, fun n => by have := h.few n; omega⟩
theorem BagAt.base {P : PP} {has : List (List Int)} {EL : List (Int × Int)} {k : Nat} {B : List (List Int)} (h : BagAt P has EL k 0 B) (hb : (P.ruleV k (P.stAt k)).kind.toList = bBase.toList) {a : Nat} {b : Int} (ha : (P.ruleV k (P.stAt k)).a = (a : Int)) (hbb : (P.ruleV k (P.stAt k)).b = b) (hb1 : 0 ≤ b ∧ b < 1000) (hal : a < has.length) :
  BagAt P has EL (k + 1) 0 (B.set a (B.getD a [] ++ [b])) := by
 obtain ⟨S, h1, h2, h3⟩ := h.set
 have hS : a < S.length := by rw [h1.len]; exact hal
 have hB : a < B.length := by rw [h2]; exact hS
 have hin : InR (S.getD a [] ++ [b]) := (chkE_zero.1 (h1.ok _ (getD_mem hS))).1.app fun x hx => by obtain rfl := List.mem_singleton.1 hx; exact hb1
 refine ⟨⟨_, h1.base hb ha hbb hb1 hal, by rw [List.length_set, List.length_set, h2], fun n x => ?_⟩, fun n => ?_⟩
 ·rw [set_getD hB, set_getD hS]
  by_cases han : a = n
  ·rw [if_pos han, if_pos han, mem_sset hin, List.mem_append, List.mem_append, h3]
  ·rw [if_neg han, if_neg han, h3]
 ·rw [set_getD hB]
  have := h.few n
  by_cases han : a = n
  ·subst han
   rw [if_pos rfl, List.length_append, List.length_singleton]
   omega
  ·rw [if_neg han]
   omega
theorem BagAt.edge {P : PP} {has : List (List Int)} {EL : List (Int × Int)} {k m : Nat} {B : List (List Int)} (h : BagAt P has EL k m B) {a b : Nat} (he : EL[m]? = some ((a : Int), (b : Int))) (hok : ∀ l ∈ has, chkE l = 0) (hal : a < has.length) (hbl : b < has.length) :
  BagAt P has EL k (m + 1) (B.set b (B.getD b [] ++ has.getD a [])) := by
 obtain ⟨S, h1, h2, h3⟩ := h.set
 have hS : b < S.length := by rw [h1.len]; exact hbl
 have hB : b < B.length := by rw [h2]; exact hS
 have hin : InR (S.getD b [] ++ has.getD a []) := (chkE_zero.1 (h1.ok _ (getD_mem hS))).1.app (chkE_zero.1 (hok _ (getD_mem hal))).1
 refine ⟨⟨_, h1.edge he hok hal hbl, by rw [List.length_set, List.length_set, h2], fun n x => ?_⟩, fun n => ?_⟩
 ·rw [set_getD hB, set_getD hS]
  by_cases han : b = n
  ·rw [if_pos han, if_pos han, mem_sset hin, List.mem_append, List.mem_append, h3]
  ·rw [if_neg han, if_neg han, h3]
 ·rw [set_getD hB, cntE_succ he]
  have h4 := h.few n
  have h5 := srt_few (hok _ (getD_mem hal))
  by_cases han : b = n
  ·subst han
   rw [if_pos rfl, if_pos rfl, List.length_append]
   omega
  ·rw [if_neg han, if_neg (fun e => han (Int.ofNat_inj.1 e))]
   omega
theorem BagAt.done {P : PP} {has : List (List Int)} (hg : P.GoodS has) {B : List (List Int)} (h : BagAt P has (P.edgesL has) P.stmts.length (P.edgesL has).length B) : B.map sset = P.roundV has := by
 obtain ⟨S, h1, h2, h3⟩ := h.set
 obtain rfl := h1.uniq (roundV_at hg)
 refine List.ext_getElem? fun n => ?_
 rw [List.getElem?_map]
 by_cases hn : n < B.length
 ·have hs : n < (P.roundV has).length := by rw [← h2]; exact hn
  have ht := chkE_zero.1 (h1.ok _ (getD_mem hs))
  have e : sset (B.getD n []) = (P.roundV has).getD n [] := srt_uniq (sset_srt _) ht.2 fun x => (mem_sset (fun x hx => ht.1 x ((h3 n x).1 hx))).trans (h3 n x)
  rw [List.getD_eq_getElem?_getD, List.getD_eq_getElem?_getD, List.getElem?_eq_getElem hn, List.getElem?_eq_getElem hs] at e
  rw [List.getElem?_eq_getElem hn, List.getElem?_eq_getElem hs]
  exact congrArg some e
 ·rw [List.getElem?_eq_none (by omega), List.getElem?_eq_none (by rw [← h2]; omega)]
  rfl
theorem StmtsR.own2 {w : World} {base : Nat} {v : Value} {ss : List S2} {l : List PS} (h : w.ownsRow base 76 4 v ss.length (ss.flatMap S2.cells)) (hl : ss.map S2.s = l) (hn : ∀ x ∈ ss, IntsR w w.heap.size x.v x.s.args) : StmtsR w w.heap.size v l := by
 have hll : l.length = ss.length := by rw [← hl, List.length_map]
 unfold StmtsR
 rw [hll]
 refine ElR.own h (Nat.le_refl _) fun g hc i hi f hf => ?_
 rw [← hl, List.getElem?_map] at hf
 obtain ⟨x, hx, rfl⟩ := Option.map_eq_some_iff.1 hf
 have c : ∀ j u, x.cells[j]? = some u → j < 4 → w.cell? (((⟨g, 0, none⟩ : Addr).add (i * 4)).add j) = some u := fun j u hu hj => by
  rw [add_add]
  exact hc _ _ ((fm_get S2.cells 4 S2.cells_len ss i j x hx hj).trans hu)
 exact ⟨x.v, by simpa [Addr.add] using c 0 _ rfl (by omega), c 1 _ rfl (by omega), c 2 _ rfl (by omega), c 3 _ rfl (by omega), hn x (List.mem_of_getElem? hx)⟩
structure OwnR (w : World) (n1 : Nat) (vv fv sv : Value) (P : PP) (fs : List F2) (ss : List S2) : Prop where
 vars : w.ownsRow 0 9 1 vv P.vars.length (P.vars.map .string)
 funs : w.ownsRow n1 78 3 fv P.funs.length (fs.flatMap F2.cells)
 stmts : w.ownsRow n1 76 4 sv P.stmts.length (ss.flatMap S2.cells)
 fm : fs.map F2.f = P.funs
 sm : ss.map S2.s = P.stmts
 fi : ∀ x ∈ fs, IntsT w x.v x.f.params
 si : ∀ x ∈ ss, IntsT w x.v x.s.args
theorem OwnR.ext {w w' : World} {n1 : Nat} {vv fv sv : Value} {P : PP} {fs : List F2} {ss : List S2} (h : OwnR w n1 vv fv sv P fs ss) (x : Ext w w') : OwnR w' n1 vv fv sv P fs ss :=
 ⟨own_ext h.vars x, own_ext h.funs x, own_ext h.stmts x, h.fm, h.sm, fun y hy => (h.fi y hy).ext x, fun y hy => (h.si y hy).ext x⟩
theorem OwnR.prog {w : World} {n1 : Nat} {vv fv sv : Value} {P : PP} {fs : List F2} {ss : List S2} (h : OwnR w n1 vv fv sv P fs ss) : ProgR w w.heap.size vv fv sv P := by
 have hfl : fs.length = P.funs.length := by rw [← h.fm, List.length_map]
 have hsl : ss.length = P.stmts.length := by rw [← h.sm, List.length_map]
 exact ⟨StrsR.own h.vars (Nat.le_refl _), FunsR.own (by rw [hfl]; exact h.funs) h.fm h.fi, StmtsR.own (by rw [hsl]; exact h.stmts) h.sm h.si⟩
theorem OwnR.more {w w' : World} {n1 : Nat} {vv fv sv sv' : Value} {P : PP} {fs : List F2} {ss : List S2} (h : OwnR w n1 vv fv sv P fs ss) (x : S2) (hx : IntsR w' w'.heap.size x.v x.s.args)
  (ho : w'.ownsRow n1 76 4 sv' (P.stmts.length + 1) (ss.flatMap S2.cells ++ S2.cells x)) {X : Nat → Prop} (k : Keep X w w') (hX : ∀ q, X q → ∃ c t, Blk w q c t ∧ t ≠ 9 ∧ t ≠ 78 ∧ t ≠ 3) :
  ProgR w' w'.heap.size vv fv sv' ⟨P.vars, P.funs, P.stmts ++ [x.s]⟩ := by
 have hfl : fs.length = P.funs.length := by rw [← h.fm, List.length_map]
 have hsl : ss.length = P.stmts.length := by rw [← h.sm, List.length_map]
 have hni : ∀ b, X b → ¬ IsInt w b := fun b e => by
  obtain ⟨c, t, hc, _, _, h3⟩ := hX b e
  exact notInt hc h3
 have hrk : ∀ {base : Nat} {e : TypeId} {size : Nat} {v : Value} {n : Nat} {xs : List Value}, w.ownsRow base e size v n xs → (e = 9 ∨ e = 78) → w'.ownsRow base e size v n xs := fun hr hne => row_keep hr k fun i hi e => by
  obtain ⟨c, hc⟩ := own_ty hr hi
  obtain ⟨c', t, hc', h1, h2, _⟩ := hX i e
  refine Blk.ty_ne hc hc' (fun e => ?_) rfl
  rcases hne with h | h
  ·exact h1 (e.symm.trans h)
  ·exact h2 (e.symm.trans h)
 refine ⟨StrsR.own (hrk h.vars (.inl rfl)) (Nat.le_refl _), FunsR.own (by rw [hfl]; exact hrk h.funs (.inr rfl)) h.fm fun x hx => (h.fi x hx).keep k hni, ?_⟩
 refine StmtsR.own2 (base := n1) (ss := ss ++ [x]) ?_ ?_ ?_
 ·rw [List.flatMap_append, List.length_append, List.length_singleton, hsl]
  simpa using ho
 ·rw [List.map_append, h.sm]; rfl
 ·intro y hy
  rcases List.mem_append.1 hy with hy | hy
  ·exact ((h.si y hy).keep k hni).1
  ·obtain rfl := List.mem_singleton.1 hy
   exact hx
structure Bags (w : World) (base : Nat) (vs : List Value) (B : List (List Int)) : Prop where
 len : vs.length = B.length
 row : ∀ (i : Nat) v l, vs[i]? = some v → B[i]? = some l → IRow base w v l
 apart : ∀ (i j : Nat) v u b, i ≠ j → vs[i]? = some v → vs[j]? = some u → v.ownBlock = some b → ¬ u.ownBlock = some b
theorem Bags.nil (w : World) (base : Nat) : Bags w base [] [] := ⟨rfl, fun _ _ _ h => by simp at h, fun _ _ _ _ _ _ h => by simp at h⟩
theorem Bags.made {w : World} {base : Nat} {vs : List Value} {B : List (List Int)} (h : Bags w base vs B) : Made w vs B := ⟨h.len, fun i v l h1 h2 => IntsT.of_row (h.row i v l h1 h2)⟩
theorem Bags.keep {X : Nat → Prop} {w w' : World} {base : Nat} {vs : List Value} {B : List (List Int)} (h : Bags w base vs B) (k : Keep X w w') (hX : ∀ b, X b → ¬ IsInt w b) : Bags w' base vs B :=
 ⟨h.len, fun i v l h1 h2 => row_keep (h.row i v l h1 h2) k fun b hb hx => hX b hx (by
  obtain ⟨c, hc⟩ := own_ty (h.row i v l h1 h2) hb
  exact ⟨c, _, hc⟩), h.apart⟩
theorem Bags.ext {w w' : World} {base : Nat} {vs : List Value} {B : List (List Int)} (h : Bags w base vs B) (x : Ext w w') : Bags w' base vs B := h.keep (x.keep fun _ => False) fun _ h => h.elim
theorem Bags.push {w w' : World} {base : Nat} {vs : List Value} {B : List (List Int)} (h : Bags w base vs B) (x : Ext w w') {v : Value} {l : List Int} (hr : IRow base w' v l) (hn : ∀ b, v.ownBlock = some b → w.heap.size ≤ b) : Bags w' base (vs ++ [v]) (B ++ [l]) := by
 have hlt : ∀ (i : Nat) u b, vs[i]? = some u → u.ownBlock = some b → b < w.heap.size := fun i u b hu hb => by
  have hi : i < vs.length := by
   rcases Nat.lt_or_ge i vs.length with g | g
   ·exact g
   ·rw [List.getElem?_eq_none g] at hu; cases hu
  obtain ⟨m, hm⟩ : ∃ m, B[i]? = some m := ⟨_, List.getElem?_eq_getElem (by rw [← h.len]; exact hi)⟩
  exact (World.ownsRow.lt (h.row i u m hu hm) b hb).2
 have hat : ∀ (i : Nat) u, (vs ++ [v])[i]? = some u → (i < vs.length ∧ vs[i]? = some u) ∨ (i = vs.length ∧ u = v) := fun i u hu => by
  rcases Nat.lt_trichotomy i vs.length with g | g | g
  ·rw [List.getElem?_append_left g] at hu
   exact .inl ⟨g, hu⟩
  ·subst g
   rw [List.getElem?_concat_length] at hu
   exact .inr ⟨rfl, (Option.some.inj hu).symm⟩
  ·rw [List.getElem?_eq_none (by rw [List.length_append, List.length_singleton]; omega)] at hu
   cases hu
 refine ⟨by rw [List.length_append, List.length_append, h.len]; rfl, fun i u m hu hm => ?_, fun i j u z b hij hu hz hb hz' => ?_⟩
 ·rcases hat i u hu with ⟨hi, hu'⟩ | ⟨rfl, rfl⟩
  ·rw [List.getElem?_append_left (by rw [← h.len]; exact hi)] at hm
   exact (h.ext x).row i u m hu' hm
  ·rw [h.len, List.getElem?_concat_length] at hm
   obtain rfl := Option.some.inj hm
   exact hr
 ·rcases hat i u hu with ⟨hi, hu'⟩ | ⟨hi, rfl⟩ <;> rcases hat j z hz with ⟨hj, hz''⟩ | ⟨hj, rfl⟩
  ·exact h.apart i j u z b hij hu' hz'' hb hz'
  ·have := hlt i u b hu' hb
   have := hn b hz'
   omega
  ·have := hlt j z b hz'' hz'
   have := hn b hb
   omega
  ·omega
theorem Bags.app {w w' : World} {base i : Nat} {vs : List Value} {B : List (List Int)} (h : Bags w base vs B) (hi : i < vs.length) {v v' : Value} {l' : List Int} (hv : vs[i]? = some v) (hr : IRow base w' v' l') (k : Keep (fun q => v.ownBlock = some q) w w') (hb : ∀ b, v'.ownBlock = some b → v.ownBlock = some b ∨ w.heap.size ≤ b) :
  Bags w' base (vs.set i v') (B.set i l') := by
 have hlt : ∀ (j : Nat) u b, vs[j]? = some u → u.ownBlock = some b → b < w.heap.size := fun j u b hu hb => by
  have hj : j < vs.length := by
   rcases Nat.lt_or_ge j vs.length with g | g
   ·exact g
   ·rw [List.getElem?_eq_none g] at hu; cases hu
  obtain ⟨m, hm⟩ : ∃ m, B[j]? = some m := ⟨_, List.getElem?_eq_getElem (by rw [← h.len]; exact hj)⟩
  exact (World.ownsRow.lt (h.row j u m hu hm) b hb).2
 have hoff : ∀ (j : Nat) u b, j ≠ i → vs[j]? = some u → v'.ownBlock = some b → ¬ u.ownBlock = some b := fun j u b hj hu hb' hu' => by
  rcases hb b hb' with g | g
  ·exact h.apart i j v u b (fun e => hj e.symm) hv hu g hu'
  ·have := hlt j u b hu hu'
   omega
 refine ⟨by rw [List.length_set, List.length_set, h.len], fun j u m hu hm => ?_, fun p q u z b hpq hu hz hb' hz' => ?_⟩
 ·by_cases hj : i = j
  ·subst hj
   rw [List.getElem?_set_self hi] at hu
   rw [List.getElem?_set_self (by rw [← h.len]; exact hi)] at hm
   obtain rfl := Option.some.inj hu
   obtain rfl := Option.some.inj hm
   exact hr
  ·rw [List.getElem?_set_ne hj] at hu hm
   exact row_keep (h.row j u m hu hm) k fun b hb1 hb2 => h.apart i j v u b hj hv hu hb2 hb1
 ·by_cases hp : i = p
  ·subst hp
   rw [List.getElem?_set_self hi] at hu
   obtain rfl := Option.some.inj hu
   rw [List.getElem?_set_ne hpq] at hz
   exact hoff q z b (fun e => hpq e.symm) hz hb' hz'
  ·rw [List.getElem?_set_ne hp] at hu
   by_cases hq : i = q
   ·subst hq
    rw [List.getElem?_set_self hi] at hz
    obtain rfl := Option.some.inj hz
    exact hoff p u b hpq hu hz' hb'
   ·rw [List.getElem?_set_ne hq] at hz
    exact h.apart p q u z b hpq hu hz hb' hz'
def trCells (l : List Bool) : List Value := l.map Value.bool
def TrRow (base : Nat) (w : World) (v : Value) (l : List Bool) : Prop := w.ownsRow base 4 1 v l.length (trCells l)
def IsB (w : World) (b : Nat) : Prop := ∃ c, Blk w b c 4
structure BBags (w : World) (base : Nat) (vs : List Value) (B : List (List Bool)) : Prop where
 len : vs.length = B.length
 row : ∀ (i : Nat) v l, vs[i]? = some v → B[i]? = some l → TrRow base w v l
 apart : ∀ (i j : Nat) v u b, i ≠ j → vs[i]? = some v → vs[j]? = some u → v.ownBlock = some b → ¬ u.ownBlock = some b
section
variable {w w' : World} {base : Nat} {vs : List Value} {B : List (List Bool)}
theorem BBags.nil (w : World) (base : Nat) : BBags w base [] [] := ⟨rfl, fun _ _ _ h => by simp at h, fun _ _ _ _ _ _ h => by simp at h⟩
theorem BBags.keep {X : Nat → Prop} (h : BBags w base vs B) (k : Keep X w w') (hX : ∀ b, X b → ¬ IsB w b) : BBags w' base vs B :=
 ⟨h.len, fun i v l h1 h2 => row_keep (h.row i v l h1 h2) k fun b hb hx => hX b hx (own_ty (h.row i v l h1 h2) hb), h.apart⟩
theorem BBags.ext (h : BBags w base vs B) (x : Ext w w') : BBags w' base vs B := h.keep (x.keep fun _ => False) fun _ h => h.elim
theorem BBags.at (h : BBags w base vs B) {i : Nat} (hi : i < B.length) : ∃ v l, vs[i]? = some v ∧ B[i]? = some l ∧ TrRow base w v l :=
 ⟨vs[i]'(by rw [h.len]; exact hi), B[i], List.getElem?_eq_getElem _, List.getElem?_eq_getElem _, h.row i _ _ (List.getElem?_eq_getElem _) (List.getElem?_eq_getElem _)⟩
theorem BBags.push (h : BBags w base vs B) (x : Ext w w') {v : Value} {l : List Bool} (hr : TrRow base w' v l) (hn : ∀ b, v.ownBlock = some b → w.heap.size ≤ b) : BBags w' base (vs ++ [v]) (B ++ [l]) := by
 have hlt : ∀ (i : Nat) u b, vs[i]? = some u → u.ownBlock = some b → b < w.heap.size := fun i u b hu hb => by
  have hi : i < vs.length := by
   rcases Nat.lt_or_ge i vs.length with g | g
   ·exact g
   ·rw [List.getElem?_eq_none g] at hu; cases hu
  obtain ⟨m, hm⟩ : ∃ m, B[i]? = some m := ⟨_, List.getElem?_eq_getElem (by rw [← h.len]; exact hi)⟩
  exact (World.ownsRow.lt (h.row i u m hu hm) b hb).2
 have hat : ∀ (i : Nat) u, (vs ++ [v])[i]? = some u → (i < vs.length ∧ vs[i]? = some u) ∨ (i = vs.length ∧ u = v) := fun i u hu => by
  rcases Nat.lt_trichotomy i vs.length with g | g | g
  ·rw [List.getElem?_append_left g] at hu
   exact .inl ⟨g, hu⟩
  ·subst g
   rw [List.getElem?_concat_length] at hu
   exact .inr ⟨rfl, (Option.some.inj hu).symm⟩
  ·rw [List.getElem?_eq_none (by rw [List.length_append, List.length_singleton]; omega)] at hu
   cases hu
 refine ⟨by rw [List.length_append, List.length_append, h.len]; rfl, fun i u m hu hm => ?_, fun i j u z b hij hu hz hb hz' => ?_⟩
 ·rcases hat i u hu with ⟨hi, hu'⟩ | ⟨rfl, rfl⟩
  ·rw [List.getElem?_append_left (by rw [← h.len]; exact hi)] at hm
   exact (h.ext x).row i u m hu' hm
  ·rw [h.len, List.getElem?_concat_length] at hm
   obtain rfl := Option.some.inj hm
   exact hr
 ·rcases hat i u hu with ⟨hi, hu'⟩ | ⟨hi, rfl⟩ <;> rcases hat j z hz with ⟨hj, hz''⟩ | ⟨hj, rfl⟩
  ·exact h.apart i j u z b hij hu' hz'' hb hz'
  ·have := hlt i u b hu' hb
   have := hn b hz'
   omega
  ·have := hlt j z b hz'' hz'
   have := hn b hb
   omega
  ·omega
theorem BBags.set {i j g cap n : Nat} {l : List Bool} (h : BBags w base vs B) (hv : vs[i]? = some (.slice (some ⟨g, 0, none⟩) n cap)) (hl : B[i]? = some l) (hj : j < l.length) (x : Bool) :
  BBags (w.setCell ⟨g, j, none⟩ (.bool x)) base vs (B.set i (l.set j x)) := by
 have hi : i < B.length := by
  rcases Nat.lt_or_ge i B.length with k | k
  ·exact k
  ·rw [List.getElem?_eq_none k] at hl; cases hl
 have hk : Keep (fun q => q = g) w (w.setCell ⟨g, j, none⟩ (.bool x)) := (Keep.refl (fun q => q = g) w).set rfl _
 refine ⟨by rw [List.length_set]; exact h.len, fun p u m hu hm => ?_, h.apart⟩
 by_cases hp : i = p
 ·subst hp
  rw [List.getElem?_set_self hi] at hm
  obtain rfl := Option.some.inj hm
  obtain rfl := Option.some.inj (hv.symm.trans hu)
  have hr := h.row i _ l hv hl
  unfold TrRow at hr ⊢
  obtain ⟨a', c', e'⟩ := row_form hr
  simp only [Value.slice.injEq] at e'
  obtain ⟨rfl, rfl, rfl⟩ := e'
  rw [List.length_set, show trCells (l.set j x) = (trCells l).set j (.bool x) by unfold trCells; rw [List.map_set]]
  exact own_set hr j (by unfold trCells; rw [List.length_map]; exact hj) _
 ·rw [List.getElem?_set_ne hp] at hm
  exact row_keep (h.row p u m hu hm) hk fun b hb1 hb2 => h.apart i p _ u b hp hv hu (by subst hb2; rfl) hb1
end
def fCells (f : Int × Int) : List Value := [.int .i64 f.1, .int .i64 f.2]
def rowOf (f1 : Int → Option Value) (n : Int) : Value := (f1 n).getD (.slice none 0 0)
def seenF (l : List (Int × Int)) (e : Int × Int) : Option Value := if e ∈ l then some (.bool true) else none
def solvCells (a1 a2 a3 : Option Addr) (c1 c2 c3 : Nat) (P : PP) (vr vh : Value) (m1 m2 : Nat) (vw : Value) : Array Value :=
 #[.slice a1 P.vars.length c1, .slice a2 P.funs.length c2, .slice a3 P.stmts.length c3, vr, vh, .map (some m1), .map (some m2), .slice none 0 0, vw]
theorem KMap.not_blk {κ : Type} [DecidableEq κ] {Q : Program} {kt : TypeId} {enc : κ → Value} {w : World} {b : Nat} {f : κ → Option Value} (h : KMap Q kt enc w b f) {c : Array Value} {e : TypeId} : ¬ Blk w b c e := fun hb => h.ne hb rfl
theorem own_off {w w' : World} {base : Nat} {e : TypeId} {size n : Nat} {v : Value} {xs : List Value} {X : Nat → Prop} (h : w.ownsRow base e size v n xs) (k : Keep X w w') (hX : ∀ b, X b → ¬ ∃ c, Blk w b c e) : w'.ownsRow base e size v n xs :=
 row_keep h k fun b hb hx => hX b hx (own_ty h hb)
theorem OwnsQ.off {w w' : World} {base : Nat} {e : TypeId} {size n : Nat} {v : Value} {xs : List Value} {X : Nat → Prop} (h : OwnsQ w base e size v n xs) (k : Keep X w w') (hX : ∀ b, X b → ¬ ∃ c, Blk w b c e) : OwnsQ w' base e size v n xs :=
 h.keep k fun b hb hx => hX b hx (h.ty hb).2
theorem off_of {w : World} {b : Nat} {c : Array Value} {e e' : TypeId} (h : Blk w b c e) (hne : e ≠ e') : ¬ ∃ c, Blk w b c e' := by
 rintro ⟨c', h'⟩
 have := h.symm.trans h'
 simp at this
 exact hne this.2
section
variable {w w' : World} {G F : Nat → Prop} {g : Nat} {ad : Nat → Addr} {a1 a2 a3 : Option Addr} {c1 c2 c3 : Nat} {P : PP} {vr : Value} {rs : List R2} {vh : Value} {hs : List Value} {m1 m2 : Nat} {f1 : Int → Option Value} {vw : Value} {s : SV}
end
def objsUp (l : List Bool) (k : Nat) : List Int := ((List.range k).filter fun o => l.getD o false).map fun o : Nat => (o : Int)
end Go.Proofs.YtngdpnlgnpdkcaaGreatDoor
namespace Go.Proofs.YtngdpnlgnpdkcaaGreatDoor
open Go Go.RowKit
open Go.Maps (Keyed)
def stCells (s : ST) : List Value := [.int .i64 s.node, .int .i64 s.obj, .int .i64 s.stmt, .int .i64 s.frm, .int .i64 s.via]
theorem stCells_len (s : ST) : (stCells s).length = 5 := rfl
structure AtOk (l : List ST) (f : Int × Int → Option Value) : Prop where
 at_ : ∀ (i : Nat) s, l[i]? = some s → f s.fact = some (.int .i64 (i : Int))
 no : ∀ k, k ∉ facts l → f k = none
theorem AtOk.push {l : List ST} {f : Int × Int → Option Value} (h : AtOk l f) {s : ST} (hn : s.fact ∉ facts l) : AtOk (l ++ [s]) fun q => if q = s.fact then some (.int .i64 (l.length : Int)) else f q := by
 refine ⟨fun i x hx => ?_, fun k hk => ?_⟩
 ·rcases Nat.lt_trichotomy i l.length with g | g | g
  ·rw [List.getElem?_append_left g] at hx
   have hne : x.fact ≠ s.fact := fun e => hn (by rw [← e]; exact List.mem_map.2 ⟨x, List.mem_of_getElem? hx, rfl⟩)
   simp only [hne, if_false]
   exact h.at_ i x hx
  ·subst g
   rw [List.getElem?_concat_length] at hx
   obtain rfl := Option.some.inj hx
   simp
  ·rw [List.getElem?_eq_none (by rw [List.length_append, List.length_singleton]; omega)] at hx; cases hx
 ·unfold facts at hk
  rw [List.map_append, List.mem_append] at hk
  have h1 : k ≠ s.fact := fun e => hk (.inr (List.mem_singleton.2 e))
  simp only [h1, if_false]
  exact h.no k fun g => hk (.inl g)
structure FindB (w : World) (G F : Nat → Prop) (g : Nat) (ad : Nat → Addr) (a1 a2 a3 : Option Addr) (c1 c2 c3 : Nat) (P : PP) (vr vl : Value) (m : Nat) (f : Int × Int → Option Value) (l : List ST) : Prop where
 blk : Blk w g #[.slice a1 P.vars.length c1, .slice a2 P.funs.length c2, .slice a3 P.stmts.length c3, vr, vl, .map (some m)] 85
 fg : ¬ F g
 gf : ∀ b, G b → F b
 flt : ∀ b, F b → b < w.heap.size
 pw : PWF w G ad a1 a2 a3 c1 c2 c3 P
 lrow : w.ownsRow 0 47 5 vl l.length (l.flatMap stCells)
 lf : ∀ b, vl.ownBlock = some b → ¬ F b
 map : KMap Tryz.prog 91 twoV w m f
 mf : ¬ F m
 at_ : AtOk l f
def FindAt (w : World) (G F : Nat → Prop) (g : Nat) (ad : Nat → Addr) (P : PP) (vr : Value) (l : List ST) : Prop := ∃ a1 a2 a3 c1 c2 c3 vl m f, FindB w G F g ad a1 a2 a3 c1 c2 c3 P vr vl m f l
section
variable {w w' w1 w2 : World} {G F : Nat → Prop} {g : Nat} {ad : Nat → Addr} {a1 a2 a3 : Option Addr} {c1 c2 c3 : Nat} {P : PP} {vr vl : Value} {m : Nat} {f : Int × Int → Option Value} {l : List ST}
theorem FindB.ext (h : FindB w G F g ad a1 a2 a3 c1 c2 c3 P vr vl m f l) (x : Ext w w') : FindB w' G F g ad a1 a2 a3 c1 c2 c3 P vr vl m f l :=
 ⟨h.blk.ext x, h.fg, h.gf, fun b hb => Nat.lt_of_lt_of_le (h.flt b hb) x.size, h.pw.ext x, own_ext h.lrow x, h.lf, h.map.ext x, h.mf, h.at_⟩
theorem FindAt.ext (h : FindAt w G F g ad P vr l) (x : Ext w w') : FindAt w' G F g ad P vr l := by
 obtain ⟨a1, a2, a3, c1, c2, c3, vl, m, f, h⟩ := h
 exact ⟨a1, a2, a3, c1, c2, c3, vl, m, f, h.ext x⟩
theorem FindB.frz (h : FindB w G F g ad a1 a2 a3 c1 c2 c3 P vr vl m f l) (x : Ext w w') : FindB w' G (fun b => F b ∨ (w.heap.size ≤ b ∧ b < w'.heap.size)) g ad a1 a2 a3 c1 c2 c3 P vr vl m f l := by
 have k := h.ext x
 have hlt : ∀ {b : Nat}, ¬ F b → b < w.heap.size → ¬ (F b ∨ (w.heap.size ≤ b ∧ b < w'.heap.size)) := fun h1 h2 h3 => h3.elim h1 fun h4 => by omega
 exact ⟨k.blk, hlt h.fg h.blk.lt, fun b hb => .inl (h.gf b hb), fun b hb => hb.elim (k.flt b) fun h => h.2, k.pw, k.lrow, fun b hb => hlt (h.lf b hb) (World.ownsRow.lt h.lrow b hb).2, k.map, hlt h.mf h.map.lt, h.at_⟩
theorem FindAt.frz (h : FindAt w G F g ad P vr l) (x : Ext w w') : FindAt w' G (fun b => F b ∨ (w.heap.size ≤ b ∧ b < w'.heap.size)) g ad P vr l := by
 obtain ⟨a1, a2, a3, c1, c2, c3, vl, m, f, h⟩ := h
 exact ⟨a1, a2, a3, c1, c2, c3, vl, m, f, h.frz x⟩
theorem FindAt.less {F' : Nat → Prop} (h : FindAt w G F' g ad P vr l) (hG : ∀ b, G b → F b) (hF : ∀ b, F b → F' b) : FindAt w G F g ad P vr l := by
 obtain ⟨a1, a2, a3, c1, c2, c3, vl, m, f, h⟩ := h
 exact ⟨a1, a2, a3, c1, c2, c3, vl, m, f, h.blk, fun k => h.fg (hF _ k), hG, fun b hb => h.flt b (hF b hb), h.pw, h.lrow, fun b e k => h.lf b e (hF _ k), h.map, fun k => h.mf (hF _ k), h.at_⟩
theorem FindB.push (h : FindB w G F g ad a1 a2 a3 c1 c2 c3 P vr vl m f l) {s : ST} (hn : s.fact ∉ facts l) (h1 : KMap Tryz.prog 91 twoV w1 m (fun q => if q = s.fact then some (.int .i64 (l.length : Int)) else f q)) (k1 : Keep (fun q => q = m) w w1)
  {vl' : Value} (h2 : w2.ownsRow 0 47 5 vl' (l.length + 1) (l.flatMap stCells ++ stCells s)) (k2 : Keep (fun q => vl.ownBlock = some q) w1 w2) (ho : ∀ b, vl'.ownBlock = some b → vl.ownBlock = some b ∨ w.heap.size ≤ b) :
  FindB (w2.setCell ⟨g, 4, none⟩ vl') G F g ad a1 a2 a3 c1 c2 c3 P vr vl' m (fun q => if q = s.fact then some (.int .i64 (l.length : Int)) else f q) (l ++ [s]) := by
 have hb1 := h.blk.keep k1 (h.map.ne h.blk)
 have hty : ∀ {b : Nat}, vl.ownBlock = some b → ∃ c, Blk w1 b c 47 := fun hb => by
  obtain ⟨c, hc⟩ := own_ty h.lrow hb
  exact ⟨c, hc.keep k1 fun e => h.map.not_blk (e ▸ hc)⟩
 have hb2 := hb1.keep k2 fun hb => by
  obtain ⟨c, hc⟩ := hty hb
  exact Blk.ty_ne hc hb1 (by decide) rfl
 have kk : Keep (fun q => q = g ∨ q = m ∨ vl.ownBlock = some q) w (w2.setCell ⟨g, 4, none⟩ vl') := (((k1.mono fun _ _ h => .inr (.inl h)).trans (k2.mono fun _ _ h => .inr (.inr h)))).set (.inl rfl) _
 have hF : ∀ b, G b → ¬ (b = g ∨ b = m ∨ vl.ownBlock = some b) := fun b hb hx => by
  replace hb := h.gf b hb
  rcases hx with rfl | rfl | hx
  ·exact h.fg hb
  ·exact h.mf hb
  ·exact h.lf _ hx hb
 refine ⟨?_, h.fg, h.gf, fun b hb => Nat.lt_of_lt_of_le (h.flt b hb) kk.size, h.pw.keep kk hF, ?_, fun b hb => ?_, ?_, h.mf, h.at_.push hn⟩
 ·have := hb2.set 4 vl'
  exact this
 ·rw [List.length_append, List.length_singleton, List.flatMap_append]
  refine own_off (by simpa using h2) ((Keep.refl (fun q => q = g) w2).set rfl _) fun b hb => ?_
  rw [hb]; exact off_of hb2 (by decide)
 ·rcases ho b hb with e | e
  ·exact h.lf b e
  ·exact fun hb' => by have := h.flt _ hb'; omega
 ·refine (h1.keep k2 fun hb => ?_).keep ((Keep.refl (fun q => q = g) w2).set rfl _) fun e => ?_
  ·obtain ⟨c, hc⟩ := hty hb
   exact h1.not_blk hc
  ·have e' : m = g := e
   exact h.map.ne h.blk e'.symm
end
theorem wfact_keyed : Keyed Tryz.prog 91 := Keyed.of_law (deep_law_laid (m := 2) (by kernel_rfl) (by omega) (of_decide_eq_true (by kernel_rfl)) (by kernel_rfl) (by rw [Tryz.underlying91]))
theorem key_wfact {e : Int × Int} (h1 : 0 ≤ e.1 ∧ e.1 < 1000000) (h2 : 0 ≤ e.2 ∧ e.2 < 1000000) : ∃ l, keyOf Tryz.prog 91 (twoV e) = some l :=
 ⟨_, keyOf_two Tryz.underlying91 rfl rfl rfl rfl (by kernel_rfl) (by kernel_rfl) (by kernel_rfl) (by kernel_rfl) Tryz.underlying3 (by kernel_rfl) (m := 306 - 1) (by kernel_rfl) (wf_small h1) (wf_small h2)⟩
theorem why_info : (Tryz.prog.info? 47).map (fun i => (i.zero, i.size, i.bytes)) = some (some (.agg #[.int .i64 0, .int .i64 0, .int .i64 0, .int .i64 0, .int .i64 0]), 5, 40) := by kernel_rfl
theorem zero_int1 (w : World) : (zeroValue 3).run Tryz.prog w = .ok (.int .i64 0) w := by kernel_rfl
theorem look_at {w : World} {m : Nat} {f : Int × Int → Option Value} (h : KMap Tryz.prog 91 twoV w m f) {e : Int × Int} {lk : Lit} (hk : keyOf Tryz.prog 91 (twoV e) = some lk) :
  (Instr.lookup 83 (.map (some m)) (.agg #[.int .i64 e.1, .int .i64 e.2]) true).run Tryz.prog w = .ok (.tuple #[(f e).getD (.int .i64 0), .bool (f e).isSome]) w := by
 have := run_kmap_lookup wfact_keyed twoV_inj Tryz.underlying83 h hk (zero_int1 w) true
 unfold twoV at this
 rw [this]; rfl
theorem addS_new {l : List ST} {s : ST} (h : s.fact ∉ facts l) : addS l s = l ++ [s] := by unfold addS; rw [if_neg h]
theorem addS_old {l : List ST} {s : ST} (h : s.fact ∈ facts l) : addS l s = l := by unfold addS; rw [if_pos h]
set_option maxRecDepth 100000 in
set_option maxHeartbeats 3200000 in
theorem whyadd_old (P : PP) (l : List ST) (s : ST) (w : World) (G F : Nat → Prop) (g : Nat) (ad : Nat → Addr) {vr : Value} (hS : FindAt w G F g ad P vr l) (hb1 : 0 ≤ s.node ∧ s.node < 1000000) (hb2 : 0 ≤ s.obj ∧ s.obj < 1000000) (hin : s.fact ∈ facts l) :
  Calls Tryz.prog 81 #[.pointer (some ⟨g, 0, none⟩), .agg #[.int .i64 s.node, .int .i64 s.obj, .int .i64 s.stmt, .int .i64 s.frm, .int .i64 s.via]] w fun x w' => x = .returned (.bool false) ∧ FindAt w' G F g ad P vr l ∧ Keep (fun b => ¬ F b) w w' := by
 have Hin := hid hin
 clear hin
 obtain ⟨a1, a2, a3, c1, c2, c3, vl, m, f, h⟩ := hS
 obtain ⟨n, o, st, fr, vi⟩ := s
 simp only at hb1 hb2
 obtain ⟨W1, hW1⟩ : ∃ W1, W1 = w.alloc (.cells #[.int .i64 n, .int .i64 o, .int .i64 st, .int .i64 fr, .int .i64 vi] 47) := ⟨_, rfl⟩
 obtain ⟨W, hW⟩ : ∃ W, W = W1.alloc (.cells #[.int .i64 n, .int .i64 o] 91) := ⟨_, rfl⟩
 have x1 : Ext w W1 := by rw [hW1]; exact (Ext.refl _).alloc _
 have x2 : Ext W1 W := by rw [hW]; exact (Ext.refl _).alloc _
 have s1 : W1.heap.size = w.heap.size + 1 := by rw [hW1, heap_size_alloc]
 have HX := hid (x1.trans x2)
 have HBs : Hid (Blk W w.heap.size #[.int .i64 n, .int .i64 o, .int .i64 st, .int .i64 fr, .int .i64 vi] 47) := hid ((show Blk W1 w.heap.size _ 47 by rw [hW1]; exact Blk.new _ _ _).ext x2)
 have HBk : Hid (Blk W (w.heap.size + 1) #[.int .i64 n, .int .i64 o] 91) := hid (by rw [← s1, hW]; exact Blk.new _ _ _)
 have HWe : Hid (W = (w.alloc (.cells #[.int .i64 n, .int .i64 o, .int .i64 st, .int .i64 fr, .int .i64 vi] 47)).alloc (.cells #[.int .i64 n, .int .i64 o] 91)) := hid (by rw [hW, hW1])
 have HS := hid (h.ext HX.out)
 obtain ⟨lk, hlk⟩ := key_wfact (e := (n, o)) hb1 hb2
 have Hlk := hid hlk
 obtain ⟨al, cl, rfl⟩ := row_form h.lrow
 have Hvl := hid (fun b (e : (Value.slice al l.length cl).ownBlock = some b) => (World.ownsRow.lt h.lrow b e).2)
 have b5 := HS.out.blk.kc (X := fun _ => False) (fun e => e) 5 rfl
 have d0 := HBk.out.kc (X := fun _ => False) (fun e => e) 0 rfl
 have d1 := HBk.out.kc (X := fun _ => False) (fun e => e) 1 rfl
 simp only [qA0, qA1, qA2] at b5 d0 d1
 clear h hW hW1 x1 x2 s1 hlk
 obtain ⟨i, hi⟩ : ∃ i : Nat, f (n, o) = some (.int .i64 (i : Int)) := by
  obtain ⟨y, hy, hye⟩ := List.mem_map.1 Hin.out
  obtain ⟨i, hiy⟩ := List.getElem?_of_mem hy
  exact ⟨i, by have := HS.out.at_.at_ i y hiy; rw [hye] at this; exact this⟩
 have HL : Hid (∀ w1, Ext W w1 → (Instr.lookup 83 (.map (some m)) (.agg #[.int .i64 n, .int .i64 o]) true).run Tryz.prog w1 = .ok (.tuple #[.int .i64 (i : Int), .bool true]) w1) := hid fun w1 x => by
  rw [look_at (HS.out.map.ext x) (e := (n, o)) Hlk.out, hi]; rfl
 clear hi
 go_enter Tryz.func81, Tryz.ntmps81
 go_wp2
 rw [← HWe.out]
 refine wp_flowT (fun _ => False) (by kernel_rfl) (by kernel_rfl) ?_
 repeat (apply FlowT.d; (intro w1 hk; unfold does; go_simp; (try go_ints); (first | exact DetR.mk | (simp only [↓IntWalk.iteOmega, Oper.doesUpon_value]; exact DetR.mk) | (simp only [↓IntWalk.iteOmega]; go_simp; (try go_ints); exact DetR.mk))); simp only [Act.put, qS0, qS1, qS2])
 apply FlowT.d
 ·intro w1 hk
  unfold does
  go_simp
  rw [HL.out w1 hk.ext]
  go_simp
  exact DetR.mk
 simp only [Act.put, qS0, qS1, qS2]
 repeat (apply FlowT.d; (intro w1 hk; unfold does; go_simp; (try go_ints); (first | exact DetR.mk | (simp only [↓IntWalk.iteOmega, Oper.doesUpon_value]; exact DetR.mk) | (simp only [↓IntWalk.iteOmega]; go_simp; (try go_ints); exact DetR.mk))); simp only [Act.put, qS0, qS1, qS2])
 refine FlowT.fin fun w2 hx2 hk2 => ?_
 have Hx2 := hid hx2
 clear hx2 hk2 b5 d0 d1 HL
 go_wp2
 go_ret
 exact ⟨rfl, ⟨_, _, _, _, _, _, _, _, _, HS.out.ext Hx2.out⟩, (HX.out.trans Hx2.out).keep _⟩
set_option maxRecDepth 100000 in
set_option maxHeartbeats 6400000 in
theorem whyadd_new (P : PP) (l : List ST) (s : ST) (w : World) (G F : Nat → Prop) (g : Nat) (ad : Nat → Addr) {vr : Value} (hS : FindAt w G F g ad P vr l) (hb1 : 0 ≤ s.node ∧ s.node < 1000000) (hb2 : 0 ≤ s.obj ∧ s.obj < 1000000) (hin : s.fact ∉ facts l) (hll : l.length ≤ 16000) :
  Calls Tryz.prog 81 #[.pointer (some ⟨g, 0, none⟩), .agg #[.int .i64 s.node, .int .i64 s.obj, .int .i64 s.stmt, .int .i64 s.frm, .int .i64 s.via]] w fun x w' => x = .returned (.bool true) ∧ FindAt w' G F g ad P vr (l ++ [s]) ∧ Keep (fun b => ¬ F b) w w' := by
 have Hin := hid hin
 have Hll := hid hll
 clear hin hll
 obtain ⟨a1, a2, a3, c1, c2, c3, vl, m, f, h⟩ := hS
 obtain ⟨n, o, st, fr, vi⟩ := s
 simp only at hb1 hb2
 obtain ⟨W1, hW1⟩ : ∃ W1, W1 = w.alloc (.cells #[.int .i64 n, .int .i64 o, .int .i64 st, .int .i64 fr, .int .i64 vi] 47) := ⟨_, rfl⟩
 obtain ⟨W, hW⟩ : ∃ W, W = W1.alloc (.cells #[.int .i64 n, .int .i64 o] 91) := ⟨_, rfl⟩
 have x1 : Ext w W1 := by rw [hW1]; exact (Ext.refl _).alloc _
 have x2 : Ext W1 W := by rw [hW]; exact (Ext.refl _).alloc _
 have s1 : W1.heap.size = w.heap.size + 1 := by rw [hW1, heap_size_alloc]
 have HX := hid (x1.trans x2)
 have HBs : Hid (Blk W w.heap.size #[.int .i64 n, .int .i64 o, .int .i64 st, .int .i64 fr, .int .i64 vi] 47) := hid ((show Blk W1 w.heap.size _ 47 by rw [hW1]; exact Blk.new _ _ _).ext x2)
 have HBk : Hid (Blk W (w.heap.size + 1) #[.int .i64 n, .int .i64 o] 91) := hid (by rw [← s1, hW]; exact Blk.new _ _ _)
 have HWe : Hid (W = (w.alloc (.cells #[.int .i64 n, .int .i64 o, .int .i64 st, .int .i64 fr, .int .i64 vi] 47)).alloc (.cells #[.int .i64 n, .int .i64 o] 91)) := hid (by rw [hW, hW1])
 have HS := hid (h.ext HX.out)
 obtain ⟨lk, hlk⟩ := key_wfact (e := (n, o)) hb1 hb2
 have Hlk := hid hlk
 obtain ⟨al, cl, rfl⟩ := row_form h.lrow
 have Hvl := hid (fun b (e : (Value.slice al l.length cl).ownBlock = some b) => (World.ownsRow.lt h.lrow b e).2)
 have b5 := HS.out.blk.kc (X := fun _ => False) (fun e => e) 5 rfl
 have d0 := HBk.out.kc (X := fun _ => False) (fun e => e) 0 rfl
 have d1 := HBk.out.kc (X := fun _ => False) (fun e => e) 1 rfl
 simp only [qA0, qA1, qA2] at b5 d0 d1
 clear h hW hW1 x1 x2 s1 hlk
 have HL : Hid (∀ w1, Ext W w1 → (Instr.lookup 83 (.map (some m)) (.agg #[.int .i64 n, .int .i64 o]) true).run Tryz.prog w1 = .ok (.tuple #[.int .i64 0, .bool false]) w1) := hid fun w1 x => by
  rw [look_at (HS.out.map.ext x) (e := (n, o)) Hlk.out, show f (n, o) = none from HS.out.at_.no _ Hin.out]; rfl
 go_enter Tryz.func81, Tryz.ntmps81
 go_wp2
 rw [← HWe.out]
 refine wp_flowT (fun _ => False) (by kernel_rfl) (by kernel_rfl) ?_
 repeat (apply FlowT.d; (intro w1 hk; unfold does; go_simp; (try go_ints); (first | exact DetR.mk | (simp only [↓IntWalk.iteOmega, Oper.doesUpon_value]; exact DetR.mk) | (simp only [↓IntWalk.iteOmega]; go_simp; (try go_ints); exact DetR.mk))); simp only [Act.put, qS0, qS1, qS2])
 apply FlowT.d
 ·intro w1 hk
  unfold does
  go_simp
  rw [HL.out w1 hk.ext]
  go_simp
  exact DetR.mk
 simp only [Act.put, qS0, qS1, qS2]
 repeat (apply FlowT.d; (intro w1 hk; unfold does; go_simp; (try go_ints); (first | exact DetR.mk | (simp only [↓IntWalk.iteOmega, Oper.doesUpon_value]; exact DetR.mk) | (simp only [↓IntWalk.iteOmega]; go_simp; (try go_ints); exact DetR.mk))); simp only [Act.put, qS0, qS1, qS2])
 refine FlowT.fin fun w2 hx2 hk2 => ?_
 have Hx2 := hid hx2
 have HS2 := hid (HS.out.ext hx2)
 have HBs2 := hid (HBs.out.ext hx2)
 have HBk2 := hid (HBk.out.ext hx2)
 clear hx2 hk2 b5 d0 d1 HL
 have b4 := HS2.out.blk.kc (X := fun _ => False) (fun e => e) 4 rfl
 have b5 := HS2.out.blk.kc (X := fun _ => False) (fun e => e) 5 rfl
 have d0 := HBk2.out.kc (X := fun _ => False) (fun e => e) 0 rfl
 have d1 := HBk2.out.kc (X := fun _ => False) (fun e => e) 1 rfl
 simp only [qA0, qA1, qA2] at b4 b5 d0 d1
 go_wp2
 refine wp_flowT (fun _ => False) (by kernel_rfl) (by kernel_rfl) ?_
 repeat (apply FlowT.d; (intro w1 hk; unfold does; go_simp; (try go_ints); (first | exact DetR.mk | (simp only [↓IntWalk.iteOmega, Oper.doesUpon_value]; exact DetR.mk) | (simp only [↓IntWalk.iteOmega]; go_simp; (try go_ints); exact DetR.mk))); simp only [Act.put, qS0, qS1, qS2])
 refine FlowT.last (fun _ w' => KMap Tryz.prog 91 twoV w' m (fun q => if q = (n, o) then some (.int .i64 (l.length : Int)) else f q) ∧ Keep (fun q => q = m) w2 w') 10 rfl (by kernel_rfl) (by kernel_rfl) (fun w3 hC hk => ?_) (fun _ w3 hR => ?_)
 ·exact does_kmap_put rfl _ _ _ 83 3 rfl wfact_keyed twoV_inj Tryz.underlying83 (HS2.out.map.ext hk.ext) rfl (n, o) rfl Hlk.out (.int .i64 (l.length : Int)) rfl fun w' k1 k2 => ⟨k1, (hk.ext.keep _).trans k2⟩
 simp only [Act.put]
 have HR := hid hR
 clear hR b4 b5 d0 d1 Hlk
 have HR3 := hid (own_off HS2.out.lrow HR.out.2 fun b e => by rintro ⟨c, hc⟩; exact HS2.out.map.not_blk (e ▸ hc))
 have HB3 := hid (HS2.out.blk.keep HR.out.2 (HS2.out.map.ne HS2.out.blk))
 have HBs3 := hid (HBs2.out.keep HR.out.2 (HS2.out.map.ne HBs2.out))
 have hX : ∀ (b : Nat) (e : TypeId), (Value.slice al l.length cl).ownBlock = some b → 47 ≠ e → ∀ c, ¬ Blk w3 b c e := fun _ _ hb he c hc => by
  obtain ⟨c', hc'⟩ := own_ty HR3.out hb
  exact off_of hc' he ⟨_, hc⟩
 have hbs : ¬ (Value.slice al l.length cl).ownBlock = some w.heap.size := fun hb => by
  have := Hvl.out _ hb; omega
 have b4 := HB3.out.kc (X := fun q => (Value.slice al l.length cl).ownBlock = some q) (fun hb => hX _ _ hb (by decide) _ HB3.out) 4 rfl
 have d0 := HBs3.out.kc (X := fun q => (Value.slice al l.length cl).ownBlock = some q) hbs 0 rfl
 have d1 := HBs3.out.kc (X := fun q => (Value.slice al l.length cl).ownBlock = some q) hbs 1 rfl
 have d2 := HBs3.out.kc (X := fun q => (Value.slice al l.length cl).ownBlock = some q) hbs 2 rfl
 have d3 := HBs3.out.kc (X := fun q => (Value.slice al l.length cl).ownBlock = some q) hbs 3 rfl
 have d4 := HBs3.out.kc (X := fun q => (Value.slice al l.length cl).ownBlock = some q) hbs 4 rfl
 simp only [qA0, qA1, qA2] at b4 d0 d1 d2 d3 d4
 have HX3 := hid hX
 clear hX hbs
 go_wp2
 refine wp_flowT (fun q => (Value.slice al l.length cl).ownBlock = some q) (by kernel_rfl) (by kernel_rfl) ?_
 repeat (apply FlowT.d; (intro w1 hk; unfold does; go_simp; (try go_ints); (first | exact DetR.mk | (simp only [↓IntWalk.iteOmega, Oper.doesUpon_value]; exact DetR.mk) | (simp only [↓IntWalk.iteOmega]; go_simp; (try go_ints); exact DetR.mk))); simp only [Act.put, qS0, qS1, qS2])
 refine FlowT.s (fun v' w' => ∃ q, v' = .slice (some ⟨q, 0, none⟩) 1 1 ∧ Blk w' q #[.int .i64 n, .int .i64 o, .int .i64 st, .int .i64 fr, .int .i64 vi] 47 ∧ Ext w3 w') 6 rfl (by kernel_rfl) (fun _ _ _ ⟨q, h1, h2, h3⟩ he => ⟨q, h1, h2.ext he, h3.trans he⟩) (fun w4 hC hk => ?_) ?_
 ·unfold does
  go_simp
  exact ⟨hk.alloc _, _, rfl, Blk.new _ _ _, hC.alloc _⟩
 rintro _ ⟨_, q3, rfl, _, _⟩
 simp only [Act.put, qS0, qS1, qS2]
 refine FlowT.s (fun v' w' => (∃ a c, v' = .slice a (l.length + 1) c) ∧ w'.ownsRow 0 47 5 v' (l.length + 1) (l.flatMap stCells ++ stCells ⟨n, o, st, fr, vi⟩) ∧ ∀ b, v'.ownBlock = some b → (Value.slice al l.length cl).ownBlock = some b ∨ w3.heap.size ≤ b) 7 rfl (by kernel_rfl) (fun _ _ _ ⟨h1, h2, h3⟩ he => ⟨h1, own_ext h2 he, h3⟩) (fun w4 hC hk => ?_) ?_
 ·obtain ⟨q', e, hg, hE⟩ := hC
  obtain rfl : q3 = q' := by simpa using e
  refine does_append_el 0 (Nat.zero_le _) 29 47 (.agg #[.int .i64 0, .int .i64 0, .int .i64 0, .int .i64 0, .int .i64 0]) 5 40 Tryz.underlying29 why_info rfl (by omega) (by omega) rfl _ _ rfl _ _ _ rfl (own_ext HR3.out hE) q3 (stCells ⟨n, o, st, fr, vi⟩) rfl (by simp [stCells, Value.oneCell']) rfl hg (by have := Hll.out; omega) fun v' w' h1 h2 h3 => ?_
  refine ⟨hk.trans h2, row_form h1, h1, fun b hb => ?_⟩
  rcases h3 with k | k
  ·exact .inl (k ▸ hb)
  ·rw [k] at hb
   obtain rfl := Option.some.inj hb
   exact .inr hE.size
 rintro _ ⟨_, ⟨a6, c6, rfl⟩, _, _⟩
 simp only [Act.put, qS0, qS1, qS2]
 repeat (apply FlowT.d; (intro w1 hk; unfold does; go_simp; (try go_ints); (first | exact DetR.mk | (simp only [↓IntWalk.iteOmega, Oper.doesUpon_value]; exact DetR.mk) | (simp only [↓IntWalk.iteOmega]; go_simp; (try go_ints); exact DetR.mk))); simp only [Act.put, qS0, qS1, qS2])
 refine FlowT.last (fun _ w' => FindAt w' G F g ad P vr (l ++ [⟨n, o, st, fr, vi⟩]) ∧ Keep (fun b => ¬ F b) w w') 10 rfl (by kernel_rfl) (by kernel_rfl) (fun w5 hC hk => ?_) (fun _ w6 hR => ?_)
 ·obtain ⟨_, hrw, hob⟩ := hC
  have q4 := (HB3.out.keep hk fun hb => HX3.out _ _ hb (by decide) _ HB3.out).free 4
  have hp := HS2.out.push (s := ⟨n, o, st, fr, vi⟩) Hin.out HR.out.1 HR.out.2 hrw hk fun b hb => (hob b hb).imp id fun h => Nat.le_trans HR.out.2.size h
  have hp' : FindAt _ G F g ad P vr (l ++ [⟨n, o, st, fr, vi⟩]) := ⟨_, _, _, _, _, _, _, _, _, hp⟩
  have kk := ((HX.out.trans Hx2.out).keep (fun b => ¬ F b)).trans ((HR.out.2.mono fun b _ e => by rw [e]; exact HS2.out.mf).trans ((Keep.mono (Y := fun b => ¬ F b) hk fun b _ e => HS2.out.lf b e).set (p := ⟨g, 4, none⟩) HS2.out.fg (.slice a6 (l.length + 1) c6)))
  unfold does
  go_simp
 simp only [Act.put]
 have HR6 := hid hR
 clear hR b4 d0 d1 d2 d3 d4
 go_wp2
 go_ret
 exact ⟨rfl, HR6.out⟩
theorem whyadd_any (P : PP) (l : List ST) (s : ST) (w : World) (G F : Nat → Prop) (g : Nat) (ad : Nat → Addr) {vr : Value} (hS : FindAt w G F g ad P vr l) (hb1 : 0 ≤ s.node ∧ s.node < 1000000) (hb2 : 0 ≤ s.obj ∧ s.obj < 1000000) (hll : l.length ≤ 16000) :
  Calls Tryz.prog 81 #[.pointer (some ⟨g, 0, none⟩), .agg #[.int .i64 s.node, .int .i64 s.obj, .int .i64 s.stmt, .int .i64 s.frm, .int .i64 s.via]] w fun x w' => x = .returned (.bool (decide (l.length < (addS l s).length))) ∧ FindAt w' G F g ad P vr (addS l s) ∧ Keep (fun b => ¬ F b) w w' := by
 by_cases hin : s.fact ∈ facts l
 ·rw [addS_old hin, decide_eq_false (Nat.lt_irrefl _)]
  exact whyadd_old P l s w G F g ad hS hb1 hb2 hin
 ·rw [addS_new hin, decide_eq_true (by rw [List.length_append, List.length_singleton]; omega)]
  exact whyadd_new P l s w G F g ad hS hb1 hb2 hin hll
end Go.Proofs.YtngdpnlgnpdkcaaGreatDoor
namespace Go.Proofs.YtngdpnlgnpdkcaaGreatDoor
open Go Go.RowKit
theorem stCells_one (l : List ST) : ∀ u ∈ l.flatMap stCells, u.oneCell' = true := fun u hu => by
 obtain ⟨x, _, hux⟩ := List.mem_flatMap.1 hu
 simp only [stCells, List.mem_cons, List.not_mem_nil, or_false] at hux
 rcases hux with rfl | rfl | rfl | rfl | rfl <;> rfl
theorem own_st {w : World} {base g n cap : Nat} {t : TypeId} {l : List ST} (h : w.ownsRow base t 5 (.slice (some ⟨g, 0, none⟩) n cap) n (l.flatMap stCells)) {i : Nat} {x : ST} (hx : l[i]? = some x) :
  w.cell? ⟨g, i * 5, none⟩ = some (.int .i64 x.node) ∧ w.cell? ⟨g, i * 5 + 1, none⟩ = some (.int .i64 x.obj) ∧ w.cell? ⟨g, i * 5 + 2, none⟩ = some (.int .i64 x.stmt) ∧ w.cell? ⟨g, i * 5 + 3, none⟩ = some (.int .i64 x.frm) ∧ w.cell? ⟨g, i * 5 + 4, none⟩ = some (.int .i64 x.via) := by
 have c : ∀ j v, (stCells x)[j]? = some v → j < 5 → w.cell? ⟨g, i * 5 + j, none⟩ = some v := fun j v hv hj => own_get h _ ((fm_get stCells 5 stCells_len l i j x hx hj).trans hv)
 exact ⟨c 0 _ rfl (by omega), c 1 _ rfl (by omega), c 2 _ rfl (by omega), c 3 _ rfl (by omega), c 4 _ rfl (by omega)⟩
set_option maxRecDepth 100000 in
set_option maxHeartbeats 800000 in
theorem clonew_any (v : Value) (l : List ST) (w : World) (h : w.ownsRow 0 47 5 v l.length (l.flatMap stCells)) (hl : l.length ≤ 16000) :
  Calls Tryz.prog 83 #[v] w fun e w' => ∃ v', e = .returned v' ∧ Ext w w' ∧ w'.ownsRow w.heap.size 47 5 v' l.length (l.flatMap stCells) := by
 have hl2 : 0 + l.length ≤ 1000000 := by omega
 rcases h.2 with ⟨rfl, h0⟩ | ⟨g, cap, cur, rfl, _, _, hnc, _⟩
 ·obtain rfl : l = [] := List.eq_nil_of_length_eq_zero h0
  have he := Lib.run_eql_slice_nil (P := Tryz.prog) w 29 47 none 0 0 0 0 Tryz.underlying29
  clear h h0
  go_enter Tryz.func83, Tryz.ntmps83
  go_wp2
  go_ret
  exact ⟨_, rfl, Ext.refl _, World.ownsRow_nil _ _ _ _⟩
 ·have hnil : (w.alloc (.cells #[] 47)).ownsRow w.heap.size 47 5 (.slice (some ⟨w.heap.size, 0, none⟩) 0 0) 0 [] := World.ownsRow_made w #[] 0 (Nat.le_refl _) (by unfold maxLen; omega) rfl
  have Hnil := hid hnil
  have hb : w.heap.size ≤ (w.alloc (.cells #[] 47)).heap.size := by simp
  have hx1 : Hid (Ext w (w.alloc (.cells #[] 47))) := hid ((Ext.refl _).alloc _)
  have hs1 : Hid (Src (w.alloc (.cells #[] 47)) (some ⟨g, 0, none⟩) l.length 5 (l.flatMap stCells)) := hid (own_src (own_ext h hx1.out) (stCells_one l))
  have he := Lib.run_eql_slice_nil (P := Tryz.prog) w 29 47 (some ⟨g, 0, none⟩) l.length cap 0 0 Tryz.underlying29
  clear h hnil hnc
  go_enter Tryz.func83, Tryz.ntmps83
  go_wp2_with (at_builtin; refine wpList_append_src w.heap.size hb 29 47 (.agg #[.int .i64 0, .int .i64 0, .int .i64 0, .int .i64 0, .int .i64 0]) 5 40 Tryz.underlying29 why_info rfl (by omega) (by omega) rfl _ _ rfl (.slice (some ⟨w.heap.size, 0, none⟩) 0 0) 0 [] rfl Hnil.out (some ⟨g, 0, none⟩) l.length cap (l.flatMap stCells) rfl hs1.out hl2 ?_; intro v' w' h1 h2 h4; have h3 := Keep.new hx1.out h2 (fun k hk => by simp [Value.ownBlock] at hk; omega))
  go_ret
  exact ⟨_, rfl, h3, by simpa using h1⟩
theorem edgeUp_succ {l : List ST} {k : Nat} {x : ST} (h : l[k]? = some x) (e : Int × Int) (stmt via : Int) : edgeUp l e stmt via (k + 1) = if x.node = e.1 then addS (edgeUp l e stmt via k) ⟨e.2, x.obj, stmt, k, via⟩ else edgeUp l e stmt via k := by
 conv => lhs; unfold edgeUp
 rw [h]
theorem edgeUp_len {l : List ST} {e : Int × Int} {stmt via : Int} {k : Nat} (hk : k ≤ l.length) : l.length ≤ (edgeUp l e stmt via k).length ∧ (edgeUp l e stmt via k).length ≤ (edgeS l e stmt via).length := by
 have h1 := edgeUp_le l e stmt via 0 k
 have h2 := edgeUp_le l e stmt via k (l.length - k)
 rw [Nat.zero_add] at h1
 rw [show k + (l.length - k) = l.length by omega] at h2
 exact ⟨h1.length_le, h2.length_le⟩
set_option maxRecDepth 100000 in
set_option maxHeartbeats 3200000 in
theorem whyedge_any (P : PP) (l : List ST) (e : Int × Int) (stmt via : Int) (w : World) (G F : Nat → Prop) (g : Nat) (ad : Nat → Addr) {vr : Value} (hS : FindAt w G F g ad P vr l) (he : 0 ≤ e.2 ∧ e.2 < 1000000) (ho : ∀ x ∈ l, 0 ≤ x.obj ∧ x.obj < 1000000) (hll : (edgeS l e stmt via).length ≤ 16000) :
  Calls Tryz.prog 82 #[.pointer (some ⟨g, 0, none⟩), .agg #[.int .i64 e.1, .int .i64 e.2], .int .i64 stmt, .int .i64 via] w fun x w' => x = .returned (.bool (decide (l.length < (edgeS l e stmt via).length))) ∧ FindAt w' G F g ad P vr (edgeS l e stmt via) ∧ Keep (fun b => ¬ F b) w w' := by
 have HGF : Hid (∀ b, G b → F b) := hid (by obtain ⟨_, _, _, _, _, _, _, _, _, h⟩ := hS; exact h.gf)
 have hlen : l.length ≤ 16000 := Nat.le_trans (edgeS_pre l e stmt via).length_le hll
 have Hll := hid hll
 have Ho := hid ho
 have He := hid he
 obtain ⟨W, hW⟩ : ∃ W, W = w.alloc (.cells #[.int .i64 e.1, .int .i64 e.2] 62) := ⟨_, rfl⟩
 have hx1 : Ext w W := by rw [hW]; exact (Ext.refl _).alloc _
 have HX := hid hx1
 have HBx : Hid (Blk W w.heap.size #[.int .i64 e.1, .int .i64 e.2] 62) := hid (by rw [hW]; exact Blk.new _ _ _)
 have HWe := hid hW
 have HS0 := hid hS
 obtain ⟨a1, a2, a3, c1, c2, c3, vl, m, f, h⟩ := hS
 have HB := hid (h.ext HX.out)
 have HCl := hid (clonew_any vl l W HB.out.lrow hlen)
 have b4 := HB.out.blk.av 4 rfl
 simp only [qA0, qA1, qA2] at b4
 rw [HWe.out] at b4
 clear h hW hx1 hll ho he
 go_enter Tryz.func82, Tryz.ntmps82
 go_wp2_with fail
 rw [← HWe.out]
 refine HCl.out.mono ?_
 intro x w1 hx
 obtain ⟨v1, rfl, hx1, hr1⟩ := hx
 obtain ⟨al, cl, rfl⟩ := row_form hr1
 have Hx1 := hid (HX.out.trans hx1)
 have HS1 : Hid (FindAt w1 G (fun b => F b ∨ (w.heap.size ≤ b ∧ b < w1.heap.size)) g ad P vr l) := hid (HS0.out.frz Hx1.out)
 have HBx1 := hid (HBx.out.ext hx1)
 have HR1 := hid hr1
 have HrF : Hid (∀ b, (Value.slice al l.length cl).ownBlock = some b → F b ∨ (w.heap.size ≤ b ∧ b < w1.heap.size)) := hid fun b hb => by
  have h1 := World.ownsRow.lt hr1 b hb
  exact .inr ⟨Nat.le_trans HX.out.size h1.1, h1.2⟩
 have HbF : Hid (F w.heap.size ∨ (w.heap.size ≤ w.heap.size ∧ w.heap.size < w1.heap.size)) := hid (.inr ⟨Nat.le_refl _, HBx1.out.lt⟩)
 clear hx1 hr1 HCl b4
 generalize hF' : (fun b => F b ∨ (w.heap.size ≤ b ∧ b < w1.heap.size)) = F' at HS1
 have HF1 : Hid (∀ b, F b → F' b) := hid fun b hb => by rw [← hF']; exact .inl hb
 have HrF : Hid (∀ b, (Value.slice al l.length cl).ownBlock = some b → F' b) := hid fun b hb => by rw [← hF']; exact HrF.out b hb
 have HbF : Hid (F' w.heap.size) := hid (by rw [← hF']; exact HbF.out)
 clear hF'
 go_wp2
 go_loopw [9, 18] (fun t9 t18 wr => ∃ k : Nat, t18 = .int .i64 (k : Int) ∧ k ≤ l.length ∧ t9 = .bool (decide (l.length < (edgeUp l e stmt via k).length)) ∧ FindAt wr G F' g ad P vr (edgeUp l e stmt via k) ∧ wr.ownsRow W.heap.size 47 5 (.slice al l.length cl) l.length (l.flatMap stCells) ∧ Blk wr w.heap.size #[.int .i64 e.1, .int .i64 e.2] 62 ∧ Keep (fun b => ¬ F b) w wr) (fun _ t18 _ => l.length - (intOf t18).toNat)
 case atStart => exact ⟨0, rfl, Nat.zero_le _, by unfold edgeUp; rw [decide_eq_false (Nat.lt_irrefl _)], HS1.out, HR1.out, HBx1.out, Hx1.out.keep _⟩
 case round =>
  obtain ⟨k, rfl, hk, rfl, hS, hR, hB, hK⟩ := hrel
  by_cases hlt : k < l.length
  ·obtain ⟨x, hx⟩ : ∃ x, l[k]? = some x := ⟨_, List.getElem?_eq_getElem hlt⟩
   obtain ⟨g8, cp8, hge⟩ := own_some hR (by omega)
   simp only [Value.slice.injEq] at hge
   obtain ⟨rfl, -, rfl⟩ := hge
   obtain ⟨q0, q1, q2, q3, q4⟩ := own_st hR hx
   have Hlb := hid (edgeUp_len (e := e) (stmt := stmt) (via := via) hk)
   have hxl := Ho.out x (List.mem_of_getElem? hx)
   obtain ⟨wA, hwA⟩ : ∃ wA, wA = wr.alloc (.cells #[.int .i64 x.node, .int .i64 x.obj, .int .i64 x.stmt, .int .i64 x.frm, .int .i64 x.via] 47) := ⟨_, rfl⟩
   have hxA : Ext wr wA := by rw [hwA]; exact (Ext.refl _).alloc _
   have Hn : Hid (edgeUp l e stmt via (k + 1) = if x.node = e.1 then addS (edgeUp l e stmt via k) ⟨e.2, x.obj, stmt, k, via⟩ else edgeUp l e stmt via k) := hid (edgeUp_succ hx e stmt via)
   have HxA := hid hxA
   have HwA := hid hwA
   have HS2 := hid (hS.ext hxA)
   have HR2 := hid (own_ext hR hxA)
   have HB2 := hid (hB.ext hxA)
   have HK2 := hid (hK.ext_r hxA)
   have d0 := HB2.out.av 0 rfl
   have d1 := HB2.out.av 1 rfl
   simp only [qA0, qA1, qA2] at d0 d1
   rw [HwA.out] at d0 d1
   clear hS hR hB hK hx hxA hwA
   by_cases hn : x.node = e.1
   ·rw [if_pos hn] at Hn
    have HE := hid (whyadd_any P (edgeUp l e stmt via k) ⟨e.2, x.obj, stmt, k, via⟩ wA G F' g ad HS2.out He.out hxl (Nat.le_trans Hlb.out.2 Hll.out))
    simp only at HE
    have hpre := addS_pre (edgeUp l e stmt via k) ⟨e.2, x.obj, stmt, k, via⟩
    have Hpl := hid hpre.length_le
    have hnb : (x.node == e.1) = true := by simpa using hn
    clear hpre hxl hn
    go_wp2_with fail
    rw [← HwA.out]
    refine HE.out.mono ?_
    intro z w5 hz
    obtain ⟨rfl, hS5, hK5⟩ := hz
    have HS5 := hid hS5
    have HK5 := hid hK5
    clear hS5 hK5 HE q0 q1 q2 q3 q4 d0 d1
    have Hbe : Hid (l.length < (edgeUp l e stmt via (k + 1)).length ↔ ((edgeUp l e stmt via k).length < (addS (edgeUp l e stmt via k) ⟨e.2, x.obj, stmt, k, via⟩).length ∨ l.length < (edgeUp l e stmt via k).length)) := hid (by
     rw [Hn.out]
     have h1 := Hpl.out
     have h2 := Hlb.out.1
     omega)
    cases hd : decide ((edgeUp l e stmt via k).length < (addS (edgeUp l e stmt via k) ⟨e.2, x.obj, stmt, k, via⟩).length) with
    | true =>
     go_wp2
     go_roundw
     case rel =>
      refine ⟨k + 1, by go_num, by omega, ?_, ?_, ?_, ?_, ?_⟩
      ·rw [decide_eq_true (Hbe.out.2 (.inl (of_decide_eq_true hd)))]
      ·rw [Hn.out]; exact HS5.out
      ·exact row_keep HR2.out HK5.out fun b hb hx => hx (HrF.out b hb)
      ·exact HB2.out.keep HK5.out fun h => h HbF.out
      ·exact HK2.out.trans (HK5.out.mono fun b _ hx hF => hx (HF1.out b hF))
     case measure => simp [intOf]; omega
    | false =>
     go_wp2
     go_roundw
     case rel =>
      refine ⟨k + 1, by go_num, by omega, ?_, ?_, ?_, ?_, ?_⟩
      ·congr 1
       exact decide_eq_decide.2 ⟨fun h => Hbe.out.2 (.inr h), fun h => (Hbe.out.1 h).resolve_left (of_decide_eq_false hd)⟩
      ·rw [Hn.out]; exact HS5.out
      ·exact row_keep HR2.out HK5.out fun b hb hx => hx (HrF.out b hb)
      ·exact HB2.out.keep HK5.out fun h => h HbF.out
      ·exact HK2.out.trans (HK5.out.mono fun b _ hx hF => hx (HF1.out b hF))
     case measure => simp [intOf]; omega
   ·rw [if_neg hn] at Hn
    have hnb : (x.node == e.1) = false := by simpa using hn
    clear hn
    go_wp2
    rw [← HwA.out]
    clear q0 q1 q2 q3 q4 d0 d1
    go_roundw
    case rel =>
     refine ⟨k + 1, by go_num, by omega, ?_, ?_, HR2.out, HB2.out, HK2.out⟩
     ·rw [Hn.out]
     ·rw [Hn.out]; exact HS2.out
    case measure => simp [intOf]; omega
  ·obtain rfl : k = l.length := by omega
   have HSz := hid (hS.less HGF.out HF1.out)
   have HKz := hid hK
   clear hS hK hR hB
   go_wp2
   go_ret
   exact ⟨rfl, HSz.out, HKz.out⟩
end Go.Proofs.YtngdpnlgnpdkcaaGreatDoor
