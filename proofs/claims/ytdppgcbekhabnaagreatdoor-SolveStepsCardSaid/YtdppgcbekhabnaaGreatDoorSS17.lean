/- Texts of one proof, put together: ZO ZP ZT ZU ZV. -/
import Derived.Test.YtdppgcbekhabnaaGreatDoorSS08
import Derived.Test.YtdppgcbekhabnaaGreatDoorSS12
import Derived.Test.YtdppgcbekhabnaaGreatDoorSS16

/- The solver, plainly: at the end it is the least answer; how many came. -/
namespace Go.Proofs.YtdppgcbekhabnaaGreatDoor
set_option linter.unusedSimpArgs false
set_option linter.unusedVariables false
open Go Go.RowKit

def SV.zero (P : PP) : SV := ⟨List.replicate P.nodesV (List.replicate P.objectsV false), [], [], []⟩
theorem zero_bit (P : PP) (f : Int × Int) : (SV.zero P).bit f = false := by
  unfold SV.bit SV.zero
  simp only [List.getD_eq_getElem?_getD, List.getElem?_replicate]
  split
  · simp only [Option.getD_some, List.getElem?_replicate]
    split <;> rfl
  · rfl
theorem Full.zero (P : PP) (S : List (List Int)) : Full P S (SV.zero P) := by
  refine ⟨⟨List.length_replicate, fun l hl => ?_, fun f hf => (by cases hf), fun f hb _ => ?_, fun e he => (by cases he), fun e he => (by cases he), fun r hr => (by cases hr), fun r hr => (by cases hr)⟩, fun r hr => (by cases hr), fun r hr => (by cases hr)⟩
  · obtain rfl := List.eq_of_mem_replicate hl
    exact List.length_replicate
  · rw [zero_bit] at hb; cases hb
theorem adds_fold {P : PP} {S : List (List Int)} (hg : P.GoodS S) (hc : ClosedP P S) : ∀ (l : List RV) {s : SV}, Full P S s → (∀ r ∈ l, r ∈ P.rulesV) → Full P S (l.foldl (SV.add P) s) ∧ (l.foldl (SV.add P) s).has = s.has ∧ (l.foldl (SV.add P) s).rules = s.rules ++ l
  | [], s, h, _ => ⟨h, rfl, (List.append_nil _).symm⟩
  | r :: l, s, h, hs => by
    obtain ⟨k1, k2, k3⟩ := h.added hg hc (hs r List.mem_cons_self)
    obtain ⟨j1, j2, j3⟩ := adds_fold hg hc l k1 fun q hq => hs q (List.mem_cons_of_mem _ hq)
    exact ⟨j1, j2.trans k2, by rw [List.foldl_cons, j3, k3, List.append_assoc]; rfl⟩
theorem objs_srt (s : SV) (n : Int) : Srt (s.objs n) := by
  unfold SV.objs
  show List.Pairwise (· < ·) _
  rw [List.pairwise_map]
  exact List.Pairwise.imp (R := (· < ·)) (fun h => by omega) (List.Pairwise.sublist List.filter_sublist List.pairwise_lt_range)
theorem bit_few {P : PP} {S : List (List Int)} {s : SV} (h : Core P S s) {f : Int × Int} (h0 : 0 ≤ f.2) (hb : s.bit f = true) : f.2 < P.objectsV := by
  unfold SV.bit at hb
  rcases Nat.lt_or_ge f.1.toNat s.has.length with g | g
  · have hl : (s.has.getD f.1.toNat []).length = P.objectsV := by
      rw [List.getD_eq_getElem?_getD, List.getElem?_eq_getElem g]
      exact h.row _ (List.getElem_mem g)
    rcases Nat.lt_or_ge f.2.toNat P.objectsV with k | k
    · omega
    · rw [List.getD_eq_getElem?_getD (l := s.has.getD f.1.toNat []), List.getElem?_eq_none (by omega)] at hb; cases hb
  · rw [List.getD_eq_getElem?_getD (l := s.has), List.getElem?_eq_none g] at hb; cases hb
theorem redges_nil' {P : PP} {r : RV} {has : List (List Int)} (h : r.kind.toList = bBase.toList) : P.redges r has = [] := by
  have e := eq_of_beq bBase_list
  unfold PP.redges kCopy kLoad kStore kCall
  rw [h, e]; rfl
/-- An edge of a rule that is fired comes by an object of its pivot. -/
theorem redges_out {P : PP} {H : List (List Int)} {r : RV} (hf : r.fired = true) {e : Int × Int} (he : e ∈ P.redges r H) : ∃ o, o ∈ H.getD r.pivot.toNat [] ∧ e ∈ P.fires r o := by
  unfold PP.redges at he
  unfold PP.fires RV.pivot
  unfold RV.fired at hf
  cases h0 : (r.kind.toList == kCopy) with
  | true =>
    have e0 := eq_of_beq h0
    rw [e0] at hf
    exact absurd hf (by decide)
  | false =>
  rw [h0, cond_false] at he
  cases h1 : (r.kind.toList == kLoad) with
  | true =>
    have e1 := eq_of_beq h1
    have h2 : (r.kind.toList == kStore) = false := by rw [e1]; decide
    have h3 : (r.kind.toList == kCall) = false := by rw [e1]; decide
    rw [h1, cond_true] at he
    obtain ⟨o, ho, rfl⟩ := List.mem_map.1 he
    obtain ⟨k1, k2⟩ := List.mem_filter.1 ho
    have hn : ¬ (P.nodesV : Int) ≤ o := fun g => by rw [decide_eq_true g] at k2; cases k2
    rw [h2, h3, cond_false]
    refine ⟨o, k1, ?_⟩
    rw [cond_false, if_neg hn, cond_true]
    exact List.mem_singleton.2 rfl
  | false =>
  rw [h1, cond_false] at he
  cases h2 : (r.kind.toList == kStore) with
  | true =>
    have e1 := eq_of_beq h2
    have h3 : (r.kind.toList == kCall) = false := by rw [e1]; decide
    rw [h2, cond_true] at he
    obtain ⟨o, ho, rfl⟩ := List.mem_map.1 he
    obtain ⟨k1, k2⟩ := List.mem_filter.1 ho
    have hn : ¬ (P.nodesV : Int) ≤ o := fun g => by rw [decide_eq_true g] at k2; cases k2
    rw [h3, cond_true]
    refine ⟨o, k1, ?_⟩
    rw [cond_false, if_neg hn, cond_false]
    exact List.mem_singleton.2 rfl
  | false =>
  rw [h2, cond_false] at he
  cases h3 : (r.kind.toList == kCall) with
  | true =>
    rw [h3, cond_true] at he
    obtain ⟨o, ho, hc⟩ := List.mem_flatMap.1 he
    exact ⟨o, ho, hc⟩
  | false => rw [h3, cond_false] at he; cases he
/-- What came, as sets. -/
def SV.sets (P : PP) (s : SV) : List (List Int) := (List.range P.nodesV).map fun n : Nat => s.objs (n : Int)
theorem sets_getD {P : PP} {s : SV} {n : Nat} (hn : n < P.nodesV) : (s.sets P).getD n [] = s.objs n := by
  unfold SV.sets
  rw [List.getD_eq_getElem?_getD, List.getElem?_map, List.getElem?_range hn]; rfl
theorem Core.sub {P : PP} {S : List (List Int)} {s : SV} (h : Core P S s) (n : Nat) : ∀ o ∈ s.objs n, o ∈ S.getD n [] := fun o ho => by
  obtain ⟨h0, hb⟩ := mem_objs.1 ho
  exact h.bit ((n : Int), o) hb h0
theorem Core.good {P : PP} {S : List (List Int)} {s : SV} (hw : P.Well) (h : Core P S s) : P.GoodS (s.sets P) := by
  have h126 := nodesV_le P hw
  have hf := hw.few
  refine ⟨hw, by unfold SV.sets; rw [List.length_map, List.length_range], fun l hl => ?_⟩
  obtain ⟨n, hn, rfl⟩ := List.mem_map.1 hl
  have hlt : ∀ x ∈ s.objs n, 0 ≤ x ∧ x < (P.objectsV : Int) := fun x hx => by
    obtain ⟨h0, hb⟩ := mem_objs.1 hx
    exact ⟨h0, bit_few h (f := ((n : Int), x)) h0 hb⟩
  refine setE_of (chkE_zero.2 ⟨fun x hx => ?_, objs_srt s n⟩) fun x hx => (hlt x hx).2
  have := hlt x hx
  unfold PP.objectsV at this
  omega
/-- Where nothing is to come, what came is the least answer. -/
theorem Full.done {P : PP} {S : List (List Int)} {s : SV} {m : Nat} (hL : LeastAt P m S) (hw : P.Well) (h : Full P S s) (hr : ∀ r ∈ P.rulesV, r ∈ s.rules) (hwt : s.wait = []) {n : Nat} (hn : n < P.nodesV) : s.objs n = S.getD n [] := by
  have hg := hL.good hw
  have hgs := h.core.good hw
  have hcl : ClosedP P (s.sets P) := by
    refine ⟨fun k hk hb => ?_, fun e he hne q hq => ?_⟩
    · have hrk : P.ruleV k (P.stAt k) ∈ P.rulesV := List.mem_map.2 ⟨k, List.mem_range.2 hk, rfl⟩
      have ha := rule_a_in hw hk
      have hnv := nodes_vars P
      have hbi := base_b_in hw hk hb
      rcases h.core.base _ (hr _ hrk) hb with g | g
      · rw [sets_getD (by omega)]
        refine mem_objs.2 ⟨hbi.1, ?_⟩
        rw [show (((P.ruleV k (P.stAt k)).a.toNat : Nat) : Int) = (P.ruleV k (P.stAt k)).a by omega]
        exact g
      · rw [hwt] at g; cases g
    · obtain ⟨r, hrv, her⟩ := List.mem_flatMap.1 he
      obtain ⟨i1, i2, i3, i4⟩ := edges0_in hw hgs.ok e he
      have hin : e ∈ s.edges := by
        have hrs := hr r hrv
        cases hfd : r.fired with
        | false =>
          rcases rule_kinds hw hrv with g | g | g
          · rw [redges_nil' g] at her; cases her
          · have her2 : e = (r.a, r.b) := by
              unfold PP.redges at her
              rw [show (r.kind.toList == kCopy) = true from by rw [g]; decide, cond_true] at her
              exact List.mem_singleton.1 her
            rcases h.core.copy r hrs g with k | k
            · rw [her2] at hne; exact absurd k hne
            · rw [her2]; exact k
          · rw [hfd] at g; cases g
        | true =>
          obtain ⟨i, hi, hri⟩ := List.mem_map.1 hrv
          have hi := List.mem_range.1 hi
          have hp0 : 0 ≤ r.pivot := by rw [← hri]; exact pivot_in hw hi (by rw [hri]; exact hfd)
          obtain ⟨o, ho, hfo⟩ := redges_out hfd her
          have hpn : r.pivot.toNat < P.nodesV := by
            rcases Nat.lt_or_ge r.pivot.toNat P.nodesV with g | g
            · exact g
            · rw [List.getD_eq_getElem?_getD, List.getElem?_eq_none (by rw [hgs.2.1]; exact g)] at ho; cases ho
          rw [sets_getD hpn] at ho
          obtain ⟨o0, ob⟩ := mem_objs.1 ho
          rw [Int.toNat_of_nonneg hp0] at ob
          rcases h.told r hrs hfd o o0 ob e hfo with k | k
          · exact absurd k hne
          · exact k
      rw [sets_getD (by omega)] at hq ⊢
      obtain ⟨q0, qb⟩ := mem_objs.1 hq
      rw [Int.toNat_of_nonneg i1] at qb
      rcases h.core.along e hin q q0 qb with k | k
      · refine mem_objs.2 ⟨q0, ?_⟩
        rw [Int.toNat_of_nonneg i3]
        exact k
      · rw [hwt] at k; cases k
  have hsub := hL.within hgs hcl
  refine srt_uniq (objs_srt s n) ?_ fun o => ⟨h.core.sub n o, fun ho => ?_⟩
  · rw [List.getD_eq_getElem?_getD]
    cases hl : S[n]? with
    | none => exact List.Pairwise.nil
    | some l => exact (chkE_zero.1 (hg.ok.ok l (List.mem_of_getElem? hl)).1).2
  · have := hsub n o ho
    rwa [sets_getD hn] at this
end Go.Proofs.YtdppgcbekhabnaaGreatDoor



/- The solver, plainly: how many facts came; steps. -/
namespace Go.Proofs.YtdppgcbekhabnaaGreatDoor
set_option linter.unusedSimpArgs false
set_option linter.unusedVariables false
open Go Go.RowKit

theorem row_count (l : List Bool) : ((List.range l.length).filter fun o => l.getD o false).length = l.countP id := by
  have e : l = (List.range l.length).map fun o => l.getD o false := by
    refine List.ext_getElem (by simp) fun i h1 h2 => ?_
    rw [List.getElem_map, List.getElem_range, List.getD_eq_getElem?_getD, List.getElem?_eq_getElem h1]; rfl
  conv => rhs; rw [e]
  rw [List.countP_map, List.countP_eq_length_filter]
  rfl
theorem objs_len (s : SV) (n : Int) : (s.objs n).length = (s.has.getD n.toNat []).countP id := by
  unfold SV.objs
  rw [List.length_map]
  exact row_count _
theorem count_set : ∀ (l : List Bool) (k : Nat), k < l.length → l.getD k false = false → (l.set k true).countP id = l.countP id + 1
  | b :: l, 0, _, h => by
    have hb : b = false := h
    subst hb
    simp
  | b :: l, k + 1, hk, h => by
    have ih := count_set l k (by simpa using hk) (by simpa using h)
    rw [List.set_cons_succ, List.countP_cons, List.countP_cons, ih]
    omega
theorem sum_one (g g' : Nat → Nat) (i : Nat) (h : ∀ n, n ≠ i → g' n = g n) (hi : g' i = g i + 1) : ∀ N, ((List.range N).map g').sum = ((List.range N).map g).sum + if i < N then 1 else 0
  | 0 => by simp
  | N + 1 => by
    rw [List.range_succ, List.map_append, List.map_append, List.sum_append, List.sum_append, sum_one g g' i h hi N]
    simp only [List.map_cons, List.map_nil, List.sum_cons, List.sum_nil]
    by_cases e : N = i
    · subst e
      rw [hi, if_neg (Nat.lt_irrefl _), if_pos (Nat.lt_succ_self _)]
      omega
    · rw [h N e]
      by_cases k : i < N
      · rw [if_pos k, if_pos (by omega)]; omega
      · rw [if_neg k, if_neg (by omega)]; omega
theorem sum_le (g g' : Nat → Nat) : ∀ N, (∀ n, n < N → g n ≤ g' n) → ((List.range N).map g).sum ≤ ((List.range N).map g').sum ∧ (((List.range N).map g).sum = ((List.range N).map g').sum → ∀ n, n < N → g n = g' n)
  | 0, _ => ⟨Nat.le_refl _, fun _ n h => by omega⟩
  | N + 1, h => by
    obtain ⟨k1, k2⟩ := sum_le g g' N fun n hn => h n (by omega)
    have hN := h N (Nat.lt_succ_self _)
    rw [List.range_succ, List.map_append, List.map_append, List.sum_append, List.sum_append]
    simp only [List.map_cons, List.map_nil, List.sum_cons, List.sum_nil]
    refine ⟨by omega, fun e n hn => ?_⟩
    by_cases hc : n = N
    · subst hc; omega
    · exact k2 (by omega) n (by omega)
/-- How many facts came. -/
def SV.tot (P : PP) (s : SV) : Nat := ((List.range P.nodesV).map fun n : Nat => (s.objs (n : Int)).length).sum
def totS (P : PP) (S : List (List Int)) : Nat := ((List.range P.nodesV).map fun n : Nat => (S.getD n []).length).sum
theorem set_srt {P : PP} {S : List (List Int)} (hg : P.GoodS S) (n : Nat) : Srt (S.getD n []) := by
  rw [List.getD_eq_getElem?_getD]
  cases hl : S[n]? with
  | none => exact List.Pairwise.nil
  | some l => exact (chkE_zero.1 (hg.ok.ok l (List.mem_of_getElem? hl)).1).2
theorem tot_le {P : PP} {S : List (List Int)} {s : SV} (hg : P.GoodS S) (h : Core P S s) : s.tot P ≤ totS P S ∧ (s.tot P = totS P S → ∀ n, n < P.nodesV → s.objs (n : Int) = S.getD n []) := by
  obtain ⟨k1, k2⟩ := sum_le (fun n : Nat => (s.objs (n : Int)).length) (fun n => (S.getD n []).length) P.nodesV fun n _ => (srt_len (objs_srt s n) (set_srt hg n) (h.sub n)).1
  exact ⟨k1, fun e n hn => (srt_len (objs_srt s n) (set_srt hg n) (h.sub n)).2 (k2 e n hn)⟩
theorem tot_mark {P : PP} {s : SV} (hl : s.has.length = P.nodesV) {f : Int × Int} (h1 : 0 ≤ f.1 ∧ f.1 < P.nodesV) (h2 : 0 ≤ f.2 ∧ f.2.toNat < (s.has.getD f.1.toNat []).length) (hb : s.bit f = false) : (s.mark f).tot P = s.tot P + 1 := by
  unfold SV.tot
  have hn : f.1.toNat < s.has.length := by omega
  have h1' : ∀ n : Nat, n ≠ f.1.toNat → ((s.mark f).objs (n : Int)).length = (s.objs (n : Int)).length := fun n hne => by
    rw [objs_len, objs_len]
    unfold SV.mark
    rw [getD_set2 _ _ _ _ hn, if_neg (by omega)]
  have h2' : ((s.mark f).objs ((f.1.toNat : Nat) : Int)).length = (s.objs ((f.1.toNat : Nat) : Int)).length + 1 := by
    rw [objs_len, objs_len]
    unfold SV.mark
    rw [getD_set2 _ _ _ _ hn, if_pos (by omega), Int.toNat_natCast]
    exact count_set _ _ h2.2 hb
  have key := sum_one (fun n : Nat => (s.objs (n : Int)).length) (fun n : Nat => ((s.mark f).objs (n : Int)).length) f.1.toNat h1' h2' P.nodesV
  rw [if_pos (by omega)] at key
  exact key
/-- One fact. -/
def SV.one (P : PP) (s : SV) : SV := match s.wait with
  | [] => s
  | f :: _ => ((s.mark f).came P f).clean
/-- The next fact is new. -/
def SV.ready (s : SV) : Prop := ∀ f r, s.wait = f :: r → s.bit f = false
theorem clean_ready (s : SV) : s.clean.ready := fun _ _ h => dropWhile_head h
theorem clean_has (s : SV) : s.clean.has = s.has := rfl
theorem tot_has {P : PP} {s t : SV} (h : t.has = s.has) : t.tot P = s.tot P := by unfold SV.tot; simp only [objs_has h]
theorem Full.one {P : PP} {S : List (List Int)} {s : SV} (hg : P.GoodS S) (hc : ClosedP P S) (h : Full P S s) (hr : s.ready) {f : Int × Int} {r : List (Int × Int)} (hw : s.wait = f :: r) :
    Full P S (s.one P) ∧ (s.one P).ready ∧ (s.one P).rules = s.rules ∧ (s.one P).tot P = s.tot P + 1 := by
  have hfw := h.core.wait f (by rw [hw]; exact List.mem_cons_self)
  have hlen := hg.2.1
  have hin : f.2 ∈ S.getD f.1.toNat [] := hfw.2
  have h2 : 0 ≤ f.2 ∧ f.2 < P.objectsV := by
    rw [List.getD_eq_getElem?_getD, List.getElem?_eq_getElem (show f.1.toNat < S.length by omega)] at hin
    have hk := hg.ok.ok _ (List.getElem_mem (show f.1.toNat < S.length by omega))
    exact ⟨((chkE_zero.1 hk.1).1 _ hin).1, hk.2 _ hin⟩
  obtain ⟨k1, k2, k3⟩ := h.came hg hc hfw h2
  have hrow : (s.has.getD f.1.toNat []).length = P.objectsV := by
    have hl1 : f.1.toNat < s.has.length := by rw [h.core.len]; omega
    rw [List.getD_eq_getElem?_getD, List.getElem?_eq_getElem hl1]
    exact h.core.row _ (List.getElem_mem hl1)
  have e : s.one P = ((s.mark f).came P f).clean := by unfold SV.one; rw [hw]
  rw [e]
  refine ⟨k1.cleaned, clean_ready _, k3, ?_⟩
  rw [tot_has (clean_has _), tot_has k2]
  exact tot_mark h.core.len hfw.1 ⟨h2.1, by rw [hrow]; omega⟩ (hr f r hw)
/-- So many facts, as far as there are any: where one stands, and how many came. -/
def SV.steps (P : PP) : Nat → SV → SV × Nat
  | 0, s => (s, 0)
  | k + 1, s => match s.wait with
    | [] => (s, 0)
    | _ :: _ => ((SV.steps P k (s.one P)).1, (SV.steps P k (s.one P)).2 + 1)
theorem steps_keep {P : PP} {S : List (List Int)} (hg : P.GoodS S) (hc : ClosedP P S) : ∀ (k : Nat) {s : SV}, Full P S s → s.ready →
    Full P S (s.steps P k).1 ∧ (s.steps P k).1.ready ∧ (s.steps P k).1.rules = s.rules ∧ (s.steps P k).1.tot P = s.tot P + (s.steps P k).2 ∧ (s.steps P k).2 ≤ k ∧ ((s.steps P k).2 < k → (s.steps P k).1.wait = [])
  | 0, s, h, hr => ⟨h, hr, rfl, rfl, Nat.le_refl _, fun g => absurd g (Nat.lt_irrefl _)⟩
  | k + 1, s, h, hr => by
    unfold SV.steps
    cases hw : s.wait with
    | nil => exact ⟨h, hr, rfl, rfl, Nat.zero_le _, fun _ => hw⟩
    | cons f r =>
      obtain ⟨k1, k2, k3, k4⟩ := h.one hg hc hr hw
      obtain ⟨j1, j2, j3, j4, j5, j6⟩ := steps_keep hg hc k k1 k2
      refine ⟨j1, j2, j3.trans k3, ?_, by simp only; omega, fun g => j6 (by simp only at g; omega)⟩
      simp only
      omega
/-- All have come just where nothing is to come. -/
theorem Full.all {P : PP} {S : List (List Int)} {s : SV} {m : Nat} (hL : LeastAt P m S) (hw : P.Well) (h : Full P S s) (hr : ∀ r ∈ P.rulesV, r ∈ s.rules) (hrd : s.ready) : s.wait = [] ↔ s.tot P = totS P S := by
  have hg := hL.good hw
  constructor
  · intro hwt
    unfold SV.tot totS
    congr 1
    refine List.map_congr_left fun n hn => ?_
    rw [h.done hL hw hr hwt (List.mem_range.1 hn)]
  · intro e
    cases hwt : s.wait with
    | nil => rfl
    | cons f r =>
      have hfw := h.core.wait f (by rw [hwt]; exact List.mem_cons_self)
      have hb := hrd f r hwt
      have heq := (tot_le hg h.core).2 e f.1.toNat (by omega)
      have hin := hfw.2
      rw [← heq] at hin
      obtain ⟨_, hb2⟩ := mem_objs.1 hin
      rw [Int.toNat_of_nonneg hfw.1.1] at hb2
      rw [hb] at hb2
      cases hb2
end Go.Proofs.YtdppgcbekhabnaaGreatDoor



/- The solver, plainly: how much there is to come, at most. -/
namespace Go.Proofs.YtdppgcbekhabnaaGreatDoor
set_option linter.unusedSimpArgs false
set_option linter.unusedVariables false
open Go Go.RowKit

theorem nodup_le {α : Type} [BEq α] [LawfulBEq α] : ∀ (l L : List α), l.Nodup → (∀ x ∈ l, x ∈ L) → l.length ≤ L.length
  | [], _, _, _ => Nat.zero_le _
  | x :: l, L, h, hs => by
    rw [List.nodup_cons] at h
    have hx := hs x List.mem_cons_self
    have k := nodup_le l (L.erase x) h.2 fun y hy => (List.mem_erase_of_ne (show y ≠ x from fun e => h.1 (by rw [← e]; exact hy))).2 (hs y (List.mem_cons_of_mem _ hy))
    rw [List.length_erase_of_mem hx] at k
    have := List.length_pos_of_mem hx
    rw [List.length_cons]; omega
def allPairs (N : Nat) : List (Int × Int) := (List.range N).flatMap fun a : Nat => (List.range N).map fun b : Nat => ((a : Int), (b : Int))
theorem allPairs_len (N : Nat) : (allPairs N).length = N * N := by
  unfold allPairs
  rw [List.length_flatMap]
  have : (List.range N).map (fun a : Nat => ((List.range N).map fun b : Nat => ((a : Int), (b : Int))).length) = List.replicate N N := by
    refine List.eq_replicate_iff.2 ⟨by simp, fun b hb => ?_⟩
    obtain ⟨a, _, rfl⟩ := List.mem_map.1 hb
    simp
  rw [this, List.sum_replicate_nat]
theorem mem_allPairs {N : Nat} {e : Int × Int} (h1 : 0 ≤ e.1 ∧ e.1 < N) (h2 : 0 ≤ e.2 ∧ e.2 < N) : e ∈ allPairs N :=
  List.mem_flatMap.2 ⟨e.1.toNat, List.mem_range.2 (by omega), List.mem_map.2 ⟨e.2.toNat, List.mem_range.2 (by omega), by
    rw [Int.toNat_of_nonneg h1.1, Int.toNat_of_nonneg h2.1]⟩⟩
/-- How much there is to come, at most. -/
structure SV.Bnd (P : PP) (s : SV) : Prop where
  nd : s.edges.Nodup
  ru : s.rules.length ≤ 80
  le : s.wait.length ≤ s.rules.length + s.edges.length * P.objectsV + s.tot P * 14400
theorem PP.Well.nodes {P : PP} (hw : P.Well) : P.nodesV ≤ 120 ∧ P.objectsV ≤ 126 := by
  obtain ⟨h1, h2, h3⟩ := hw.few
  have := P.nodesV_le2
  unfold PP.objectsV
  omega
section
variable {P : PP} {S : List (List Int)} {s : SV}
theorem Core.edges_few (hw : P.Well) (h : Core P S s) (hn : s.edges.Nodup) : s.edges.length ≤ 14400 := by
  have h1 := nodup_le s.edges (allPairs P.nodesV) hn fun e he => by
    obtain ⟨k1, k2, _⟩ := h.edge e he
    exact mem_allPairs k1 k2
  rw [allPairs_len] at h1
  have h2 : P.nodesV * P.nodesV ≤ 120 * 120 := Nat.mul_le_mul hw.nodes.1 hw.nodes.1
  omega
theorem objs_few (h : Core P S s) (n : Int) : (s.objs n).length ≤ P.objectsV := by
  unfold SV.objs
  rw [List.length_map]
  refine Nat.le_trans (List.length_filter_le _ _) ?_
  rw [List.length_range, List.getD_eq_getElem?_getD]
  rcases Nat.lt_or_ge n.toNat s.has.length with g | g
  · rw [List.getElem?_eq_getElem g]
    exact Nat.le_of_eq (h.row _ (List.getElem_mem g))
  · rw [List.getElem?_eq_none g]; exact Nat.zero_le _
theorem succ_few (s : SV) (n : Int) : (s.succ n).length ≤ s.edges.length := by
  unfold SV.succ
  rw [List.length_map]
  exact List.length_filter_le _ _
theorem tot_few (hw : P.Well) (h : Core P S s) : s.tot P ≤ 15120 := by
  have hs : ∀ N, ((List.range N).map fun n : Nat => (s.objs (n : Int)).length).sum ≤ N * P.objectsV := fun N => by
    induction N with
    | zero => simp
    | succ N ih =>
      rw [List.range_succ, List.map_append, List.sum_append, Nat.add_mul]
      have := objs_few h (N : Int)
      simp only [List.map_cons, List.map_nil, List.sum_cons, List.sum_nil]
      omega
  have h1 := hs P.nodesV
  have h2 : P.nodesV * P.objectsV ≤ 120 * 126 := Nat.mul_le_mul hw.nodes.1 hw.nodes.2
  unfold SV.tot
  omega
theorem SV.Bnd.wait_few (hw : P.Well) (h : Core P S s) (b : s.Bnd P) : s.wait.length ≤ 500000000 := by
  have h1 := b.le
  have h2 := b.ru
  have h3 : s.edges.length * P.objectsV ≤ 14400 * 126 := Nat.mul_le_mul (h.edges_few hw b.nd) hw.nodes.2
  have h4 := tot_few hw h
  omega
theorem Core.bare (h : Core P S s) : Core P S { s with rules := [] } := ⟨h.len, h.row, h.wait, h.bit, h.edge, h.along, fun _ hr => (by cases hr), fun _ hr => (by cases hr)⟩
theorem SV.Bnd.wait_few0 (hw : P.Well) (h : Core P S { s with rules := [] }) (b : s.Bnd P) : s.wait.length ≤ 500000000 := by
  have h1 := b.le
  have h2 := b.ru
  have h5 : s.edges.length ≤ 14400 := Core.edges_few (s := { s with rules := [] }) hw h b.nd
  have h3 : s.edges.length * P.objectsV ≤ 14400 * 126 := Nat.mul_le_mul h5 hw.nodes.2
  have h4 : s.tot P ≤ 15120 := tot_few (s := { s with rules := [] }) hw h
  omega
theorem SV.Bnd.edgeTo (h : Core P S s) (b : s.Bnd P) (e : Int × Int) : (s.edge e).Bnd P := by
  have ht : (s.edge e).tot P = s.tot P := tot_has (edge_has s e)
  refine ⟨?_, by rw [edge_rules]; exact b.ru, ?_⟩
  · unfold SV.edge
    split
    · exact b.nd
    · rename_i hc
      refine List.nodup_append.2 ⟨b.nd, by simp, fun a ha c hc' => ?_⟩
      rw [List.mem_singleton] at hc'
      rintro rfl
      exact hc (.inr (hc' ▸ ha))
  · rw [ht, edge_rules]
    have hle := b.le
    unfold SV.edge
    split
    · exact hle
    · simp only [List.length_append, List.length_map, List.length_singleton, Nat.add_mul, Nat.one_mul]
      have := objs_few h e.1
      omega
theorem bnd_edges : ∀ (l : List (Int × Int)) {s : SV}, Core P S s → (∀ e ∈ l, SndE P S e) → s.Bnd P → (l.foldl SV.edge s).Bnd P
  | [], _, _, _, b => b
  | e :: l, _, h, hs, b => bnd_edges l (h.edgeTo (hs e List.mem_cons_self)) (fun g hg => hs g (List.mem_cons_of_mem _ hg)) (b.edgeTo h e)
theorem bnd_fire (hg : P.GoodS S) (hc : ClosedP P S) (h : Core P S s) (b : s.Bnd P) {r : RV} (hr : r ∈ P.rulesV) (hf : r.fired = true) {o : Int} (ho : o ∈ S.getD r.pivot.toNat []) : (s.fire P r o).Bnd P :=
  bnd_edges _ h (fun _ he => sndE_of hg hc hr (fires_in hf ho he)) b
end
end Go.Proofs.YtdppgcbekhabnaaGreatDoor



/- A solver in memory. -/
namespace Go.Proofs.YtdppgcbekhabnaaGreatDoor
set_option linter.unusedSimpArgs false
set_option linter.unusedVariables false
open Go Go.RowKit

def fCells (f : Int × Int) : List Value := [.int .i64 f.1, .int .i64 f.2]
/-- The row of a node in the map of edges. -/
def rowOf (f1 : Int → Option Value) (n : Int) : Value := (f1 n).getD (.slice none 0 0)
/-- What stands in the map of edges that were seen. -/
def seenF (l : List (Int × Int)) (e : Int × Int) : Option Value := if e ∈ l then some (.bool true) else none
def solvCells (a1 a2 a3 : Option Addr) (c1 c2 c3 : Nat) (P : PP) (vr vh : Value) (m1 m2 : Nat) (vw : Value) : Array Value :=
  #[.slice a1 P.vars.length c1, .slice a2 P.funs.length c2, .slice a3 P.stmts.length c3, vr, vh, .map (some m1), .map (some m2), .slice none 0 0, vw]
structure SolvB (w : World) (G F : Nat → Prop) (g : Nat) (ad : Nat → Addr) (a1 a2 a3 : Option Addr) (c1 c2 c3 : Nat) (P : PP) (vr : Value) (rs : List R2) (vh : Value) (hs : List Value) (m1 m2 : Nat) (f1 : Int → Option Value) (vw : Value) (s : SV) : Prop where
  blk : Blk w g (solvCells a1 a2 a3 c1 c2 c3 P vr vh m1 m2 vw) 83
  fg : ¬ F g
  gf : ∀ b, G b → F b
  flt : ∀ b, F b → b < w.heap.size
  pw : PWF w G ad a1 a2 a3 c1 c2 c3 P
  req : rs.map R2.r = s.rules
  rrow : w.ownsRow 0 86 5 vr s.rules.length (rs.flatMap R2.cells)
  rargs : ∀ x ∈ rs, IntsF w G x.v x.r.args
  rf : ∀ b, vr.ownBlock = some b → ¬ F b
  hrow : w.ownsRow 0 84 1 vh s.has.length hs
  hf : ∀ b, vh.ownBlock = some b → ¬ F b
  hbag : BBags w 0 hs s.has
  hbf : ∀ v ∈ hs, ∀ b, v.ownBlock = some b → ¬ F b
  map1 : KMap Tryz.prog 3 (Value.int .i64) w m1 f1
  mf1 : ¬ F m1
  row1 : ∀ n, IRow 0 w (rowOf f1 n) (s.succ n)
  apart1 : ∀ n k b, n ≠ k → (rowOf f1 n).ownBlock = some b → ¬ (rowOf f1 k).ownBlock = some b
  rf1 : ∀ n b, (rowOf f1 n).ownBlock = some b → ¬ F b
  map2 : KMap Tryz.prog 127 twoV w m2 (seenF s.edges)
  mf2 : ¬ F m2
  m12 : m1 ≠ m2
  wrow : OwnsQ w 0 97 2 vw s.wait.length (s.wait.flatMap fCells)
  wf : ∀ b, vw.ownBlock = some b → ¬ F b
/-- A solver at a place; nobody else writes its blocks, it writes none of F. -/
def SolvAt (w : World) (G F : Nat → Prop) (g : Nat) (ad : Nat → Addr) (P : PP) (vr : Value) (rs : List R2) (vh : Value) (hs : List Value) (s : SV) : Prop :=
  ∃ a1 a2 a3 c1 c2 c3 m1 m2 f1 vw, SolvB w G F g ad a1 a2 a3 c1 c2 c3 P vr rs vh hs m1 m2 f1 vw s

theorem KMap.not_blk {κ : Type} [DecidableEq κ] {Q : Program} {kt : TypeId} {enc : κ → Value} {w : World} {b : Nat} {f : κ → Option Value} (h : KMap Q kt enc w b f) {c : Array Value} {e : TypeId} : ¬ Blk w b c e := fun hb => h.ne hb rfl
theorem own_off {w w' : World} {base : Nat} {e : TypeId} {size n : Nat} {v : Value} {xs : List Value} {X : Nat → Prop} (h : w.ownsRow base e size v n xs) (k : Keep X w w') (hX : ∀ b, X b → ¬ ∃ c, Blk w b c e) : w'.ownsRow base e size v n xs :=
  row_keep h k fun b hb hx => hX b hx (own_ty h hb)
theorem OwnsQ.off {w w' : World} {base : Nat} {e : TypeId} {size n : Nat} {v : Value} {xs : List Value} {X : Nat → Prop} (h : OwnsQ w base e size v n xs) (k : Keep X w w') (hX : ∀ b, X b → ¬ ∃ c, Blk w b c e) : OwnsQ w' base e size v n xs :=
  h.keep k fun b hb hx => hX b hx (h.ty hb).2
theorem off_of {w : World} {b : Nat} {c : Array Value} {e e' : TypeId} (h : Blk w b c e) (hne : e ≠ e') : ¬ ∃ c, Blk w b c e' := by
  rintro ⟨c', h'⟩
  have := h.symm.trans h'
  simp at this
  exact hne this.2
section
variable {w w' : World} {G F : Nat → Prop} {g : Nat} {ad : Nat → Addr} {a1 a2 a3 : Option Addr} {c1 c2 c3 : Nat} {P : PP} {vr : Value} {rs : List R2} {vh : Value} {hs : List Value} {m1 m2 : Nat} {f1 : Int → Option Value} {vw : Value} {s : SV}
/-- Other blocks are written. -/
theorem SolvB.keep {X : Nat → Prop} (h : SolvB w G F g ad a1 a2 a3 c1 c2 c3 P vr rs vh hs m1 m2 f1 vw s) (k : Keep X w w') (hF : ∀ b, F b → ¬ X b) (x0 : ¬ X g) (x1 : ∀ b, vr.ownBlock = some b → ¬ X b) (x2 : ∀ b, vh.ownBlock = some b → ¬ X b) (x3 : ∀ b, X b → ¬ IsB w b)
    (x4 : ¬ X m1) (x5 : ∀ n b, (rowOf f1 n).ownBlock = some b → ¬ X b) (x6 : ¬ X m2) (x7 : ∀ b, vw.ownBlock = some b → ¬ X b) : SolvB w' G F g ad a1 a2 a3 c1 c2 c3 P vr rs vh hs m1 m2 f1 vw s :=
  ⟨h.blk.keep k x0, h.fg, h.gf, fun b hb => Nat.lt_of_lt_of_le (h.flt b hb) k.size, h.pw.keep k fun b hb => hF b (h.gf b hb), h.req, row_keep h.rrow k x1, fun x hx => (h.rargs x hx).keep k (fun b hb => hF b (h.gf b hb)) fun _ h => h, h.rf, row_keep h.hrow k x2, h.hf, h.hbag.keep k x3, h.hbf, h.map1.keep k x4, h.mf1, fun n => row_keep (h.row1 n) k (x5 n), h.apart1, h.rf1, h.map2.keep k x6, h.mf2, h.m12, h.wrow.keep k x7, h.wf⟩
theorem SolvB.ext (h : SolvB w G F g ad a1 a2 a3 c1 c2 c3 P vr rs vh hs m1 m2 f1 vw s) (x : Ext w w') : SolvB w' G F g ad a1 a2 a3 c1 c2 c3 P vr rs vh hs m1 m2 f1 vw s :=
  h.keep (x.keep fun _ => False) (fun _ _ h => h) (fun h => h) (fun _ _ h => h) (fun _ _ h => h) (fun _ h => h.elim) (fun h => h) (fun _ _ _ h => h) (fun h => h) (fun _ _ h => h)
theorem SolvAt.ext (h : SolvAt w G F g ad P vr rs vh hs s) (x : Ext w w') : SolvAt w' G F g ad P vr rs vh hs s := by
  obtain ⟨a1, a2, a3, c1, c2, c3, m1, m2, f1, vw, h⟩ := h
  exact ⟨a1, a2, a3, c1, c2, c3, m1, m2, f1, vw, h.ext x⟩
/-- What is new, and is not the solver's, is not written by it. -/
theorem SolvB.frz (h : SolvB w G F g ad a1 a2 a3 c1 c2 c3 P vr rs vh hs m1 m2 f1 vw s) (x : Ext w w') : SolvB w' G (fun b => F b ∨ (w.heap.size ≤ b ∧ b < w'.heap.size)) g ad a1 a2 a3 c1 c2 c3 P vr rs vh hs m1 m2 f1 vw s := by
  have k := h.ext x
  have hlt : ∀ {b : Nat}, ¬ F b → b < w.heap.size → ¬ (F b ∨ (w.heap.size ≤ b ∧ b < w'.heap.size)) := fun h1 h2 h3 => h3.elim h1 fun h4 => by omega
  have ro : ∀ {e : TypeId} {size n : Nat} {v : Value} {xs : List Value}, w.ownsRow 0 e size v n xs → ∀ b, v.ownBlock = some b → b < w.heap.size := fun h b hb => (World.ownsRow.lt h b hb).2
  refine ⟨k.blk, hlt h.fg h.blk.lt, fun b hb => .inl (h.gf b hb), fun b hb => hb.elim (k.flt b) fun h => h.2, k.pw, k.req, k.rrow, k.rargs, fun b hb => hlt (h.rf b hb) (ro h.rrow b hb), k.hrow, fun b hb => hlt (h.hf b hb) (ro h.hrow b hb), k.hbag, fun v hv b hb => ?_, k.map1, hlt h.mf1 h.map1.lt, k.row1, k.apart1, fun n b hb => hlt (h.rf1 n b hb) (ro (h.row1 n) b hb), k.map2, hlt h.mf2 h.map2.lt, k.m12, k.wrow, fun b hb => hlt (h.wf b hb) ?_⟩
  · obtain ⟨i, hi⟩ := List.getElem?_of_mem hv
    have hil : i < s.has.length := by
      rw [← h.hbag.len]
      exact (List.getElem?_eq_some_iff.1 hi).1
    obtain ⟨v', l, q1, _, q3⟩ := h.hbag.at hil
    obtain rfl := Option.some.inj (q1.symm.trans hi)
    exact hlt (h.hbf _ hv b hb) (ro q3 b hb)
  · obtain ⟨_, c, hc⟩ := h.wrow.ty hb
    exact hc.lt
theorem SolvAt.frz (h : SolvAt w G F g ad P vr rs vh hs s) (x : Ext w w') : SolvAt w' G (fun b => F b ∨ (w.heap.size ≤ b ∧ b < w'.heap.size)) g ad P vr rs vh hs s := by
  obtain ⟨a1, a2, a3, c1, c2, c3, m1, m2, f1, vw, h⟩ := h
  exact ⟨a1, a2, a3, c1, c2, c3, m1, m2, f1, vw, h.frz x⟩
theorem SolvAt.less {F' : Nat → Prop} (h : SolvAt w G F' g ad P vr rs vh hs s) (hG : ∀ b, G b → F b) (hF : ∀ b, F b → F' b) : SolvAt w G F g ad P vr rs vh hs s := by
  obtain ⟨a1, a2, a3, c1, c2, c3, m1, m2, f1, vw, h⟩ := h
  exact ⟨a1, a2, a3, c1, c2, c3, m1, m2, f1, vw, h.blk, fun k => h.fg (hF _ k), hG, fun b hb => h.flt b (hF b hb), h.pw, h.req, h.rrow, h.rargs, fun b e k => h.rf b e (hF _ k), h.hrow, fun b e k => h.hf b e (hF _ k), h.hbag, fun v hv b e k => h.hbf v hv b e (hF _ k), h.map1, fun k => h.mf1 (hF _ k), h.row1, h.apart1, fun n b e k => h.rf1 n b e (hF _ k), h.map2, fun k => h.mf2 (hF _ k), h.m12, h.wrow, fun b e k => h.wf b e (hF _ k)⟩
/-- A field of its own block is put; other blocks of it stay. -/
theorem SolvB.lt (h : SolvB w G F g ad a1 a2 a3 c1 c2 c3 P vr rs vh hs m1 m2 f1 vw s) : g < w.heap.size := h.blk.lt
/-- What is to come is put anew. -/
theorem SolvB.setWait (h : SolvB w G F g ad a1 a2 a3 c1 c2 c3 P vr rs vh hs m1 m2 f1 vw s) (k : Keep (fun q => vw.ownBlock = some q) w w') {vw' : Value} {l : List (Int × Int)} (hw : OwnsQ w' 0 97 2 vw' l.length (l.flatMap fCells)) (ho : ∀ b, vw'.ownBlock = some b → vw.ownBlock = some b ∨ w.heap.size ≤ b) :
    SolvB (w'.setCell ⟨g, 8, none⟩ vw') G F g ad a1 a2 a3 c1 c2 c3 P vr rs vh hs m1 m2 f1 vw' { s with wait := l } := by
  have hX : ∀ {b : Nat}, vw.ownBlock = some b → ∃ c, Blk w b c 97 := fun hb => (h.wrow.ty hb).2
  have hne : ∀ {b : Nat} {e : TypeId}, vw.ownBlock = some b → 97 ≠ e → ¬ ∃ c, Blk w b c e := fun hb he => by
    obtain ⟨c, hc⟩ := hX hb
    exact off_of hc he
  have k1 := h.blk.keep k (fun hb => hne hb (by decide) ⟨_, h.blk⟩)
  have kk : Keep (fun q => q = g ∨ vw.ownBlock = some q) w (w'.setCell ⟨g, 8, none⟩ vw') := (k.mono fun _ _ h => .inr h).set (.inl rfl) _
  have hoff : ∀ {e : TypeId}, 97 ≠ e → 83 ≠ e → ∀ b, (b = g ∨ vw.ownBlock = some b) → ¬ ∃ c, Blk w b c e := fun he1 he2 b hb => hb.elim (fun e => by rw [e]; exact off_of h.blk he2) fun hb => hne hb he1
  have hF : ∀ b, G b → ¬ (b = g ∨ vw.ownBlock = some b) := fun b hb hx => hx.elim (fun e => h.fg (e ▸ h.gf b hb)) fun e => h.wf b e (h.gf b hb)
  refine ⟨?_, h.fg, h.gf, fun b hb => Nat.lt_of_lt_of_le (h.flt b hb) kk.size, h.pw.keep kk hF, h.req, own_off h.rrow kk (hoff (by decide) (by decide)), fun x hx => (h.rargs x hx).keep kk hF fun _ h => h, h.rf, own_off h.hrow kk (hoff (by decide) (by decide)), h.hf, h.hbag.keep kk (hoff (by decide) (by decide)), h.hbf,
    h.map1.keep kk fun hb => hb.elim (fun e => h.map1.ne h.blk e.symm) fun hb => (hX hb).elim fun c hc => h.map1.not_blk hc, h.mf1, fun n => own_off (h.row1 n) kk (hoff (by decide) (by decide)), h.apart1, h.rf1,
    h.map2.keep kk fun hb => hb.elim (fun e => h.map2.ne h.blk e.symm) fun hb => (hX hb).elim fun c hc => h.map2.not_blk hc, h.mf2, h.m12, ?_, fun b hb => ?_⟩
  · have := k1.set 8 vw'
    rw [show (solvCells a1 a2 a3 c1 c2 c3 P vr vh m1 m2 vw).setIfInBounds 8 vw' = solvCells a1 a2 a3 c1 c2 c3 P vr vh m1 m2 vw' from rfl] at this
    exact this
  · refine hw.off ((Keep.refl (fun q => q = g) w').set rfl _) fun b hb => ?_
    rw [hb]; exact off_of k1 (by decide)
  · rcases ho b hb with e | e
    · exact h.wf b e
    · exact fun hb' => by have := h.flt _ hb'; omega
/-- The first one of what is to come is let go. -/
theorem SolvB.cutWait {gq off cap n : Nat} {f : Int × Int} {l : List (Int × Int)} (h : SolvB w G F g ad a1 a2 a3 c1 c2 c3 P vr rs vh hs m1 m2 f1 (.slice (some ⟨gq, off, none⟩) n cap) s) (hw : s.wait = f :: l) :
    SolvB (w.setCell ⟨g, 8, none⟩ (.slice (some (if cap = 1 then ⟨gq, off, none⟩ else ⟨gq, off + 2, none⟩)) (n - 1) (cap - 1))) G F g ad a1 a2 a3 c1 c2 c3 P vr rs vh hs m1 m2 f1 (.slice (some (if cap = 1 then ⟨gq, off, none⟩ else ⟨gq, off + 2, none⟩)) (n - 1) (cap - 1)) { s with wait := l } := by
  have hr := h.wrow
  obtain ⟨a', c', e'⟩ := hr.form
  simp only [Value.slice.injEq] at e'
  obtain ⟨rfl, rfl, rfl⟩ := e'
  rw [hw] at hr
  have ht := hr.tail (by rw [List.length_cons]; omega)
  refine h.setWait (Keep.refl _ w) (l := l) ?_ fun b hb => .inl ?_
  · rw [hw]
    exact ht
  · rw [← hb]
    show some gq = some (if cap = 1 then (⟨gq, off, none⟩ : Addr) else ⟨gq, off + 2, none⟩).block
    split <;> rfl
/-- An edge is put where edges lie. -/
theorem SolvB.joined {w1 w2 w3 : World} (h : SolvB w G F g ad a1 a2 a3 c1 c2 c3 P vr rs vh hs m1 m2 f1 vw s) {e : Int × Int} (he : e ∉ s.edges)
    (h1 : KMap Tryz.prog 127 twoV w1 m2 (fun q => if q = e then some (.bool true) else seenF s.edges q)) (k1 : Keep (fun q => q = m2) w w1)
    {v' : Value} (h2 : IRow 0 w2 v' (s.succ e.1 ++ [e.2])) (k2 : Keep (fun q => (rowOf f1 e.1).ownBlock = some q) w1 w2) (ho : ∀ b, v'.ownBlock = some b → (rowOf f1 e.1).ownBlock = some b ∨ w.heap.size ≤ b)
    (h3 : KMap Tryz.prog 3 (Value.int .i64) w3 m1 (fun q => if q = e.1 then some v' else f1 q)) (k3 : Keep (fun q => q = m1) w2 w3) :
    SolvB w3 G F g ad a1 a2 a3 c1 c2 c3 P vr rs vh hs m1 m2 (fun q => if q = e.1 then some v' else f1 q) vw { s with edges := s.edges ++ [e] } := by
  have hrow : ∀ {b : Nat}, (rowOf f1 e.1).ownBlock = some b → ∃ c, Blk w b c 3 := fun hb => own_ty (h.row1 e.1) hb
  have kk : Keep (fun q => q = m1 ∨ q = m2 ∨ (rowOf f1 e.1).ownBlock = some q) w w3 := ((k1.mono fun _ _ h => .inr (.inl h)).trans (k2.mono fun _ _ h => .inr (.inr h))).trans (k3.mono fun _ _ h => .inl h)
  have hoff : ∀ {t : TypeId}, 3 ≠ t → ∀ b, (b = m1 ∨ b = m2 ∨ (rowOf f1 e.1).ownBlock = some b) → ¬ ∃ c, Blk w b c t := fun ht b hb => by
    rcases hb with rfl | rfl | hb
    · rintro ⟨c, hc⟩; exact h.map1.not_blk hc
    · rintro ⟨c, hc⟩; exact h.map2.not_blk hc
    · obtain ⟨c, hc⟩ := hrow hb
      exact off_of hc ht
  have hF : ∀ b, G b → ¬ (b = m1 ∨ b = m2 ∨ (rowOf f1 e.1).ownBlock = some b) := fun b hb hx => by
    replace hb := h.gf b hb
    rcases hx with rfl | rfl | hx
    · exact h.mf1 hb
    · exact h.mf2 hb
    · exact h.rf1 _ _ hx hb
  have hm12 := h.m12
  have hsu : ∀ n, ({ s with edges := s.edges ++ [e] } : SV).succ n = if n = e.1 then s.succ n ++ [e.2] else s.succ n := fun n => by
    unfold SV.succ
    rw [List.filter_append, List.map_append]
    by_cases hn : n = e.1
    · subst hn
      rw [if_pos rfl]; simp
    · rw [if_neg hn]
      have : ([e].filter fun q => decide (q.1 = n)) = [] := by rw [List.filter_cons, decide_eq_false (fun q : e.1 = n => hn q.symm)]; rfl
      rw [this]; simp
  have hro : ∀ n, rowOf (fun q => if q = e.1 then some v' else f1 q) n = if n = e.1 then v' else rowOf f1 n := fun n => by
    unfold rowOf
    by_cases hn : n = e.1
    · simp [hn]
    · simp [hn]
  have hlt : ∀ n b, (rowOf f1 n).ownBlock = some b → b < w.heap.size := fun n b hb => (World.ownsRow.lt (h.row1 n) b hb).2
  have hap : ∀ n b, n ≠ e.1 → v'.ownBlock = some b → ¬ (rowOf f1 n).ownBlock = some b := fun n b hn hb hb' => by
    rcases ho b hb with k | k
    · exact h.apart1 n e.1 b hn hb' k
    · have := hlt n b hb'
      omega
  have h32 : KMap Tryz.prog 127 twoV w3 m2 (fun q => if q = e then some (.bool true) else seenF s.edges q) := (h1.keep k2 fun hb => by
    obtain ⟨c, hc⟩ := hrow hb
    exact h.map2.not_blk hc).keep k3 fun e => hm12 e.symm
  refine ⟨h.blk.keep kk fun hx => hoff (by decide) g hx ⟨_, h.blk⟩, h.fg, h.gf, fun b hb => Nat.lt_of_lt_of_le (h.flt b hb) kk.size, h.pw.keep kk hF, h.req, own_off h.rrow kk (hoff (by decide)), fun x hx => (h.rargs x hx).keep kk hF fun _ h => h, h.rf, own_off h.hrow kk (hoff (by decide)), h.hf, h.hbag.keep kk (hoff (by decide)), h.hbf, h3, h.mf1, fun n => ?_, fun n k b hnk hb hb' => ?_, fun n b hb => ?_, h32.eq fun q => ?_, h.mf2, h.m12, h.wrow.off kk (hoff (by decide)), h.wf⟩
  · rw [hsu, hro]
    by_cases hn : n = e.1
    · rw [if_pos hn, if_pos hn, hn]
      exact row_keep h2 k3 fun b hb hm => by
        subst hm
        obtain ⟨c, hc⟩ := own_ty h2 hb
        rcases ho b hb with k | k
        · obtain ⟨c, hc⟩ := hrow k
          exact h.map1.not_blk hc
        · have := h.map1.lt
          omega
    · rw [if_neg hn, if_neg hn]
      refine row_keep (h.row1 n) kk fun b hb hx => ?_
      rcases hx with rfl | rfl | hx
      · obtain ⟨c, hc⟩ := own_ty (h.row1 n) hb
        exact h.map1.not_blk hc
      · obtain ⟨c, hc⟩ := own_ty (h.row1 n) hb
        exact h.map2.not_blk hc
      · exact h.apart1 n e.1 b hn hb hx
  · rw [hro] at hb hb'
    by_cases hn : n = e.1
    · rw [if_pos hn] at hb
      rw [if_neg (fun e => hnk (hn.trans e.symm))] at hb'
      exact hap k b (fun e => hnk (hn.trans e.symm)) hb hb'
    · rw [if_neg hn] at hb
      by_cases hk : k = e.1
      · rw [if_pos hk] at hb'
        exact hap n b hn hb' hb
      · rw [if_neg hk] at hb'
        exact h.apart1 n k b hnk hb hb'
  · rw [hro] at hb
    by_cases hn : n = e.1
    · rw [if_pos hn] at hb
      rcases ho b hb with k | k
      · exact h.rf1 _ b k
      · exact fun hb' => by have := h.flt _ hb'; omega
    · rw [if_neg hn] at hb
      exact h.rf1 n b hb
  · unfold seenF
    by_cases hq : q = e
    · rw [if_pos hq, if_pos (List.mem_append_right _ (List.mem_singleton.2 hq))]
    · rw [if_neg hq]
      by_cases hm : q ∈ s.edges
      · rw [if_pos hm, if_pos (List.mem_append_left _ hm)]
      · rw [if_neg hm, if_neg fun k => (List.mem_append.1 k).elim hm fun k => hq (List.mem_singleton.1 k)]
/-- A fact is marked. -/
theorem SolvB.setBit {i j gb n cap : Nat} {l : List Bool} (h : SolvB w G F g ad a1 a2 a3 c1 c2 c3 P vr rs vh hs m1 m2 f1 vw s) (hv : hs[i]? = some (.slice (some ⟨gb, 0, none⟩) n cap)) (hl : s.has[i]? = some l) (hj : j < l.length) :
    SolvB (w.setCell ⟨gb, j, none⟩ (.bool true)) G F g ad a1 a2 a3 c1 c2 c3 P vr rs vh hs m1 m2 f1 vw { s with has := s.has.set i (l.set j true) } := by
  have hr := h.hbag.row i _ l hv hl
  obtain ⟨c, hc⟩ := own_ty hr (k := gb) rfl
  have kk : Keep (fun q => q = gb) w (w.setCell ⟨gb, j, none⟩ (.bool true)) := (Keep.refl (fun q => q = gb) w).set rfl _
  have hF : ∀ b, G b → ¬ b = gb := fun b hb e => h.hbf _ (List.mem_of_getElem? hv) gb rfl (e ▸ h.gf b hb)
  have hoff : ∀ {e : TypeId}, 4 ≠ e → ∀ b, b = gb → ¬ ∃ c, Blk w b c e := fun he b e => by rw [e]; exact off_of hc he
  refine ⟨h.blk.keep kk fun e => hoff (by decide) g e ⟨_, h.blk⟩, h.fg, h.gf, fun b hb => Nat.lt_of_lt_of_le (h.flt b hb) kk.size, h.pw.keep kk hF, h.req, own_off h.rrow kk (hoff (by decide)), fun x hx => (h.rargs x hx).keep kk hF fun _ h => h, h.rf, ?_, h.hf, h.hbag.set hv hl hj true, h.hbf, h.map1.keep kk fun e => h.map1.not_blk (e ▸ hc), h.mf1, fun n => own_off (h.row1 n) kk (hoff (by decide)), h.apart1, h.rf1, h.map2.keep kk fun e => h.map2.not_blk (e ▸ hc), h.mf2, h.m12, h.wrow.off kk (hoff (by decide)), h.wf⟩
  show (w.setCell ⟨gb, j, none⟩ (.bool true)).ownsRow 0 84 1 vh (s.has.set i (l.set j true)).length hs
  rw [List.length_set]
  exact own_off h.hrow kk (hoff (by decide))
/-- A rule more. -/
theorem SolvB.pushRule (h : SolvB w G F g ad a1 a2 a3 c1 c2 c3 P vr rs vh hs m1 m2 f1 vw s) (k : Keep (fun q => vr.ownBlock = some q) w w') {vr' : Value} {x : R2} (hr : w'.ownsRow 0 86 5 vr' (s.rules.length + 1) (rs.flatMap R2.cells ++ x.cells)) (ho : ∀ b, vr'.ownBlock = some b → vr.ownBlock = some b ∨ w.heap.size ≤ b) (hx : IntsF w G x.v x.r.args) :
    SolvB (w'.setCell ⟨g, 3, none⟩ vr') G F g ad a1 a2 a3 c1 c2 c3 P vr' (rs ++ [x]) vh hs m1 m2 f1 vw { s with rules := s.rules ++ [x.r] } := by
  have hX : ∀ {b : Nat}, vr.ownBlock = some b → ∃ c, Blk w b c 86 := fun hb => own_ty h.rrow hb
  have hne : ∀ {b : Nat} {e : TypeId}, vr.ownBlock = some b → 86 ≠ e → ¬ ∃ c, Blk w b c e := fun hb he => by
    obtain ⟨c, hc⟩ := hX hb
    exact off_of hc he
  have k1 := h.blk.keep k (fun hb => hne hb (by decide) ⟨_, h.blk⟩)
  have kk : Keep (fun q => q = g ∨ vr.ownBlock = some q) w (w'.setCell ⟨g, 3, none⟩ vr') := (k.mono fun _ _ h => .inr h).set (.inl rfl) _
  have hoff : ∀ {e : TypeId}, 86 ≠ e → 83 ≠ e → ∀ b, (b = g ∨ vr.ownBlock = some b) → ¬ ∃ c, Blk w b c e := fun he1 he2 b hb => hb.elim (fun e => by rw [e]; exact off_of h.blk he2) fun hb => hne hb he1
  have hF : ∀ b, G b → ¬ (b = g ∨ vr.ownBlock = some b) := fun b hb hx => hx.elim (fun e => h.fg (e ▸ h.gf b hb)) fun e => h.rf b e (h.gf b hb)
  refine ⟨?_, h.fg, h.gf, fun b hb => Nat.lt_of_lt_of_le (h.flt b hb) kk.size, h.pw.keep kk hF, by rw [List.map_append, h.req]; rfl, ?_, fun y hy => ?_, fun b hb => ?_, own_off h.hrow kk (hoff (by decide) (by decide)), h.hf, h.hbag.keep kk (hoff (by decide) (by decide)), h.hbf,
    h.map1.keep kk fun hb => hb.elim (fun e => h.map1.ne h.blk e.symm) fun hb => (hX hb).elim fun c hc => h.map1.not_blk hc, h.mf1, fun n => own_off (h.row1 n) kk (hoff (by decide) (by decide)), h.apart1, h.rf1,
    h.map2.keep kk fun hb => hb.elim (fun e => h.map2.ne h.blk e.symm) fun hb => (hX hb).elim fun c hc => h.map2.not_blk hc, h.mf2, h.m12, h.wrow.off kk (hoff (by decide) (by decide)), h.wf⟩
  · have := k1.set 3 vr'
    rw [show (solvCells a1 a2 a3 c1 c2 c3 P vr vh m1 m2 vw).setIfInBounds 3 vr' = solvCells a1 a2 a3 c1 c2 c3 P vr' vh m1 m2 vw from rfl] at this
    exact this
  · rw [List.length_append, List.flatMap_append]
    have e : [x].flatMap R2.cells = x.cells := by simp
    rw [e]
    refine own_off hr ((Keep.refl (fun q => q = g) w').set rfl _) fun b hb => ?_
    rw [hb]; exact off_of k1 (by decide)
  · rcases List.mem_append.1 hy with hy | hy
    · exact (h.rargs y hy).keep kk hF fun _ h => h
    · rw [List.mem_singleton.1 hy]
      exact hx.keep kk hF fun _ h => h
  · rcases ho b hb with e | e
    · exact h.rf b e
    · exact fun hb' => by have := h.flt _ hb'; omega
end
end Go.Proofs.YtdppgcbekhabnaaGreatDoor



/- The solver: an edge that is new. -/
namespace Go.Proofs.YtdppgcbekhabnaaGreatDoor
set_option linter.unusedSimpArgs false
set_option linter.unusedVariables false
open Go Go.RowKit

theorem fact_info : (Tryz.prog.info? 97).map (fun i => (i.zero, i.size, i.bytes)) = some (some (.agg #[.int .i64 0, .int .i64 0]), 2, 16) := by kernel_rfl
theorem int_info1 : (Tryz.prog.info? 3).map (fun i => (i.zero, i.size, i.bytes)) = some (some (.int .i64 0), 1, 8) := by kernel_rfl
theorem zero_bool (w : World) : (zeroValue 4).run Tryz.prog w = .ok (.bool false) w := by kernel_rfl
theorem zero_ints (w : World) : (zeroValue 27).run Tryz.prog w = .ok (.slice none 0 0) w := by kernel_rfl
/-- The objects of a row below k. -/
def objsUp (l : List Bool) (k : Nat) : List Int := ((List.range k).filter fun o => l.getD o false).map fun o : Nat => (o : Int)
theorem objsUp_succ (l : List Bool) (k : Nat) : objsUp l (k + 1) = objsUp l k ++ if l.getD k false = true then [(k : Int)] else [] := by
  unfold objsUp
  rw [List.range_succ, List.filter_append, List.map_append]
  congr 1
  cases h : l.getD k false with
  | false => rw [List.filter_cons, h]; rfl
  | true => rw [List.filter_cons, h]; rfl
theorem objs_up (s : SV) {n : Nat} {l : List Bool} (h : s.has[n]? = some l) : s.objs (n : Int) = objsUp l l.length := by
  unfold SV.objs objsUp
  have e : s.has.getD (n : Int).toNat [] = l := by rw [Int.toNat_natCast, List.getD_eq_getElem?_getD, h]; rfl
  rw [e]
theorem objsUp_len (l : List Bool) (k : Nat) : (objsUp l k).length ≤ k := by
  unfold objsUp
  rw [List.length_map]
  refine Nat.le_trans (List.length_filter_le _ _) (by rw [List.length_range]; exact Nat.le_refl _)
theorem look_seen {w : World} {m2 : Nat} {l : List (Int × Int)} (h : KMap Tryz.prog 127 twoV w m2 (seenF l)) {e : Int × Int} (h1 : 0 ≤ e.1 ∧ e.1 < 1000000) (h2 : 0 ≤ e.2 ∧ e.2 < 1000000) :
    (Instr.lookup 79 (.map (some m2)) (.agg #[.int .i64 e.1, .int .i64 e.2]) false).run Tryz.prog w = .ok (.bool (decide (e ∈ l))) w := by
  obtain ⟨k, hk⟩ := key_edge h1 h2
  have := run_kmap_lookup edge_keyed twoV_inj Tryz.underlying79 h hk (zero_bool w) false
  unfold twoV at this
  rw [this]
  unfold seenF
  by_cases he : e ∈ l
  · rw [if_pos he, decide_eq_true he]; rfl
  · rw [if_neg he, decide_eq_false he]; rfl
theorem look_succ {w : World} {m1 : Nat} {f1 : Int → Option Value} (h : KMap Tryz.prog 3 (Value.int .i64) w m1 f1) {n : Int} (hn : 0 ≤ n ∧ n < 1000000) :
    (Instr.lookup 78 (.map (some m1)) (.int .i64 n) false).run Tryz.prog w = .ok (rowOf f1 n) w := by
  obtain ⟨k, hk⟩ := key_int hn
  have := run_kmap_lookup int_keyed64 intV_inj Tryz.underlying78 h hk (zero_ints w) false
  rw [this]; rfl
set_option maxRecDepth 100000 in
set_option maxHeartbeats 3200000 in
theorem solveedge_bare (P : PP) (S : List (List Int)) (s : SV) (e : Int × Int) (w : World) (G F : Nat → Prop) (g : Nat) (ad : Nat → Addr) {vr : Value} {rs : List R2} {vh : Value} {hs : List Value} (hS : SolvAt w G F g ad P vr rs vh hs s) (hC : Core P S { s with rules := [] }) (hB : s.Bnd P) (he1 : 0 ≤ e.1 ∧ e.1 < P.nodesV) (he2 : 0 ≤ e.2 ∧ e.2 < P.nodesV) :
    Calls Tryz.prog 71 #[.pointer (some ⟨g, 0, none⟩), .agg #[.int .i64 e.1, .int .i64 e.2]] w fun x w' => x = .returned (.tuple #[]) ∧ SolvAt w' G F g ad P vr rs vh hs (s.edge e) ∧ Keep (fun b => ¬ F b) w w' := by
  obtain ⟨a1, a2, a3, c1, c2, c3, m1, m2, f1, vw, h⟩ := hS
  obtain ⟨e1, e2⟩ := e
  simp only at he1 he2
  obtain ⟨i, rfl⟩ := Int.eq_ofNat_of_zero_le he1.1
  obtain ⟨j, rfl⟩ := Int.eq_ofNat_of_zero_le he2.1
  have hw := h.pw.well
  obtain ⟨hn1, hn2⟩ := hw.nodes
  have hin : i < P.nodesV := by omega
  have hjn : j < P.nodesV := by omega
  have hon : P.nodesV ≤ P.objectsV := by unfold PP.objectsV; omega
  have hwl := hB.wait_few0 hw hC
  have hel : s.edges.length ≤ 14400 := Core.edges_few (s := { s with rules := [] }) hw hC hB.nd
  have hlen : s.has.length = P.nodesV := hC.len
  obtain ⟨gh, ch, rfl⟩ := own_some h.hrow (by omega)
  obtain ⟨vb, lb, hvb, hlb, hrb⟩ := h.hbag.at (i := i) (by omega)
  have hll : lb.length = P.objectsV := hC.row lb (List.mem_of_getElem? hlb)
  unfold TrRow at hrb
  rw [hll] at hrb
  obtain ⟨gb, cb, rfl⟩ := own_some hrb (by omega)
  obtain ⟨W, hW⟩ : ∃ W, W = w.alloc (.cells #[.int .i64 (i : Int), .int .i64 (j : Int)] 127) := ⟨_, rfl⟩
  have HX : Hid (Ext w W) := hid (by rw [hW]; exact (Ext.refl _).alloc _)
  have HBx : Hid (Blk W w.heap.size #[.int .i64 (i : Int), .int .i64 (j : Int)] 127) := hid (by rw [hW]; exact Blk.new _ _ _)
  have HWe : Hid (W = w.alloc (.cells #[.int .i64 (i : Int), .int .i64 (j : Int)] 127)) := hid hW
  have HS := hid (h.ext HX.out)
  have HC := hid hC
  have HB := hid hB
  have Hhb := hid (own_ext hrb HX.out)
  have Hvb := hid hvb
  have Hlb := hid hlb
  have Hll := hid hll
  have Hlen := hid hlen
  have Hon := hid hon
  have Hwl := hid hwl
  have Hel := hid hel
  have Hob := hid (show (s.objs (i : Int)).length ≤ P.objectsV from objs_few (s := { s with rules := [] }) hC (i : Int))
  have Hsf := hid (succ_few s (i : Int))
  have d0 := HBx.out.kc (X := fun _ => False) (fun e => e) 0 rfl
  have d1 := HBx.out.kc (X := fun _ => False) (fun e => e) 1 rfl
  have b4 := HS.out.blk.kc (X := fun _ => False) (fun e => e) 4 rfl
  have b5 := HS.out.blk.kc (X := fun _ => False) (fun e => e) 5 rfl
  have b6 := HS.out.blk.kc (X := fun _ => False) (fun e => e) 6 rfl
  have b8 := HS.out.blk.kc (X := fun _ => False) (fun e => e) 8 rfl
  simp only [solvCells, List.getElem_toArray, List.getElem_cons_zero, List.getElem_cons_succ] at d0 d1 b4 b5 b6 b8
  have HLs := fun w1 (x : Ext W w1) => look_seen (HS.out.map2.ext x) (e := ((i : Int), (j : Int))) (by simp only; omega) (by simp only; omega)
  simp only at HLs
  clear h hC hB hW hrb hvb hlb hll hlen hwl hel hon
  generalize P.nodesV = NN at *
  generalize P.objectsV = OO at *
  by_cases hij : (i : Int) = j
  · have Hr : Hid (s.edge ((i : Int), (j : Int)) = s) := hid (by unfold SV.edge; rw [if_pos (.inl hij)])
    rw [Hr.out]
    obtain rfl : i = j := by omega
    clear hij Hr HLs
    go_enter Tryz.func71, Tryz.ntmps71
    go_wp2
    rw [← HWe.out]
    refine wp_flowT (fun _ => False) (by kernel_rfl) (by kernel_rfl) ?_
    repeat (apply FlowT.d; (intro w1 hk; unfold does; go_simp; (try go_ints); (first | exact DetR.mk | (simp only [↓IntWalk.iteOmega, Oper.doesUpon_value]; exact DetR.mk) | (simp only [↓IntWalk.iteOmega]; go_simp; (try go_ints); exact DetR.mk))); simp only [Act.put, List.setIfInBounds_toArray, List.set_cons_zero, List.set_cons_succ])
    refine FlowT.fin fun w2 hx2 hk2 => ?_
    have Hx2 := hid hx2
    clear hx2 hk2 d0 d1 b4 b5 b6 b8
    go_wp2
    refine bodyPost_ret (v := .tuple #[]) (results_none (by kernel_rfl) _ _ _) rfl ?_
    exact ⟨rfl, ⟨_, _, _, _, _, _, _, _, _, _, HS.out.ext Hx2.out⟩, (HX.out.trans Hx2.out).keep _⟩
  have e0 : ((i : Int) == (j : Int)) = false := by simpa using hij
  have He0 := hid hij
  by_cases hm : ((i : Int), (j : Int)) ∈ s.edges
  · have Hr : Hid (s.edge ((i : Int), (j : Int)) = s) := hid (by unfold SV.edge; rw [if_pos (.inr hm)])
    rw [Hr.out]
    have HL : Hid (∀ w1, Ext W w1 → (Instr.lookup 79 (.map (some m2)) (.agg #[.int .i64 (i : Int), .int .i64 (j : Int)]) false).run Tryz.prog w1 = .ok (.bool true) w1) := hid fun w1 x => by rw [HLs w1 x, decide_eq_true hm]
    clear hij Hr hm HLs
    go_enter Tryz.func71, Tryz.ntmps71
    go_wp2
    rw [← HWe.out]
    refine wp_flowT (fun _ => False) (by kernel_rfl) (by kernel_rfl) ?_
    repeat (apply FlowT.d; (intro w1 hk; unfold does; go_simp; (try go_ints); (first | exact DetR.mk | (simp only [↓IntWalk.iteOmega, Oper.doesUpon_value]; exact DetR.mk) | (simp only [↓IntWalk.iteOmega]; go_simp; (try go_ints); exact DetR.mk))); simp only [Act.put, List.setIfInBounds_toArray, List.set_cons_zero, List.set_cons_succ])
    apply FlowT.d
    · intro w1 hk
      unfold does
      go_simp
      rw [HL.out w1 hk.ext]
      go_simp
      exact DetR.mk
    simp only [Act.put, List.setIfInBounds_toArray, List.set_cons_zero, List.set_cons_succ]
    repeat (apply FlowT.d; (intro w1 hk; unfold does; go_simp; (try go_ints); (first | exact DetR.mk | (simp only [↓IntWalk.iteOmega, Oper.doesUpon_value]; exact DetR.mk) | (simp only [↓IntWalk.iteOmega]; go_simp; (try go_ints); exact DetR.mk))); simp only [Act.put, List.setIfInBounds_toArray, List.set_cons_zero, List.set_cons_succ])
    refine FlowT.fin fun w2 hx2 hk2 => ?_
    have Hx2 := hid hx2
    clear hx2 hk2 d0 d1 b4 b5 b6 b8
    go_wp2
    refine bodyPost_ret (v := .tuple #[]) (results_none (by kernel_rfl) _ _ _) rfl ?_
    exact ⟨rfl, ⟨_, _, _, _, _, _, _, _, _, _, HS.out.ext Hx2.out⟩, (HX.out.trans Hx2.out).keep _⟩
  have HL : Hid (∀ w1, Ext W w1 → (Instr.lookup 79 (.map (some m2)) (.agg #[.int .i64 (i : Int), .int .i64 (j : Int)]) false).run Tryz.prog w1 = .ok (.bool false) w1) := hid fun w1 x => by rw [HLs w1 x, decide_eq_false hm]
  have Hm := hid hm
  clear hij hm HLs
  go_enter Tryz.func71, Tryz.ntmps71
  go_wp2
  rw [← HWe.out]
  refine wp_flowT (fun _ => False) (by kernel_rfl) (by kernel_rfl) ?_
  repeat (apply FlowT.d; (intro w1 hk; unfold does; go_simp; (try go_ints); (first | exact DetR.mk | (simp only [↓IntWalk.iteOmega, Oper.doesUpon_value]; exact DetR.mk) | (simp only [↓IntWalk.iteOmega]; go_simp; (try go_ints); exact DetR.mk))); simp only [Act.put, List.setIfInBounds_toArray, List.set_cons_zero, List.set_cons_succ])
  apply FlowT.d
  · intro w1 hk
    unfold does
    go_simp
    rw [HL.out w1 hk.ext]
    go_simp
    exact DetR.mk
  simp only [Act.put, List.setIfInBounds_toArray, List.set_cons_zero, List.set_cons_succ]
  repeat (apply FlowT.d; (intro w1 hk; unfold does; go_simp; (try go_ints); (first | exact DetR.mk | (simp only [↓IntWalk.iteOmega, Oper.doesUpon_value]; exact DetR.mk) | (simp only [↓IntWalk.iteOmega]; go_simp; (try go_ints); exact DetR.mk))); simp only [Act.put, List.setIfInBounds_toArray, List.set_cons_zero, List.set_cons_succ])
  refine FlowT.fin fun w2 hx2 hk2 => ?_
  have HS2 := hid (HS.out.ext hx2)
  have Hx2 := hid hx2
  have Hhb2 := hid (own_ext Hhb.out hx2)
  have HBx2 := hid (HBx.out.ext hx2)
  clear hx2 hk2 d0 d1 b4 b5 b6 b8 e0 HL
  have d0 := HBx2.out.kc (X := fun _ => False) (fun e => e) 0 rfl
  have d1 := HBx2.out.kc (X := fun _ => False) (fun e => e) 1 rfl
  have b6 := HS2.out.blk.kc (X := fun _ => False) (fun e => e) 6 rfl
  simp only [solvCells, List.getElem_toArray, List.getElem_cons_zero, List.getElem_cons_succ] at d0 d1 b6
  obtain ⟨lk, hlk⟩ := key_edge (e := ((i : Int), (j : Int))) (by simp only; omega) (by simp only; omega)
  have Hlk := hid hlk
  clear hlk
  go_wp2
  refine wp_flowT (fun _ => False) (by kernel_rfl) (by kernel_rfl) ?_
  repeat (apply FlowT.d; (intro w1 hk; unfold does; go_simp; (try go_ints); (first | exact DetR.mk | (simp only [↓IntWalk.iteOmega, Oper.doesUpon_value]; exact DetR.mk) | (simp only [↓IntWalk.iteOmega]; go_simp; (try go_ints); exact DetR.mk))); simp only [Act.put, List.setIfInBounds_toArray, List.set_cons_zero, List.set_cons_succ])
  refine FlowT.last (fun _ w' => KMap Tryz.prog 127 twoV w' m2 (fun q => if q = ((i : Int), (j : Int)) then some (.bool true) else seenF s.edges q) ∧ Keep (fun q => q = m2) w2 w') 5 rfl (by kernel_rfl) (by kernel_rfl) (fun w3 hC hk => ?_) (fun _ w3 hR => ?_)
  · exact does_kmap_put rfl _ _ _ 79 4 rfl edge_keyed twoV_inj Tryz.underlying79 (HS2.out.map2.ext hk.ext) rfl ((i : Int), (j : Int)) rfl Hlk.out (.bool true) rfl fun w' k1 k2 => ⟨k1, (hk.ext.keep _).trans k2⟩
  simp only [Act.put]
  have HR := hid hR
  clear hR d0 d1 b6 Hlk
  have HR3 := hid (own_off (HS2.out.row1 (i : Int)) HR.out.2 fun b e => by rintro ⟨c, hc⟩; exact HS2.out.map2.not_blk (e ▸ hc))
  have HM3 := hid (HS2.out.map1.keep HR.out.2 HS2.out.m12)
  have HB3 := hid (HS2.out.blk.keep HR.out.2 (HS2.out.map2.ne HS2.out.blk))
  have HBx3 := hid (HBx2.out.keep HR.out.2 (HS2.out.map2.ne HBx2.out))
  obtain ⟨ar, cr, hro⟩ := row_form HR3.out
  have hX : ∀ (b : Nat) (e : TypeId), (rowOf f1 (i : Int)).ownBlock = some b → 3 ≠ e → ∀ c, ¬ Blk w3 b c e := fun _ _ hb he c hc => by
    obtain ⟨c', hc'⟩ := own_ty HR3.out hb
    exact off_of hc' he ⟨_, hc⟩
  have hXm : ¬ (rowOf f1 (i : Int)).ownBlock = some m1 := fun hb => by
    obtain ⟨c', hc'⟩ := own_ty HR3.out hb
    exact HM3.out.not_blk hc'
  have b5 := HB3.out.kc (X := fun q => (rowOf f1 (i : Int)).ownBlock = some q) (fun hb => hX _ _ hb (by decide) _ HB3.out) 5 rfl
  have d0 := HBx3.out.kc (X := fun q => (rowOf f1 (i : Int)).ownBlock = some q) (fun hb => hX _ _ hb (by decide) _ HBx3.out) 0 rfl
  have d1 := HBx3.out.kc (X := fun q => (rowOf f1 (i : Int)).ownBlock = some q) (fun hb => hX _ _ hb (by decide) _ HBx3.out) 1 rfl
  simp only [solvCells, List.getElem_toArray, List.getElem_cons_zero, List.getElem_cons_succ] at b5 d0 d1
  have HLu : Hid (∀ w1, Keep (fun q => (rowOf f1 (i : Int)).ownBlock = some q) w3 w1 → (Instr.lookup 78 (.map (some m1)) (.int .i64 (i : Int)) false).run Tryz.prog w1 = .ok (.slice ar (s.succ (i : Int)).length cr) w1) := hid fun w1 k => by
    rw [look_succ (HM3.out.keep k hXm) (by omega), hro]
  obtain ⟨lk, hlk⟩ := key_int (a := (i : Int)) (by omega)
  have Hlk := hid hlk
  have Hro := hid hro
  have HX3 := hid hX
  have HXm := hid hXm
  clear hlk hro hX hXm
  go_wp2
  refine wp_flowT (fun q => (rowOf f1 (i : Int)).ownBlock = some q) (by kernel_rfl) (by kernel_rfl) ?_
  repeat (apply FlowT.d; (intro w1 hk; unfold does; go_simp; (try go_ints); (first | exact DetR.mk | (simp only [↓IntWalk.iteOmega, Oper.doesUpon_value]; exact DetR.mk) | (simp only [↓IntWalk.iteOmega]; go_simp; (try go_ints); exact DetR.mk))); simp only [Act.put, List.setIfInBounds_toArray, List.set_cons_zero, List.set_cons_succ])
  apply FlowT.d
  · intro w1 hk
    unfold does
    go_simp
    rw [HLu.out w1 hk]
    go_simp
    exact DetR.mk
  simp only [Act.put, List.setIfInBounds_toArray, List.set_cons_zero, List.set_cons_succ]
  repeat (apply FlowT.d; (intro w1 hk; unfold does; go_simp; (try go_ints); (first | exact DetR.mk | (simp only [↓IntWalk.iteOmega, Oper.doesUpon_value]; exact DetR.mk) | (simp only [↓IntWalk.iteOmega]; go_simp; (try go_ints); exact DetR.mk))); simp only [Act.put, List.setIfInBounds_toArray, List.set_cons_zero, List.set_cons_succ])
  refine FlowT.s (fun v' w' => ∃ q, v' = .slice (some ⟨q, 0, none⟩) 1 1 ∧ Blk w' q #[.int .i64 (j : Int)] 3 ∧ Ext w3 w') 15 rfl (by kernel_rfl) (fun _ _ _ ⟨q, h1, h2, h3⟩ he => ⟨q, h1, h2.ext he, h3.trans he⟩) (fun w4 hC hk => ?_) ?_
  · unfold does
    go_simp
    exact ⟨hk.alloc _, _, rfl, Blk.new _ _ _, hC.alloc _⟩
  rintro _ ⟨_, q3, rfl, _, _⟩
  simp only [Act.put, List.setIfInBounds_toArray, List.set_cons_zero, List.set_cons_succ]
  refine FlowT.s (fun v' w' => (∃ a c, v' = .slice a ((s.succ (i : Int)).length + 1) c) ∧ w'.ownsRow 0 3 1 v' ((s.succ (i : Int)).length + 1) (icells (s.succ (i : Int)) ++ [.int .i64 (j : Int)]) ∧ ∀ b, v'.ownBlock = some b → (rowOf f1 (i : Int)).ownBlock = some b ∨ w3.heap.size ≤ b) 16 rfl (by kernel_rfl) (fun _ _ _ ⟨h1, h2, h3⟩ he => ⟨h1, own_ext h2 he, h3⟩) (fun w4 hC hk => ?_) ?_
  · obtain ⟨q', e, hg, hE⟩ := hC
    obtain rfl : q3 = q' := by simpa using e
    have hI : w4.ownsRow 0 3 1 (.slice ar (s.succ (i : Int)).length cr) (s.succ (i : Int)).length (icells (s.succ (i : Int))) := by rw [← Hro.out]; exact own_ext HR3.out hE
    refine does_append_el 0 (Nat.zero_le _) 27 3 (.int .i64 0) 1 8 Tryz.underlying27 int_info1 rfl (by omega) (by omega) rfl _ _ rfl _ _ _ rfl hI q3 [.int .i64 (j : Int)] rfl (by simp [Value.oneCell']) rfl hg (by have := Hsf.out; have := Hel.out; omega) fun v' w' h1 h2 h3 => ?_
    rw [← Hro.out] at h2 h3
    refine ⟨hk.trans h2, row_form h1, h1, fun b hb => ?_⟩
    rcases h3 with k | k
    · exact .inl (k ▸ hb)
    · rw [k] at hb
      obtain rfl := Option.some.inj hb
      exact .inr hE.size
  rintro _ ⟨_, ⟨a6, c6, rfl⟩, _, _⟩
  simp only [Act.put, List.setIfInBounds_toArray, List.set_cons_zero, List.set_cons_succ]
  refine FlowT.last (fun _ w' => SolvB w' G F g ad a1 a2 a3 c1 c2 c3 P vr rs (.slice (some ⟨gh, 0, none⟩) s.has.length ch) hs m1 m2 (fun q => if q = (i : Int) then some (.slice a6 ((s.succ (i : Int)).length + 1) c6) else f1 q) vw { s with edges := s.edges ++ [((i : Int), (j : Int))] } ∧ Blk w' w.heap.size #[.int .i64 (i : Int), .int .i64 (j : Int)] 127 ∧ Keep (fun b => ¬ F b) w w') 17 rfl (by kernel_rfl) (by kernel_rfl) (fun w5 hC hk => ?_) (fun _ w6 hR => ?_)
  · obtain ⟨_, hrw, hob⟩ := hC
    refine does_kmap_put rfl _ _ _ 78 27 rfl int_keyed64 intV_inj Tryz.underlying78 (HM3.out.keep hk HXm.out) rfl (i : Int) rfl Hlk.out (.slice a6 ((s.succ (i : Int)).length + 1) c6) rfl fun w' k1 k2 => ?_
    refine ⟨HS2.out.joined (e := ((i : Int), (j : Int))) Hm.out HR.out.1 HR.out.2 (v' := .slice a6 ((s.succ (i : Int)).length + 1) c6) ?_ hk (fun b hb => (hob b hb).imp id fun h => Nat.le_trans HR.out.2.size h) k1 k2, ?_, ?_⟩
    · unfold IRow
      rw [List.length_append, icells_append]
      exact hrw
    · refine (HBx3.out.keep hk fun hb => HX3.out _ _ hb (by decide) _ HBx3.out).keep k2 ?_
      rintro e
      exact HM3.out.ne HBx3.out e
    · exact ((HX.out.trans Hx2.out).keep _).trans ((HR.out.2.mono fun b _ e => by rw [e]; exact HS2.out.mf2).trans ((hk.mono fun b _ e => HS2.out.rf1 _ b e).trans (k2.mono fun b _ e => by rw [e]; exact HS2.out.mf1)))
  simp only [Act.put]
  obtain ⟨hS6, hBx6, hK6⟩ := hR
  have HS6 := hid hS6
  have HBx6 := hid hBx6
  have HK6 := hid hK6
  clear hS6 hBx6 hK6 d0 d1 b5 HLu HR3 HM3 HB3 HBx3 HX3 HXm HR Hlk HS2 HBx2 Hro
  have hil : i < s.has.length := by rw [Hlen.out]; exact hin
  have b4 := HS6.out.blk.kc (X := fun _ => False) (fun e => e) 4 rfl
  have d0 := HBx6.out.kc (X := fun _ => False) (fun e => e) 0 rfl
  simp only [solvCells, List.getElem_toArray, List.getElem_cons_zero, List.getElem_cons_succ] at b4 d0
  have h4 : ∀ w1, Keep (fun _ => False) w6 w1 → w1.cell? ⟨gh, i, none⟩ = some (.slice (some ⟨gb, 0, none⟩) OO cb) := fun w1 x => own_get (own_ext HS6.out.hrow x.ext) i Hvb.out
  go_wp2
  refine wp_flowT (fun _ => False) (by kernel_rfl) (by kernel_rfl) ?_
  repeat (apply FlowT.d; (intro w1 hk; unfold does; go_simp; (try go_ints); (first | exact DetR.mk | (simp only [↓IntWalk.iteOmega, Oper.doesUpon_value]; exact DetR.mk) | (simp only [↓IntWalk.iteOmega]; go_simp; (try go_ints); exact DetR.mk))); simp only [Act.put, List.setIfInBounds_toArray, List.set_cons_zero, List.set_cons_succ])
  refine FlowT.fin fun w7 hx7 hk7 => ?_
  have HS7 := hid (HS6.out.ext hx7)
  have HBx7 := hid (HBx6.out.ext hx7)
  have HK7 := hid (HK6.out.ext_r hx7)
  clear hx7 hk7 b4 d0 h4 HS6 HBx6 HK6
  have hoo : OO ≤ 126 := hn2
  go_wp2
  go_loopw [50] (fun t50 wr => ∃ (k : Nat) (vw' : Value) (L : List (Int × Int)), t50 = .int .i64 (k : Int) ∧ k ≤ OO ∧ L = s.wait ++ (objsUp lb k).map (fun o => ((j : Int), o)) ∧ SolvB wr G F g ad a1 a2 a3 c1 c2 c3 P vr rs (.slice (some ⟨gh, 0, none⟩) s.has.length ch) hs m1 m2 (fun q => if q = (i : Int) then some (.slice a6 ((s.succ (i : Int)).length + 1) c6) else f1 q) vw' { s with edges := s.edges ++ [((i : Int), (j : Int))], wait := L } ∧ Blk wr w.heap.size #[.int .i64 (i : Int), .int .i64 (j : Int)] 127 ∧ Keep (fun b => ¬ F b) w wr) (fun t50 _ => OO - (intOf t50).toNat)
  case atStart => exact ⟨0, vw, s.wait, rfl, Nat.zero_le _, by simp [objsUp], HS7.out, HBx7.out, HK7.out⟩
  case round =>
    obtain ⟨k, vw', L, rfl, hk, hL, hS8, hBx8, hK8⟩ := hrel
    have HS8 := hid hS8
    have HBx8 := hid hBx8
    have HK8 := hid hK8
    have HLe := hid hL
    have hLl : L.length ≤ 600000000 := by
      rw [hL, List.length_append, List.length_map]
      have := objsUp_len lb k
      have := Hwl.out
      omega
    obtain ⟨aw, cw, rfl⟩ := HS8.out.wrow.form
    simp only at HS8
    clear hS8 hBx8 hK8 hL
    by_cases hlt : k < OO
    · have r0 : wr.cell? ⟨gb, k, none⟩ = some (.bool (lb.getD k false)) := by
        have := HS8.out.hbag.row i _ lb Hvb.out Hlb.out
        unfold TrRow at this
        rw [Hll.out] at this
        exact own_get this k (trCells_at (by rw [Hll.out]; exact hlt))
      have Hsu := hid (objsUp_succ lb k)
      generalize lb.getD k false = bt at r0 Hsu
      cases bt with
      | false =>
        go_wp2
        go_roundw
        case rel =>
          refine ⟨k + 1, _, L, by go_num, by omega, ?_, HS8.out, HBx8.out, HK8.out⟩
          rw [Hsu.out, HLe.out]; simp
        case measure => simp [intOf]; omega
      | true =>
        have hXq : ∀ (b : Nat) (e : TypeId), (Value.slice aw L.length cw).ownBlock = some b → 97 ≠ e → ∀ c, ¬ Blk wr b c e := fun _ _ hb he c hc => by
          obtain ⟨_, c', hc'⟩ := HS8.out.wrow.ty hb
          exact off_of hc' he ⟨_, hc⟩
        have b8 := HS8.out.blk.kc (X := fun q => (Value.slice aw L.length cw).ownBlock = some q) (fun hb => hXq _ _ hb (by decide) _ HS8.out.blk) 8 rfl
        have d1 := HBx8.out.kc (X := fun q => (Value.slice aw L.length cw).ownBlock = some q) (fun hb => hXq _ _ hb (by decide) _ HBx8.out) 1 rfl
        simp only [solvCells, List.getElem_toArray, List.getElem_cons_zero, List.getElem_cons_succ] at b8 d1
        have HXq := hid hXq
        clear hXq
        go_wp2
        refine wp_flowT (fun q => (Value.slice aw L.length cw).ownBlock = some q) (by kernel_rfl) (by kernel_rfl) ?_
        repeat (apply FlowT.d; (intro w1 hk; unfold does; go_simp; (try go_ints); (first | exact DetR.mk | (simp only [↓IntWalk.iteOmega, Oper.doesUpon_value]; exact DetR.mk) | (simp only [↓IntWalk.iteOmega]; go_simp; (try go_ints); exact DetR.mk))); simp only [Act.put, List.setIfInBounds_toArray, List.set_cons_zero, List.set_cons_succ])
        refine FlowT.s (fun v' w' => ∃ q, v' = .slice (some ⟨q, 0, none⟩) 1 1 ∧ Blk w' q #[.int .i64 (j : Int), .int .i64 (k : Int)] 97 ∧ Ext wr w') 9 rfl (by kernel_rfl) (fun _ _ _ ⟨q, h1, h2, h3⟩ he => ⟨q, h1, h2.ext he, h3.trans he⟩) (fun w4 hC hk => ?_) ?_
        · unfold does
          go_simp
          exact ⟨hk.alloc _, _, rfl, Blk.new _ _ _, hC.alloc _⟩
        rintro _ ⟨_, q3, rfl, _, _⟩
        simp only [Act.put, List.setIfInBounds_toArray, List.set_cons_zero, List.set_cons_succ]
        refine FlowT.s (fun v' w' => (∃ a c, v' = .slice a (L.length + 1) c) ∧ OwnsQ w' 0 97 2 v' (L.length + 1) (L.flatMap fCells ++ fCells ((j : Int), (k : Int))) ∧ ∀ b, v'.ownBlock = some b → (Value.slice aw L.length cw).ownBlock = some b ∨ wr.heap.size ≤ b) 10 rfl (by kernel_rfl) (fun _ _ _ ⟨h1, h2, h3⟩ he => ⟨h1, h2.ext he, h3⟩) (fun w4 hC hk => ?_) ?_
        · obtain ⟨q', e, hg, hE⟩ := hC
          obtain rfl : q3 = q' := by simpa using e
          exact does_append_q 0 (Nat.zero_le _) 81 97 (.agg #[.int .i64 0, .int .i64 0]) 2 16 Tryz.underlying81 fact_info rfl (by omega) (by omega) rfl _ _ rfl _ _ _ rfl (HS8.out.wrow.ext hE) q3 (fCells ((j : Int), (k : Int))) rfl (by simp [fCells, Value.oneCell']) rfl hg (by simp only; omega) fun v' w' h1 h2 h3 => ⟨hk.trans h2, h1.form, h1, fun b hb => (h3 b hb).imp id fun h => Nat.le_trans hE.size h⟩
        rintro _ ⟨_, ⟨a9, c9, rfl⟩, _, _⟩
        simp only [Act.put, List.setIfInBounds_toArray, List.set_cons_zero, List.set_cons_succ]
        repeat (apply FlowT.d; (intro w1 hk; unfold does; go_simp; (try go_ints); (first | exact DetR.mk | (simp only [↓IntWalk.iteOmega, Oper.doesUpon_value]; exact DetR.mk) | (simp only [↓IntWalk.iteOmega]; go_simp; (try go_ints); exact DetR.mk))); simp only [Act.put, List.setIfInBounds_toArray, List.set_cons_zero, List.set_cons_succ])
        refine FlowT.last (fun _ w' => SolvB w' G F g ad a1 a2 a3 c1 c2 c3 P vr rs (.slice (some ⟨gh, 0, none⟩) s.has.length ch) hs m1 m2 (fun q => if q = (i : Int) then some (.slice a6 ((s.succ (i : Int)).length + 1) c6) else f1 q) (.slice a9 (L.length + 1) c9) { s with edges := s.edges ++ [((i : Int), (j : Int))], wait := L ++ [((j : Int), (k : Int))] } ∧ Blk w' w.heap.size #[.int .i64 (i : Int), .int .i64 (j : Int)] 127 ∧ Keep (fun b => ¬ F b) w w') 13 rfl (by kernel_rfl) (by kernel_rfl) (fun w5 hC hk => ?_) (fun _ w6 hR => ?_)
        · obtain ⟨_, hq, hob⟩ := hC
          have q8 := b8 w5 hk
          have f8 := (HS8.out.blk.keep hk fun hb => HXq.out _ _ hb (by decide) _ HS8.out.blk).free 8
          unfold does
          go_simp
          refine ⟨?_, ?_, ?_⟩
          · refine HS8.out.setWait hk (l := L ++ [((j : Int), (k : Int))]) ?_ hob
            rw [List.length_append, List.flatMap_append]
            simpa using hq
          · exact (HBx8.out.keep hk fun hb => HXq.out _ _ hb (by decide) _ HBx8.out).set_ne (fun e => HS8.out.blk.ty_ne HBx8.out (by decide) e) _
          · exact HK8.out.trans ((hk.mono fun b _ e => HS8.out.wf b e).set HS8.out.fg _)
        simp only [Act.put]
        obtain ⟨hS9, hBx9, hK9⟩ := hR
        have HS9 := hid hS9
        have HBx9 := hid hBx9
        have HK9 := hid hK9
        clear hS9 hBx9 hK9 b8 d1 HXq r0
        go_wp2
        go_roundw
        case rel =>
          refine ⟨k + 1, _, _, by go_num, by omega, ?_, HS9.out, HBx9.out, HK9.out⟩
          rw [Hsu.out, HLe.out]; simp
        case measure => simp [intOf]; omega
    · obtain rfl : k = OO := by omega
      go_wp2
      go_end0
      have Hr : s.edge ((i : Int), (j : Int)) = { s with edges := s.edges ++ [((i : Int), (j : Int))], wait := L } := by
        unfold SV.edge
        rw [if_neg (fun h => h.elim He0.out Hm.out), HLe.out, objs_up s Hlb.out, Hll.out]
      rw [Hr]
      exact ⟨rfl, ⟨_, _, _, _, _, _, _, _, _, _, HS8.out⟩, HK8.out⟩
theorem solveedge_any (P : PP) (S : List (List Int)) (s : SV) (e : Int × Int) (w : World) (G F : Nat → Prop) (g : Nat) (ad : Nat → Addr) {vr : Value} {rs : List R2} {vh : Value} {hs : List Value} (hS : SolvAt w G F g ad P vr rs vh hs s) (hC : Core P S s) (hB : s.Bnd P) (he1 : 0 ≤ e.1 ∧ e.1 < P.nodesV) (he2 : 0 ≤ e.2 ∧ e.2 < P.nodesV) :
    Calls Tryz.prog 71 #[.pointer (some ⟨g, 0, none⟩), .agg #[.int .i64 e.1, .int .i64 e.2]] w fun x w' => x = .returned (.tuple #[]) ∧ SolvAt w' G F g ad P vr rs vh hs (s.edge e) ∧ Keep (fun b => ¬ F b) w w' :=
  solveedge_bare P S s e w G F g ad hS hC.bare hB he1 he2
end Go.Proofs.YtdppgcbekhabnaaGreatDoor

