/- Texts of one proof, put together: SP ZZZC SM Flow FlowT Base FM F1 F2 In F3 F4 F5 Own F6 FP Ow2 Par F7 F8 F9 FA FB ZZZE ZZZF. -/
import Derived.Lib.SlicesCompact
import Derived.Lib.Atoi
import Derived.Lib.AtoiAll
import Derived.Lib.ItoaMem
import Derived.Lib.Join
import Derived.Lib.Bytealg
import Derived.Shelf.Strings.Builder1
import Derived.Shelf.Strings.Builder2
import Derived.Shelf.Strings.OnBuilder
import Derived.Shelf.Strings.Trim
import Derived.Shelf.Small.Utf8
import Derived.Shelf.Small.Bits
import Derived.Shelf.Small.Strs
import Derived.Shelf.Small.Wraps
import Derived.Shelf.Strconv.Atoi
import Derived.Shelf.Strconv.Itoa0
import Derived.Shelf.Strconv.Itoa1
import Derived.Shelf.LaysM
import Derived.Shelf.Strconv.Itoa2
import Derived.Shelf.Strconv.Itoa3
import Derived.Shelf.Strconv.AtoiErrFast
import Derived.Shelf.Strconv.ParseIntEmpty
import Derived.Shelf.Strconv.AtoiFail
import Derived.Shelf.Strconv.Clone
import Derived.Shelf.Strconv.SyntaxError
import Derived.Shelf.LaysC
import Derived.Shelf.Strconv.ToError
import Derived.Shelf.Strconv.AtoiErr
import Derived.Shelf.Strconv.Lower
import Derived.Shelf.Strconv.ParseUint10
import Derived.Shelf.Strconv.ParseUint10Empty
import Derived.Shelf.Strconv.ParseUint10Any
import Derived.Shelf.Strconv.ParseInt10
import Derived.Shelf.Strconv.AtoiLong
import Derived.Shelf.Strconv.AtoiInnerAll
import Derived.Shelf.Strconv.RangeError
import Derived.Shelf.Strconv.ToErrorRange
import Derived.Shelf.Strconv.AtoiAll
import Derived.Shelf.Strings.Search1
import Derived.Shelf.Strings.Search2
import Derived.Shelf.Strings.Search3
import Derived.Shelf.Strings.Cut
import Derived.Shelf.Strings.Count
import Derived.Shelf.Strings.Shaped
import Derived.Shelf.Sort.Plain
import Derived.Shelf.Strings.Prefix
import Derived.Shelf.Strings.Split
import Derived.Shelf.Strings.Runes
import Derived.Shelf.Strings.AsciiSet
import Derived.Shelf.Unicode.DecodeSlow
import Derived.Shelf.Unicode.DecodeAny
import Derived.Shelf.Unicode.DecodeLast
import Derived.Shelf.Slices.Clone
import Derived.Shelf.Slices.CompactI
import Derived.Shelf.Slices.SearchI
import Derived.Shelf.Slices.Cells
import Derived.Shelf.SlicesE.Clone
import Derived.Test.YtbagppdibncfdaaGreatDoorProg
import Derived.Orders
import Derived.Below
import Derived.Tactics
import Derived.Tactics2
import Derived.KernelRfl
import Derived.WalkKit
import Derived.WalkSpells
import Derived.WalkLawsBesides
import Derived.Outline
import Derived.Laws.BitsAllLaws
import Derived.Laws.IdiomStrings
import Derived.Laws.Concat
import Derived.OpenShut
import Derived.Lib.IndexBytes
import Derived.RangeFuncBox
import Derived.RangeFuncLeaves
import Derived.RangeFuncBound
import Derived.OwnWalkIn
import Derived.TacticsInMore
import Derived.LoopNIn
import Derived.LoopIn
set_option linter.unusedSimpArgs false
set_option linter.unusedVariables false
namespace Go.Proofs.YtbagppdibncfdaaGreatDoor
theorem qA0 {α : Type _} {xs : List α} {i : Nat} (h : i < xs.toArray.size) : xs.toArray[i] = xs[i]'(by simpa using h) := List.getElem_toArray h
theorem qA1 {α : Type _} (a : α) (l : List α) (h : 0 < (a :: l).length) : (a :: l)[0] = a := List.getElem_cons_zero a l h
theorem qA2 {α : Type _} (a : α) (l : List α) (i : Nat) (h : i + 1 < (a :: l).length) : (a :: l)[i + 1] = l[i]'(by simpa using h) := List.getElem_cons_succ a l i h
theorem qS0 {α : Type _} (xs : List α) (i : Nat) (a : α) : xs.toArray.setIfInBounds i a = (xs.set i a).toArray := List.setIfInBounds_toArray xs i a
theorem qS1 {α : Type _} (l : List α) (a b : α) : (a :: l).set 0 b = b :: l := List.set_cons_zero ..
theorem qS2 {α : Type _} (l : List α) (i : Nat) (a b : α) : (a :: l).set (i + 1) b = a :: l.set i b := List.set_cons_succ ..
end Go.Proofs.YtbagppdibncfdaaGreatDoor
namespace Go.Proofs.YtbagppdibncfdaaGreatDoor
def InR (l : List Int) : Prop := ∀ x ∈ l, 0 ≤ x ∧ x < 1000
abbrev Srt (l : List Int) : Prop := l.Pairwise (· < ·)
def sset (l : List Int) : List Int := (((List.range 1000).filter fun n : Nat => decide ((n : Int) ∈ l)) : List Nat).map fun n : Nat => (n : Int)
def chkE (l : List Int) : Nat := if l.all (fun x => decide (0 ≤ x ∧ x < 1000)) then (if decide (Srt l) then 0 else 10) else 2
theorem Srt.tail {x : Int} {l : List Int} (h : Srt (x :: l)) : Srt l := (List.pairwise_cons.1 h).2
theorem Srt.head {x : Int} {l : List Int} (h : Srt (x :: l)) : ∀ y ∈ l, x < y := (List.pairwise_cons.1 h).1
theorem srt_uniq : ∀ {a b : List Int}, Srt a → Srt b → (∀ x, x ∈ a ↔ x ∈ b) → a = b
  | [], [], _, _, _ => rfl
  | [], y :: b, _, _, h => absurd ((h y).2 (List.mem_cons_self ..)) (List.not_mem_nil)
  | x :: a, [], _, _, h => absurd ((h x).1 (List.mem_cons_self ..)) (List.not_mem_nil)
  | x :: a, y :: b, ha, hb, h => by
    have hxy : x = y := by
      have h1 : x ∈ y :: b := (h x).1 (List.mem_cons_self ..)
      have h2 : y ∈ x :: a := (h y).2 (List.mem_cons_self ..)
      rcases List.mem_cons.1 h1 with e | e
      · exact e
      · rcases List.mem_cons.1 h2 with f | f
        · exact f.symm
        · have := hb.head x e; have := ha.head y f; omega
    subst hxy
    congr 1
    refine srt_uniq ha.tail hb.tail fun z => ⟨fun hz => ?_, fun hz => ?_⟩
    · rcases List.mem_cons.1 ((h z).1 (List.mem_cons_of_mem _ hz)) with e | e
      · have := ha.head z hz; omega
      · exact e
    · rcases List.mem_cons.1 ((h z).2 (List.mem_cons_of_mem _ hz)) with e | e
      · have := hb.head z hz; omega
      · exact e
theorem sset_srt (l : List Int) : Srt (sset l) := by
  unfold sset Srt
  rw [List.pairwise_map]
  refine List.Pairwise.imp (R := (· < ·)) (fun h => by omega) ?_
  exact List.Pairwise.sublist List.filter_sublist (List.pairwise_lt_range (n := 1000))
theorem mem_sset0 {l : List Int} {x : Int} : x ∈ sset l ↔ x ∈ l ∧ 0 ≤ x ∧ x < 1000 := by
  unfold sset
  rw [List.mem_map]
  constructor
  · rintro ⟨n, hn, rfl⟩
    obtain ⟨h1, h2⟩ := List.mem_filter.1 hn
    have := List.mem_range.1 h1
    exact ⟨of_decide_eq_true h2, by omega, by omega⟩
  · rintro ⟨h, h0, h1⟩
    refine ⟨x.toNat, List.mem_filter.2 ⟨List.mem_range.2 (by omega), ?_⟩, by omega⟩
    rw [Int.toNat_of_nonneg h0]
    exact decide_eq_true h
theorem mem_sset {l : List Int} (hl : InR l) {x : Int} : x ∈ sset l ↔ x ∈ l := ⟨fun h => (mem_sset0.1 h).1, fun h => mem_sset0.2 ⟨h, hl x h⟩⟩
theorem sset_in (l : List Int) : InR (sset l) := fun _ h => (mem_sset0.1 h).2
theorem InR.app {a b : List Int} (ha : InR a) (hb : InR b) : InR (a ++ b) := fun x h => (List.mem_append.1 h).elim (ha x) (hb x)
theorem InR.filter {a : List Int} (ha : InR a) (p : Int → Bool) : InR (a.filter p) := fun x h => ha x (List.mem_filter.1 h).1
theorem Srt.filter {a : List Int} (ha : Srt a) (p : Int → Bool) : Srt (a.filter p) := List.Pairwise.sublist List.filter_sublist ha
theorem sset_self {l : List Int} (h : Srt l) (hl : InR l) : sset l = l := srt_uniq (sset_srt l) h fun _ => mem_sset hl
theorem chkE_zero {l : List Int} : chkE l = 0 ↔ InR l ∧ Srt l := by
  unfold chkE
  by_cases h1 : l.all (fun x => decide (0 ≤ x ∧ x < 1000)) = true
  · rw [if_pos h1]
    have hin : InR l := fun x hx => of_decide_eq_true (List.all_eq_true.1 h1 x hx)
    by_cases h2 : Srt l
    · rw [decide_eq_true h2, if_pos rfl]; exact ⟨fun _ => ⟨hin, h2⟩, fun _ => rfl⟩
    · rw [decide_eq_false h2, if_neg (by decide)]; exact ⟨fun h => absurd h (by decide), fun h => absurd h.2 h2⟩
  · rw [if_neg h1]
    exact ⟨fun h => absurd h (by decide), fun h => absurd (List.all_eq_true.2 fun x hx => decide_eq_true (h.1 x hx)) h1⟩
theorem chkE_sset (l : List Int) : chkE (sset l) = 0 := chkE_zero.2 ⟨sset_in l, sset_srt l⟩
theorem srt_adj : ∀ {l : List Int}, (∀ k, k + 1 < l.length → l.getD k 0 < l.getD (k + 1) 0) → Srt l
  | [], _ => List.Pairwise.nil
  | [x], _ => List.pairwise_singleton _ _
  | x :: y :: l, h => by
    have ht : Srt (y :: l) := srt_adj fun k hk => by
      have := h (k + 1) (by simpa using hk)
      simpa using this
    have hxy : x < y := by simpa using h 0 (by simp)
    refine List.pairwise_cons.2 ⟨fun z hz => ?_, ht⟩
    rcases List.mem_cons.1 hz with rfl | hz
    · exact hxy
    · have := ht.head z hz; omega
theorem adj_srt {l : List Int} (h : Srt l) (k : Nat) (hk : k + 1 < l.length) : l.getD k 0 < l.getD (k + 1) 0 := by
  rw [List.getD_eq_getElem?_getD, List.getD_eq_getElem?_getD, List.getElem?_eq_getElem (by omega), List.getElem?_eq_getElem hk]
  exact List.pairwise_iff_getElem.1 h k (k + 1) (by omega) hk (by omega)
theorem chkE_two {l : List Int} {x : Int} (hx : x ∈ l) (h : ¬ (0 ≤ x ∧ x < 1000)) : chkE l = 2 := by
  unfold chkE
  rw [if_neg]
  intro ha
  exact h (of_decide_eq_true (List.all_eq_true.1 ha x hx))
theorem chkE_in {l : List Int} (h : InR l) : chkE l = if decide (Srt l) then 0 else 10 := by
  unfold chkE
  rw [if_pos (List.all_eq_true.2 fun x hx => decide_eq_true (h x hx))]
theorem chkE_ten {l : List Int} (h : InR l) {k : Nat} (hk : k + 1 < l.length) (hb : l.getD (k + 1) 0 ≤ l.getD k 0) : chkE l = 10 := by
  rw [chkE_in h, decide_eq_false (fun hs => by have := adj_srt hs k hk; omega)]; rfl
theorem chkE_ok {l : List Int} (h : InR l) (hk : ∀ k, k + 1 < l.length → l.getD k 0 < l.getD (k + 1) 0) : chkE l = 0 := chkE_zero.2 ⟨h, srt_adj hk⟩
theorem chkE_le (l : List Int) : chkE l ≤ 10 := by
  unfold chkE
  split
  · split <;> omega
  · omega
theorem compact_upto (zs : List Int) (hz : zs.Pairwise (· ≤ ·)) : ∀ m, m ≤ zs.length → (∀ x, x ∈ Go.Lib.compactUpTo zs.toArray m ↔ x ∈ zs.take m) ∧ Srt (Go.Lib.compactUpTo zs.toArray m)
  | 0, _ => ⟨fun x => by simp [Go.Lib.compactUpTo], by simp [Go.Lib.compactUpTo]⟩
  | m + 1, hm => by
    obtain ⟨h1, h2⟩ := compact_upto zs hz m (by omega)
    have hg : zs.toArray[m]! = zs[m]'(by omega) := by simp [getElem!_pos, show m < zs.length by omega]
    have ht : zs.take (m + 1) = zs.take m ++ [zs[m]'(by omega)] := by rw [List.take_add_one, List.getElem?_eq_getElem (by omega)]; rfl
    rw [Go.Lib.compactUpTo_succ]
    by_cases hk : Go.Lib.keeps zs.toArray m = true
    · rw [if_pos hk, hg, ht]
      refine ⟨fun x => by rw [List.mem_append, List.mem_append, h1], ?_⟩
      refine List.pairwise_append.2 ⟨h2, List.pairwise_singleton _ _, fun a ha b hb => ?_⟩
      obtain rfl := List.mem_singleton.1 hb
      have ha' := (h1 a).1 ha
      obtain ⟨i, hi, rfl⟩ := List.getElem_of_mem ha'
      rw [List.length_take] at hi
      rw [List.getElem_take]
      unfold Go.Lib.keeps at hk
      have hk' := of_decide_eq_true hk
      rcases hk' with e | e
      · omega
      · have hg2 : zs.toArray[m - 1]! = zs[m - 1]'(by omega) := by simp [getElem!_pos, show m - 1 < zs.length by omega]
        rw [hg, hg2] at e
        have p1 : zs[m - 1]'(by omega) ≤ zs[m]'(by omega) := List.pairwise_iff_getElem.1 hz (m - 1) m (by omega) (by omega) (by omega)
        have p2 : zs[i]'(by omega) ≤ zs[m - 1]'(by omega) := by
          rcases Nat.lt_or_ge i (m - 1) with h | h
          · exact List.pairwise_iff_getElem.1 hz i (m - 1) (by omega) (by omega) h
          · have : i = m - 1 := by omega
            subst this; exact Int.le_refl _
        omega
    · rw [if_neg hk, List.append_nil]
      refine ⟨fun x => ?_, h2⟩
      rw [h1, ht, List.mem_append]
      refine ⟨.inl, fun h => h.elim id fun hx => ?_⟩
      obtain rfl := List.mem_singleton.1 hx
      unfold Go.Lib.keeps at hk
      have hk' : ¬ (m = 0 ∨ zs.toArray[m]! ≠ zs.toArray[m - 1]!) := fun h => hk (decide_eq_true h)
      have hg2 : zs.toArray[m - 1]! = zs[m - 1]'(by omega) := by simp [getElem!_pos, show m - 1 < zs.length by omega]
      have e : zs[m]'(by omega) = zs[m - 1]'(by omega) := by
        rcases Classical.em (zs[m]'(by omega) = zs[m - 1]'(by omega)) with e | e
        · exact e
        · exact absurd (.inr (by rw [hg, hg2]; exact e)) hk'
      have hm0 : m ≠ 0 := fun h => hk' (.inl h)
      rw [e]
      have : zs[m - 1]'(by omega) = (zs.take m)[m - 1]'(by rw [List.length_take]; omega) := by rw [List.getElem_take]
      rw [this]
      exact List.getElem_mem _
theorem sort_le (l : List Int) : (l.mergeSort fun x y => decide (x ≤ y)).Pairwise (· ≤ ·) := by
  have := List.pairwise_mergeSort (le := fun x y : Int => decide (x ≤ y)) (fun a b c h1 h2 => by simp at h1 h2 ⊢; omega) (fun a b => by simp; omega) l
  exact this.imp fun h => by simpa using h
theorem compact_sort {l : List Int} (hl : InR l) : Go.Lib.compact (l.mergeSort fun x y => decide (x ≤ y)) = sset l := by
  obtain ⟨h1, h2⟩ := compact_upto _ (sort_le l) _ (Nat.le_refl _)
  refine srt_uniq (by unfold Go.Lib.compact; exact h2) (sset_srt l) fun x => ?_
  have := h1 x
  unfold Go.Lib.compact
  rw [this, List.take_of_length_le (Nat.le_refl _), List.mem_mergeSort, mem_sset hl]
end Go.Proofs.YtbagppdibncfdaaGreatDoor
namespace Go.Proofs.YtbagppdibncfdaaGreatDoor
open Go.Lib
def cutc (c : UInt8) : List UInt8 → List (List UInt8)
  | [] => [[]]
  | b :: r => if b = c then [] :: cutc c r else
    match cutc c r with
    | [] => [[b]]
    | p :: ps => (b :: p) :: ps
theorem cutc_ne (c : UInt8) : ∀ l, cutc c l ≠ []
  | [] => by simp [cutc]
  | b :: r => by
    unfold cutc
    by_cases h : b = c
    · rw [if_pos h]; simp
    · rw [if_neg h]; split <;> simp
theorem cutc_free {c : UInt8} : ∀ {x : List UInt8}, c ∉ x → cutc c x = [x]
  | [], _ => rfl
  | b :: r, h => by
    have h1 : b ≠ c := fun e => h (by rw [e]; exact List.mem_cons_self ..)
    have h2 : c ∉ r := fun e => h (List.mem_cons_of_mem _ e)
    unfold cutc
    rw [if_neg h1, cutc_free h2]
theorem cutc_app {c : UInt8} {t : List UInt8} : ∀ {x : List UInt8}, c ∉ x → cutc c (x ++ c :: t) = x :: cutc c t
  | [], _ => by
    show cutc c (c :: t) = _
    conv => lhs; unfold cutc
    rw [if_pos rfl]
  | b :: r, h => by
    have h1 : b ≠ c := fun e => h (by rw [e]; exact List.mem_cons_self ..)
    have h2 : c ∉ r := fun e => h (List.mem_cons_of_mem _ e)
    show cutc c (b :: (r ++ c :: t)) = _
    conv => lhs; unfold cutc
    rw [if_neg h1, cutc_app h2]
theorem index_none {c : UInt8} : ∀ {l : List UInt8}, indexByte l c = -1 → c ∉ l
  | [], _ => by simp
  | b :: r, h => by
    unfold indexByte at h
    by_cases hb : (b == c) = true
    · rw [if_pos hb] at h; exact absurd h (by decide)
    · rw [if_neg hb] at h
      have h2 : indexByte r c = -1 := by
        by_cases h3 : (indexByte r c == -1) = true
        · exact eq_of_beq h3
        · rw [if_neg h3] at h
          have := indexByte_ge r c
          omega
      intro hm
      rcases List.mem_cons.1 hm with e | e
      · exact hb (by rw [e]; exact beq_self_eq_true _)
      · exact index_none h2 e
theorem index_some {c : UInt8} : ∀ {l : List UInt8} {i : Nat}, indexByte l c = (i : Int) → i < l.length ∧ l = l.take i ++ c :: l.drop (i + 1) ∧ c ∉ l.take i
  | [], i, h => by unfold indexByte at h; omega
  | b :: r, i, h => by
    unfold indexByte at h
    by_cases hb : (b == c) = true
    · rw [if_pos hb] at h
      obtain rfl : i = 0 := by omega
      have := eq_of_beq hb
      subst this
      exact ⟨by simp, by simp, by simp⟩
    · rw [if_neg hb] at h
      by_cases h3 : (indexByte r c == -1) = true
      · rw [if_pos h3] at h; omega
      · rw [if_neg h3] at h
        have h4 := indexByte_ge r c
        have h5 : indexByte r c ≠ -1 := fun e => h3 (by rw [e]; rfl)
        obtain ⟨j, rfl⟩ : ∃ j, i = j + 1 := ⟨i - 1, by omega⟩
        obtain ⟨g1, g2, g3⟩ := index_some (c := c) (l := r) (i := j) (by omega)
        refine ⟨by simpa using g1, ?_, ?_⟩
        · simp only [List.take_succ_cons, List.drop_succ_cons, List.cons_append]
          exact congrArg (b :: ·) g2
        · rw [List.take_succ_cons]
          intro hm
          rcases List.mem_cons.1 hm with e | e
          · exact hb (by rw [e]; exact beq_self_eq_true _)
          · exact g3 e
theorem cutc_none {c : UInt8} {l : List UInt8} (h : indexByte l c = -1) : cutc c l = [l] := cutc_free (index_none h)
theorem cutc_at {c : UInt8} {l : List UInt8} {i : Nat} (h : indexByte l c = (i : Int)) : cutc c l = l.take i :: cutc c (l.drop (i + 1)) := by
  obtain ⟨_, h2, h3⟩ := index_some h
  conv => lhs; rw [h2]
  exact cutc_app h3
theorem join_two (x y sep : List UInt8) (r : List (List UInt8)) : join (x :: y :: r) sep = x ++ (sep ++ join (y :: r) sep) := by
  rw [join_cons, join_cons]
  simp [joinTail, List.append_assoc]
theorem cutc_len (c : UInt8) : ∀ l : List UInt8, (cutc c l).length ≤ l.length + 1 ∧ ∀ p ∈ cutc c l, p.length ≤ l.length
  | [] => by simp [cutc]
  | b :: r => by
    obtain ⟨h1, h2⟩ := cutc_len c r
    unfold cutc
    by_cases h : b = c
    · rw [if_pos h]
      refine ⟨by simpa using h1, fun p hp => ?_⟩
      rcases List.mem_cons.1 hp with rfl | e
      · simp
      · have := h2 p e; simp; omega
    · rw [if_neg h]
      cases hc : cutc c r with
      | nil => exact absurd hc (cutc_ne c r)
      | cons p ps =>
        rw [hc] at h1 h2
        refine ⟨by simp at h1 ⊢; omega, fun q hq => ?_⟩
        rcases List.mem_cons.1 hq with rfl | e
        · have := h2 p (List.mem_cons_self ..); simp; omega
        · have := h2 q (List.mem_cons_of_mem _ e); simp; omega
theorem dec_digit (n : Nat) : ∀ b ∈ decDigits n, 48 ≤ b.toNat ∧ b.toNat ≤ 57 := by
  induction n using Nat.strongRecOn with
  | _ n ih =>
    intro b hb
    have hone : ∀ k : Nat, k < 10 → ∀ b ∈ [UInt8.ofNat (48 + k)], 48 ≤ b.toNat ∧ b.toNat ≤ 57 := by
      intro k hk b hb
      obtain rfl := List.mem_singleton.1 hb
      rw [UInt8.toNat_ofNat']
      omega
    by_cases h : n < 10
    · rw [decDigits, dif_pos h] at hb
      exact hone n h b hb
    · rw [decDigits, dif_neg h] at hb
      rcases List.mem_append.1 hb with e | e
      · exact ih (n / 10) (by omega) b e
      · exact hone (n % 10) (by omega) b e
theorem dec_ne (n : Nat) : decDigits n ≠ [] := by
  rw [decDigits]
  split <;> simp
theorem parse_snoc (d : UInt8) (hd : 48 ≤ d.toNat ∧ d.toNat ≤ 57) (u : Nat) (hu : u < 1844674407370955161) : ∀ (l : List UInt8) (acc : Nat), parseUint10 acc l = .ok u → parseUint10 acc (l ++ [d]) = .ok (u * 10 + (d.toNat - 48))
  | [], acc, h => by
    simp only [parseUint10] at h
    injection h with h
    subst h
    simp only [List.nil_append, parseUint10]
    rw [if_pos hd, if_neg (by omega), if_neg (by omega)]
  | c :: r, acc, h => by
    simp only [List.cons_append, parseUint10] at h ⊢
    split at h
    · rename_i h1
      rw [if_pos h1]
      split at h
      · cases h
      · rename_i h2
        rw [if_neg h2]
        split at h
        · cases h
        · rename_i h3
          rw [if_neg h3]
          exact parse_snoc d hd u hu r _ h
    · cases h
theorem parse_dec (n : Nat) (hn : n < 10000000000000000000) : parseUint10 0 (decDigits n) = .ok n := by
  revert hn
  induction n using Nat.strongRecOn with
  | _ n ih =>
    intro hn
    by_cases h : n < 10
    · rw [decDigits, dif_pos h]
      have := parse_snoc (UInt8.ofNat (48 + n)) (dec_digit n _ (by rw [decDigits, dif_pos h]; exact List.mem_singleton.2 rfl)) 0 (by omega) [] 0 rfl
      rw [List.nil_append, UInt8.toNat_ofNat'] at this
      rw [this]
      congr 1
      omega
    · rw [decDigits, dif_neg h]
      have h2 : 48 ≤ (UInt8.ofNat (48 + n % 10)).toNat ∧ (UInt8.ofNat (48 + n % 10)).toNat ≤ 57 := by rw [UInt8.toNat_ofNat']; omega
      rw [parse_snoc _ h2 (n / 10) (by omega) _ 0 (ih (n / 10) (by omega) (by omega)), UInt8.toNat_ofNat']
      congr 1
      omega
theorem atoi_dec (n : Nat) (hn : n < 1000000000000000000) : atoiAll (decDigits n) = .ok (n : Int) := by
  have hp := parse_dec n (by omega)
  have hd := dec_digit n
  cases hc : decDigits n with
  | nil => exact absurd hc (dec_ne n)
  | cons c r =>
    rw [hc] at hp hd
    have := hd c (List.mem_cons_self ..)
    unfold atoiAll
    simp only
    rw [if_neg (by omega)]
    unfold parseMag
    rw [if_neg (by simp), hp]
    simp only
    rw [if_neg (by omega), if_neg (by omega), if_neg (by omega)]
theorem dec_small (n : Nat) (k : Nat) (hk : 0 < k) (hn : n < 10 ^ k) : (decDigits n).length ≤ k := by
  rw [decDigits_length]
  revert n
  induction k with
  | zero => omega
  | succ k ih =>
    intro n hn
    by_cases h : n < 10
    · rw [nDigits_small h]; omega
    · rw [nDigits_big h]
      rcases Nat.eq_zero_or_pos k with rfl | h0
      · simp at hn; omega
      · have := ih h0 (n / 10) (by rw [Nat.pow_succ] at hn; omega)
        omega
def numV (p : List UInt8) : Option Int :=
  match atoiAll p with
  | .ok v => if p.length ≤ 9 ∧ 0 ≤ v ∧ itoa v = p then some v else none
  | _ => none
theorem numV_dec (n : Nat) (hn : n < 1000000000) : numV (decDigits n) = some (n : Int) := by
  unfold numV
  rw [atoi_dec n (by omega)]
  simp only
  rw [if_pos ⟨dec_small n 9 (by omega) (by simpa using hn), by omega, itoa_nonneg n⟩]
def numsV : List (List UInt8) → Option (List Int)
  | [] => some []
  | p :: ps => match numV p, numsV ps with
    | some v, some l => some (v :: l)
    | _, _ => none
def txtV (l : List Int) : List UInt8 := 123 :: (join (l.map itoa) [44] ++ [125])
def innerV (s : List UInt8) : Option (List UInt8) :=
  if hasPrefix s [123] = true ∧ hasSuffix (trimPrefix s [123]) [125] = true then some (trimSuffix (trimPrefix s [123]) [125]) else none
def readV (s : List UInt8) : Nat × List Int :=
  match innerV s with
  | none => (1, [])
  | some t => if t = [] then (0, []) else
    match numsV (cutc 44 t) with
    | none => (1, [])
    | some l => if chkE l = 0 then (0, l) else (chkE l, [])
end Go.Proofs.YtbagppdibncfdaaGreatDoor
namespace Go.Proofs
open Go.Shelf
def Tryz.lays156_ren : Go.Shelf.Ren := ⟨fun | 156 => 96 | 165 => 137 | 166 => 61 | 169 => 64 | 240 => 112 | 241 => 186 | 276 => 151 | 277 => 218 | n => n, fun | 31 => 22 | 9 => 9 | 3 => 3 | 4 => 4 | 0 => 0 | 20 => 20 | 72 => 98 | 76 => 99 | 70 => 95 | 37 => 96 | 75 => 35 | 127 => 156 | 164 => 180 | 5 => 5 | 80 => 103 | n => n, fun | n => n⟩
theorem Tryz.lays156 : Go.Proofs.Lays.n156 Tryz.prog Tryz.lays156_ren := {
  mixed := by kernel_rfl
  f156 := Tryz.func96.trans (congrArg some (by kernel_rfl))
  f165 := Tryz.func137.trans (congrArg some (by kernel_rfl))
  f166 := Tryz.func61.trans (congrArg some (by kernel_rfl))
  f169 := Tryz.func64.trans (congrArg some (by kernel_rfl))
  f240 := Tryz.func112.trans (congrArg some (by kernel_rfl))
  f241 := Tryz.func186.trans (congrArg some (by kernel_rfl))
  f276 := Tryz.func151.trans (congrArg some (by kernel_rfl))
  f277 := Tryz.func218.trans (congrArg some (by kernel_rfl))
  t0 := Tryz.underlying0
  a0 := Tryz.isAgg0
  z0 := Tryz.sizeOf0
  v0 := Tryz.zeroValue0
  t3 := Tryz.underlying3
  a3 := Tryz.isAgg3
  z3 := Tryz.sizeOf3
  v3 := Tryz.zeroValue3
  t4 := Tryz.underlying4
  a4 := Tryz.isAgg4
  z4 := Tryz.sizeOf4
  v4 := Tryz.zeroValue4
  t9 := Tryz.underlying9
  a9 := Tryz.isAgg9
  z9 := Tryz.sizeOf9
  v9 := Tryz.zeroValue9
  t20 := Tryz.underlying20
  a20 := Tryz.isAgg20
  z20 := Tryz.sizeOf20
  v20 := Tryz.zeroValue20
  t31 := Tryz.underlying22
  a31 := Tryz.isAgg22
  z31 := Tryz.sizeOf22
  v31 := Tryz.zeroValue22
  t37 := Tryz.underlying96
  a37 := Tryz.isAgg96
  z37 := Tryz.sizeOf96
  v37 := Tryz.zeroValue96
  t70 := Tryz.underlying95
  a70 := Tryz.isAgg95
  z70 := Tryz.sizeOf95
  v70 := Tryz.zeroValue95
  t72 := Tryz.underlying98
  a72 := Tryz.isAgg98
  z72 := Tryz.sizeOf98
  v72 := Tryz.zeroValue98
  t75 := Tryz.underlying35
  a75 := Tryz.isAgg35
  z75 := Tryz.sizeOf35
  v75 := Tryz.zeroValue35
  t76 := Tryz.underlying99
  a76 := Tryz.isAgg99
  z76 := Tryz.sizeOf99
  v76 := Tryz.zeroValue99
  t127 := Tryz.underlying156
  a127 := Tryz.isAgg156
  z127 := Tryz.sizeOf156
  v127 := Tryz.zeroValue156
  t164 := Tryz.underlying180
  a164 := Tryz.isAgg180
  z164 := Tryz.sizeOf180
  v164 := Tryz.zeroValue180 }
theorem Tryz.Builder_Extra_156 : Builder.Extra Tryz.prog Tryz.lays156_ren := {
  sizeBuilder := by kernel_rfl
  liesBuilder := by kernel_rfl
  t5 := Tryz.underlying5
  a5 := Tryz.isAgg5
  z5 := Tryz.sizeOf5
  v5 := Tryz.zeroValue5
  infoByte := by kernel_rfl
  cellsByte := by kernel_rfl
  sizeByte := by kernel_rfl
  neB5 := by decide }
open Go.RowKit in
theorem Tryz.strings_Join_none (a : Option Addr) (c : Nat) (sep : ByteArray) (w : World) :
    Calls Tryz.prog 96 #[.slice a 0 c, .string sep] w fun e w' => e = .returned (.string ⟨#[]⟩) ∧ w' = w := Any.strings_Join_none Tryz.lays156 Tryz.Builder_Extra_156 a c sep w
open Go.RowKit in
theorem Tryz.strings_Join (bk o c : Nat) (xs : List ByteArray) (sep : ByteArray) (w : World) (hcells : ∀ (j : Nat) x, xs[j]? = some x → w.cell? ⟨bk, o + j, none⟩ = some (.string x)) (hbk : bk < w.heap.size) (hN : xs.length ≤ 140737488355328) (hcap : xs.length ≤ c) (hlen : (Lib.join (xs.map (·.data.toList)) sep.data.toList).length ≤ 140737488355328) :
    Calls Tryz.prog 96 #[.slice (some ⟨bk, o, none⟩) xs.length c, .string sep] w fun e w' => e = .returned (.string ⟨(Lib.join (xs.map (·.data.toList)) sep.data.toList).toArray⟩) ∧ Below w.heap.size w w' := Any.strings_Join Tryz.lays156 Tryz.Builder_Extra_156 bk o c xs sep w hcells hbk hN hcap hlen
def Tryz.lays103_ren : Go.Shelf.Ren := ⟨fun | 103 => 91 | 210 => 131 | 206 => 175 | n => n, fun | 9 => 9 | 4 => 4 | 24 => 138 | 3 => 3 | n => n, fun | n => n⟩
theorem Tryz.lays103 : Go.Proofs.Lays.n103 Tryz.prog Tryz.lays103_ren := {
  mixed := by kernel_rfl
  f103 := Tryz.func91.trans (congrArg some (by kernel_rfl))
  f206 := Tryz.func175.trans (congrArg some (by kernel_rfl))
  f210 := Tryz.func131.trans (congrArg some (by kernel_rfl))
  t3 := Tryz.underlying3
  a3 := Tryz.isAgg3
  z3 := Tryz.sizeOf3
  v3 := Tryz.zeroValue3
  t4 := Tryz.underlying4
  a4 := Tryz.isAgg4
  z4 := Tryz.sizeOf4
  v4 := Tryz.zeroValue4
  t9 := Tryz.underlying9
  a9 := Tryz.isAgg9
  z9 := Tryz.sizeOf9
  v9 := Tryz.zeroValue9
  t24 := Tryz.underlying138
  a24 := Tryz.isAgg138
  z24 := Tryz.sizeOf138
  v24 := Tryz.zeroValue138 }
open Go.RowKit in
theorem Tryz.strings_CutPrefix (s p : ByteArray) (w : World) :
    Calls Tryz.prog 91 #[.string s, .string p] w fun e w' => e = .returned (.tuple #[.string ⟨(Lib.trimPrefix s.data.toList p.data.toList).toArray⟩, .bool (Lib.hasPrefix s.data.toList p.data.toList)]) ∧ w' = w := Any.strings_CutPrefix Tryz.lays103 s p w
def Tryz.lays104_ren : Go.Shelf.Ren := ⟨fun | 104 => 92 | 211 => 132 | 207 => 176 | n => n, fun | 9 => 9 | 4 => 4 | 24 => 138 | 3 => 3 | n => n, fun | n => n⟩
theorem Tryz.lays104 : Go.Proofs.Lays.n104 Tryz.prog Tryz.lays104_ren := {
  mixed := by kernel_rfl
  f104 := Tryz.func92.trans (congrArg some (by kernel_rfl))
  f207 := Tryz.func176.trans (congrArg some (by kernel_rfl))
  f211 := Tryz.func132.trans (congrArg some (by kernel_rfl))
  t3 := Tryz.underlying3
  a3 := Tryz.isAgg3
  z3 := Tryz.sizeOf3
  v3 := Tryz.zeroValue3
  t4 := Tryz.underlying4
  a4 := Tryz.isAgg4
  z4 := Tryz.sizeOf4
  v4 := Tryz.zeroValue4
  t9 := Tryz.underlying9
  a9 := Tryz.isAgg9
  z9 := Tryz.sizeOf9
  v9 := Tryz.zeroValue9
  t24 := Tryz.underlying138
  a24 := Tryz.isAgg138
  z24 := Tryz.sizeOf138
  v24 := Tryz.zeroValue138 }
open Go.RowKit in
theorem Tryz.strings_CutSuffix (s p : ByteArray) (w : World) (hs : s.size ≤ 9223372036854775807) :
    Calls Tryz.prog 92 #[.string s, .string p] w fun e w' => e = .returned (.tuple #[.string ⟨(Lib.trimSuffix s.data.toList p.data.toList).toArray⟩, .bool (Lib.hasSuffix s.data.toList p.data.toList)]) ∧ w' = w := Any.strings_CutSuffix Tryz.lays104 s p w hs
def Tryz.laysM171_ren : Go.Shelf.Ren := ⟨fun | 171 => 95 | 243 => 136 | 246 => 185 | 283 => 214 | 284 => 215 | 285 => 216 | 286 => 217 | 129 => 174 | 317 => 228 | 318 => 229 | 319 => 230 | 320 => 231 | 337 => 236 | 338 => 237 | n => n, fun | 3 => 3 | 9 => 9 | 2 => 2 | 4 => 4 | 171 => 265 | 0 => 0 | 53 => 218 | 37 => 96 | 5 => 5 | 173 => 267 | 212 => 286 | 51 => 216 | 20 => 20 | 213 => 287 | 46 => 173 | 232 => 292 | 233 => 293 | n => n, fun | 17 => 17 | 18 => 18 | 19 => 19 | n => n⟩
theorem Tryz.laysM171 : Go.Proofs.LaysM.n171 Tryz.prog Tryz.laysM171_ren := {
  mixed := by kernel_rfl
  f129 := Tryz.func174.trans (congrArg some (by kernel_rfl))
  f171 := Tryz.func95.trans (congrArg some (by kernel_rfl))
  f243 := Tryz.func136.trans (congrArg some (by kernel_rfl))
  f246 := Tryz.func185.trans (congrArg some (by kernel_rfl))
  f283 := Tryz.func214.trans (congrArg some (by kernel_rfl))
  f284 := Tryz.func215.trans (congrArg some (by kernel_rfl))
  f285 := Tryz.func216.trans (congrArg some (by kernel_rfl))
  f286 := Tryz.func217.trans (congrArg some (by kernel_rfl))
  f317 := Tryz.func228.trans (congrArg some (by kernel_rfl))
  f318 := Tryz.func229.trans (congrArg some (by kernel_rfl))
  f319 := Tryz.func230.trans (congrArg some (by kernel_rfl))
  f320 := Tryz.func231.trans (congrArg some (by kernel_rfl))
  f337 := Tryz.func236.trans (congrArg some (by kernel_rfl))
  f338 := Tryz.func237.trans (congrArg some (by kernel_rfl))
  t0 := Tryz.underlying0
  a0 := Tryz.isAgg0
  z0 := Tryz.sizeOf0
  v0 := Tryz.zeroValue0
  t2 := Tryz.underlying2
  a2 := Tryz.isAgg2
  z2 := Tryz.sizeOf2
  v2 := Tryz.zeroValue2
  t3 := Tryz.underlying3
  a3 := Tryz.isAgg3
  z3 := Tryz.sizeOf3
  v3 := Tryz.zeroValue3
  t4 := Tryz.underlying4
  a4 := Tryz.isAgg4
  z4 := Tryz.sizeOf4
  v4 := Tryz.zeroValue4
  t5 := Tryz.underlying5
  a5 := Tryz.isAgg5
  z5 := Tryz.sizeOf5
  v5 := Tryz.zeroValue5
  t9 := Tryz.underlying9
  a9 := Tryz.isAgg9
  z9 := Tryz.sizeOf9
  v9 := Tryz.zeroValue9
  t20 := Tryz.underlying20
  a20 := Tryz.isAgg20
  z20 := Tryz.sizeOf20
  v20 := Tryz.zeroValue20
  t37 := Tryz.underlying96
  a37 := Tryz.isAgg96
  z37 := Tryz.sizeOf96
  v37 := Tryz.zeroValue96
  t46 := Tryz.underlying173
  a46 := Tryz.isAgg173
  z46 := Tryz.sizeOf173
  v46 := Tryz.zeroValue173
  t51 := Tryz.underlying216
  a51 := Tryz.isAgg216
  z51 := Tryz.sizeOf216
  v51 := Tryz.zeroValue216
  t53 := Tryz.underlying218
  a53 := Tryz.isAgg218
  z53 := Tryz.sizeOf218
  v53 := Tryz.zeroValue218
  t171 := Tryz.underlying265
  a171 := Tryz.isAgg265
  z171 := Tryz.sizeOf265
  v171 := Tryz.zeroValue265
  t173 := Tryz.underlying267
  a173 := Tryz.isAgg267
  z173 := Tryz.sizeOf267
  v173 := Tryz.zeroValue267
  t212 := Tryz.underlying286
  a212 := Tryz.isAgg286
  z212 := Tryz.sizeOf286
  v212 := Tryz.zeroValue286
  t213 := Tryz.underlying287
  a213 := Tryz.isAgg287
  z213 := Tryz.sizeOf287
  t232 := Tryz.underlying292
  a232 := Tryz.isAgg292
  z232 := Tryz.sizeOf292
  v232 := Tryz.zeroValue292
  t233 := Tryz.underlying293
  a233 := Tryz.isAgg293
  z233 := Tryz.sizeOf293
  v233 := Tryz.zeroValue293
  g17 := by kernel_rfl
  g18 := by kernel_rfl
  g19 := by kernel_rfl
  i0 := by kernel_rfl
  i2 := by kernel_rfl
  i3 := by kernel_rfl
  i4 := by kernel_rfl
  i5 := by kernel_rfl
  i9 := by kernel_rfl
  i20 := by kernel_rfl
  i37 := by kernel_rfl
  i46 := by kernel_rfl
  i51 := by kernel_rfl
  i53 := by kernel_rfl
  i171 := by kernel_rfl
  i173 := by kernel_rfl
  i212 := by kernel_rfl
  i232 := by kernel_rfl
  i233 := by kernel_rfl
  m17 := by kernel_rfl
  m18 := by kernel_rfl
  m19 := by kernel_rfl }
open Go.RowKit Go.Sort Go.Lib in
theorem Tryz.strconv_Itoa (n : Int) (h0 : -9223372036854775808 ≤ n) (h1 : n ≤ 9223372036854775807) (w : World) (htab : Lib.TabIs Tryz.prog w "internal/strconv.uint64pow10" .u64 Lib.pow10Tab) :
    Calls Tryz.prog 95 #[.int .i64 n] w fun e w' => e = .returned (.string ⟨(Lib.itoa n).toArray⟩) ∧ ∃ k os, w' = grow (w.drewN k) os := Any.strconv_Itoa Tryz.laysM171 n h0 h1 w htab
def Tryz.lays171_ren : Go.Shelf.Ren := ⟨fun | 171 => 95 | 243 => 136 | 246 => 185 | 283 => 214 | 284 => 215 | 285 => 216 | 286 => 217 | 129 => 174 | 317 => 228 | 318 => 229 | 319 => 230 | 320 => 231 | 337 => 236 | 338 => 237 | n => n, fun | 3 => 3 | 9 => 9 | 2 => 2 | 4 => 4 | 171 => 265 | 0 => 0 | 53 => 218 | 37 => 96 | 5 => 5 | 173 => 267 | 212 => 286 | 51 => 216 | 20 => 20 | 213 => 287 | 46 => 173 | 232 => 292 | 233 => 293 | n => n, fun | 17 => 17 | 18 => 18 | 19 => 19 | n => n⟩
theorem Tryz.lays171 : Go.Proofs.Lays.n171 Tryz.prog Tryz.lays171_ren := {
  mixed := by kernel_rfl
  f129 := Tryz.func174.trans (congrArg some (by kernel_rfl))
  f171 := Tryz.func95.trans (congrArg some (by kernel_rfl))
  f243 := Tryz.func136.trans (congrArg some (by kernel_rfl))
  f246 := Tryz.func185.trans (congrArg some (by kernel_rfl))
  f283 := Tryz.func214.trans (congrArg some (by kernel_rfl))
  f284 := Tryz.func215.trans (congrArg some (by kernel_rfl))
  f285 := Tryz.func216.trans (congrArg some (by kernel_rfl))
  f286 := Tryz.func217.trans (congrArg some (by kernel_rfl))
  f317 := Tryz.func228.trans (congrArg some (by kernel_rfl))
  f318 := Tryz.func229.trans (congrArg some (by kernel_rfl))
  f319 := Tryz.func230.trans (congrArg some (by kernel_rfl))
  f320 := Tryz.func231.trans (congrArg some (by kernel_rfl))
  f337 := Tryz.func236.trans (congrArg some (by kernel_rfl))
  f338 := Tryz.func237.trans (congrArg some (by kernel_rfl))
  t0 := Tryz.underlying0
  a0 := Tryz.isAgg0
  z0 := Tryz.sizeOf0
  v0 := Tryz.zeroValue0
  t2 := Tryz.underlying2
  a2 := Tryz.isAgg2
  z2 := Tryz.sizeOf2
  v2 := Tryz.zeroValue2
  t3 := Tryz.underlying3
  a3 := Tryz.isAgg3
  z3 := Tryz.sizeOf3
  v3 := Tryz.zeroValue3
  t4 := Tryz.underlying4
  a4 := Tryz.isAgg4
  z4 := Tryz.sizeOf4
  v4 := Tryz.zeroValue4
  t5 := Tryz.underlying5
  a5 := Tryz.isAgg5
  z5 := Tryz.sizeOf5
  v5 := Tryz.zeroValue5
  t9 := Tryz.underlying9
  a9 := Tryz.isAgg9
  z9 := Tryz.sizeOf9
  v9 := Tryz.zeroValue9
  t20 := Tryz.underlying20
  a20 := Tryz.isAgg20
  z20 := Tryz.sizeOf20
  v20 := Tryz.zeroValue20
  t37 := Tryz.underlying96
  a37 := Tryz.isAgg96
  z37 := Tryz.sizeOf96
  v37 := Tryz.zeroValue96
  t46 := Tryz.underlying173
  a46 := Tryz.isAgg173
  z46 := Tryz.sizeOf173
  v46 := Tryz.zeroValue173
  t51 := Tryz.underlying216
  a51 := Tryz.isAgg216
  z51 := Tryz.sizeOf216
  v51 := Tryz.zeroValue216
  t53 := Tryz.underlying218
  a53 := Tryz.isAgg218
  z53 := Tryz.sizeOf218
  v53 := Tryz.zeroValue218
  t171 := Tryz.underlying265
  a171 := Tryz.isAgg265
  z171 := Tryz.sizeOf265
  v171 := Tryz.zeroValue265
  t173 := Tryz.underlying267
  a173 := Tryz.isAgg267
  z173 := Tryz.sizeOf267
  v173 := Tryz.zeroValue267
  t212 := Tryz.underlying286
  a212 := Tryz.isAgg286
  z212 := Tryz.sizeOf286
  v212 := Tryz.zeroValue286
  t213 := Tryz.underlying287
  a213 := Tryz.isAgg287
  z213 := Tryz.sizeOf287
  t232 := Tryz.underlying292
  a232 := Tryz.isAgg292
  z232 := Tryz.sizeOf292
  v232 := Tryz.zeroValue292
  t233 := Tryz.underlying293
  a233 := Tryz.isAgg293
  z233 := Tryz.sizeOf293
  v233 := Tryz.zeroValue293
  g17 := by kernel_rfl
  g18 := by kernel_rfl
  g19 := by kernel_rfl }
open Go.RowKit Go.Sort Go.Lib in
theorem Tryz.strconv_Itoa_small (i : Nat) (hi : i < 100) (w : World) :
    Calls Tryz.prog 95 #[.int .i64 i] w fun e w' => e = .returned (.string ⟨(Lib.decDigits i).toArray⟩) ∧ w' = w := Any.strconv_Itoa_small Tryz.lays171 i hi w
def Tryz.laysC172_ren : Go.Shelf.Ren := ⟨fun | 172 => 94 | 244 => 134 | 245 => 135 | 247 => 180 | 279 => 181 | 280 => 182 | 281 => 183 | 282 => 184 | 287 => 211 | 316 => 212 | 171 => 95 | 205 => 213 | 321 => 226 | 322 => 227 | 243 => 136 | 246 => 185 | 283 => 214 | 284 => 215 | 285 => 216 | 286 => 217 | 129 => 174 | 317 => 228 | 318 => 229 | 319 => 230 | 320 => 231 | 337 => 236 | 338 => 237 | n => n, fun | 9 => 9 | 3 => 3 | 75 => 35 | 76 => 99 | 4 => 4 | 5 => 5 | 167 => 221 | 37 => 96 | 0 => 0 | 85 => 222 | 2 => 2 | 168 => 224 | 53 => 218 | 175 => 260 | 46 => 173 | 210 => 264 | 127 => 156 | 145 => 284 | 143 => 282 | 21 => 21 | 171 => 265 | 173 => 267 | 212 => 286 | 51 => 216 | 20 => 20 | 213 => 287 | 232 => 292 | 233 => 293 | 80 => 103 | n => n, fun | 15 => 13 | 16 => 14 | 17 => 17 | 18 => 18 | 19 => 19 | n => n⟩
theorem Tryz.laysC172 : Go.Proofs.LaysC.n172 Tryz.prog Tryz.laysC172_ren := {
  mixed := by kernel_rfl
  f129 := Tryz.func174.trans (congrArg some (by kernel_rfl))
  f171 := Tryz.func95.trans (congrArg some (by kernel_rfl))
  f172 := Tryz.func94.trans (congrArg some (by kernel_rfl))
  f205 := Tryz.func213.trans (congrArg some (by kernel_rfl))
  f243 := Tryz.func136.trans (congrArg some (by kernel_rfl))
  f244 := Tryz.func134.trans (congrArg some (by kernel_rfl))
  f245 := Tryz.func135.trans (congrArg some (by kernel_rfl))
  f246 := Tryz.func185.trans (congrArg some (by kernel_rfl))
  f247 := Tryz.func180.trans (congrArg some (by kernel_rfl))
  f279 := Tryz.func181.trans (congrArg some (by kernel_rfl))
  f280 := Tryz.func182.trans (congrArg some (by kernel_rfl))
  f281 := Tryz.func183.trans (congrArg some (by kernel_rfl))
  f282 := Tryz.func184.trans (congrArg some (by kernel_rfl))
  f283 := Tryz.func214.trans (congrArg some (by kernel_rfl))
  f284 := Tryz.func215.trans (congrArg some (by kernel_rfl))
  f285 := Tryz.func216.trans (congrArg some (by kernel_rfl))
  f286 := Tryz.func217.trans (congrArg some (by kernel_rfl))
  f287 := Tryz.func211.trans (congrArg some (by kernel_rfl))
  f316 := Tryz.func212.trans (congrArg some (by kernel_rfl))
  f317 := Tryz.func228.trans (congrArg some (by kernel_rfl))
  f318 := Tryz.func229.trans (congrArg some (by kernel_rfl))
  f319 := Tryz.func230.trans (congrArg some (by kernel_rfl))
  f320 := Tryz.func231.trans (congrArg some (by kernel_rfl))
  f321 := Tryz.func226.trans (congrArg some (by kernel_rfl))
  f322 := Tryz.func227.trans (congrArg some (by kernel_rfl))
  f337 := Tryz.func236.trans (congrArg some (by kernel_rfl))
  f338 := Tryz.func237.trans (congrArg some (by kernel_rfl))
  t0 := Tryz.underlying0
  a0 := Tryz.isAgg0
  z0 := Tryz.sizeOf0
  v0 := Tryz.zeroValue0
  t2 := Tryz.underlying2
  a2 := Tryz.isAgg2
  z2 := Tryz.sizeOf2
  v2 := Tryz.zeroValue2
  t3 := Tryz.underlying3
  a3 := Tryz.isAgg3
  z3 := Tryz.sizeOf3
  v3 := Tryz.zeroValue3
  t4 := Tryz.underlying4
  a4 := Tryz.isAgg4
  z4 := Tryz.sizeOf4
  v4 := Tryz.zeroValue4
  t5 := Tryz.underlying5
  a5 := Tryz.isAgg5
  z5 := Tryz.sizeOf5
  v5 := Tryz.zeroValue5
  t9 := Tryz.underlying9
  a9 := Tryz.isAgg9
  z9 := Tryz.sizeOf9
  v9 := Tryz.zeroValue9
  t20 := Tryz.underlying20
  a20 := Tryz.isAgg20
  z20 := Tryz.sizeOf20
  v20 := Tryz.zeroValue20
  t21 := Tryz.underlying21
  a21 := Tryz.isAgg21
  z21 := Tryz.sizeOf21
  v21 := Tryz.zeroValue21
  t37 := Tryz.underlying96
  a37 := Tryz.isAgg96
  z37 := Tryz.sizeOf96
  v37 := Tryz.zeroValue96
  t46 := Tryz.underlying173
  a46 := Tryz.isAgg173
  z46 := Tryz.sizeOf173
  v46 := Tryz.zeroValue173
  t51 := Tryz.underlying216
  a51 := Tryz.isAgg216
  z51 := Tryz.sizeOf216
  v51 := Tryz.zeroValue216
  t53 := Tryz.underlying218
  a53 := Tryz.isAgg218
  z53 := Tryz.sizeOf218
  v53 := Tryz.zeroValue218
  t75 := Tryz.underlying35
  a75 := Tryz.isAgg35
  z75 := Tryz.sizeOf35
  v75 := Tryz.zeroValue35
  t76 := Tryz.underlying99
  a76 := Tryz.isAgg99
  z76 := Tryz.sizeOf99
  v76 := Tryz.zeroValue99
  t85 := Tryz.underlying222
  a85 := Tryz.isAgg222
  z85 := Tryz.sizeOf222
  v85 := Tryz.zeroValue222
  t127 := Tryz.underlying156
  a127 := Tryz.isAgg156
  z127 := Tryz.sizeOf156
  v127 := Tryz.zeroValue156
  t143 := Tryz.underlying282
  a143 := Tryz.isAgg282
  z143 := Tryz.sizeOf282
  v143 := Tryz.zeroValue282
  t145 := Tryz.underlying284
  a145 := Tryz.isAgg284
  z145 := Tryz.sizeOf284
  v145 := Tryz.zeroValue284
  t167 := Tryz.underlying221
  a167 := Tryz.isAgg221
  z167 := Tryz.sizeOf221
  v167 := Tryz.zeroValue221
  t168 := Tryz.underlying224
  a168 := Tryz.isAgg224
  z168 := Tryz.sizeOf224
  v168 := Tryz.zeroValue224
  t171 := Tryz.underlying265
  a171 := Tryz.isAgg265
  z171 := Tryz.sizeOf265
  v171 := Tryz.zeroValue265
  t173 := Tryz.underlying267
  a173 := Tryz.isAgg267
  z173 := Tryz.sizeOf267
  v173 := Tryz.zeroValue267
  t175 := Tryz.underlying260
  a175 := Tryz.isAgg260
  z175 := Tryz.sizeOf260
  v175 := Tryz.zeroValue260
  t210 := Tryz.underlying264
  a210 := Tryz.isAgg264
  z210 := Tryz.sizeOf264
  v210 := Tryz.zeroValue264
  t212 := Tryz.underlying286
  a212 := Tryz.isAgg286
  z212 := Tryz.sizeOf286
  v212 := Tryz.zeroValue286
  t213 := Tryz.underlying287
  a213 := Tryz.isAgg287
  z213 := Tryz.sizeOf287
  t232 := Tryz.underlying292
  a232 := Tryz.isAgg292
  z232 := Tryz.sizeOf292
  v232 := Tryz.zeroValue292
  t233 := Tryz.underlying293
  a233 := Tryz.isAgg293
  z233 := Tryz.sizeOf293
  v233 := Tryz.zeroValue293
  g15 := by kernel_rfl
  g16 := by kernel_rfl
  g17 := by kernel_rfl
  g18 := by kernel_rfl
  g19 := by kernel_rfl
  t80 := Tryz.underlying103
  a80 := Tryz.isAgg103
  z80 := Tryz.sizeOf103
  v80 := Tryz.zeroValue103
  i0 := by kernel_rfl
  i2 := by kernel_rfl
  i3 := by kernel_rfl
  i4 := by kernel_rfl
  i5 := by kernel_rfl
  i9 := by kernel_rfl
  i20 := by kernel_rfl
  i21 := by kernel_rfl
  i37 := by kernel_rfl
  i46 := by kernel_rfl
  i51 := by kernel_rfl
  i53 := by kernel_rfl
  i75 := by kernel_rfl
  i76 := by kernel_rfl
  i80 := by kernel_rfl
  i85 := by kernel_rfl
  i127 := by kernel_rfl
  i143 := by kernel_rfl
  i145 := by kernel_rfl
  i167 := by kernel_rfl
  i168 := by kernel_rfl
  i171 := by kernel_rfl
  i173 := by kernel_rfl
  i175 := by kernel_rfl
  i210 := by kernel_rfl
  i212 := by kernel_rfl
  i232 := by kernel_rfl
  i233 := by kernel_rfl
  m15 := by kernel_rfl
  m16 := by kernel_rfl
  m17 := by kernel_rfl
  m18 := by kernel_rfl
  m19 := by kernel_rfl
  c0 := by kernel_rfl
  c2 := by kernel_rfl
  c3 := by kernel_rfl
  c4 := by kernel_rfl
  c5 := by kernel_rfl
  c9 := by kernel_rfl
  c20 := by kernel_rfl
  c21 := by kernel_rfl
  c37 := by kernel_rfl
  c46 := by kernel_rfl
  c51 := by kernel_rfl
  c53 := by kernel_rfl
  c75 := by kernel_rfl
  c76 := by kernel_rfl
  c80 := by kernel_rfl
  c85 := by kernel_rfl
  c127 := by kernel_rfl
  c143 := by kernel_rfl
  c145 := by kernel_rfl
  c167 := by kernel_rfl
  c168 := by kernel_rfl
  c171 := by kernel_rfl
  c173 := by kernel_rfl
  c175 := by kernel_rfl
  c210 := by kernel_rfl
  c212 := by kernel_rfl
  c213 := by kernel_rfl
  c232 := by kernel_rfl
  c233 := by kernel_rfl }
open Go.RowKit in
theorem Tryz.strconv_Atoi_ok (s : ByteArray) (hmax : s.size ≤ 9223372036854775806) (v : Int) (h : Lib.atoiAll s.data.toList = .ok v) (w : World) :
    Calls Tryz.prog 94 #[.string s] w fun e w' => e = .returned (.tuple #[.int .i64 v, .nilIface]) ∧ (w' = w ∨ ∃ t, w' = Lib.bytesWorld w 5 t) := Any.strconv_Atoi_ok Tryz.laysC172 s hmax v h w
open Go.RowKit in
theorem Tryz.strconv_Atoi_syntax (s : ByteArray) (hlim : s.size ≤ 281474976710656) (h : Lib.atoiAll s.data.toList = .«syntax») (ev : Value) (w : World) (hv : w.cell? ⟨13, 0, none⟩ = some ev) (hev : ev = .nilIface ∨ ∃ te pe, ev = .iface te pe) :
    Calls Tryz.prog 94 #[.string s] w fun e w' => ∃ N, e = .returned (.tuple #[.int .i64 (0), .iface 224 (.pointer (some ⟨N, 0, none⟩))]) ∧ w.heap.size ≤ N ∧ w'.heap[N]? = some (.cells #[.string ⟨#[65, 116, 111, 105]⟩, .string s, ev] 264 (0, 0)) ∧ Below w.heap.size w w' := Any.strconv_Atoi_syntax Tryz.laysC172 s hlim h ev w hv hev
open Go.RowKit in
theorem Tryz.strconv_Atoi_range (s : ByteArray) (hlim : s.size ≤ 281474976710656) (h : Lib.atoiAll s.data.toList = .range) (ev : Value) (w : World) (hv : w.cell? ⟨14, 0, none⟩ = some ev) (hev : ev = .nilIface ∨ ∃ te pe, ev = .iface te pe) :
    Calls Tryz.prog 94 #[.string s] w fun e w' => ∃ N, e = .returned (.tuple #[.int .i64 (Lib.atoiSat s.data.toList), .iface 224 (.pointer (some ⟨N, 0, none⟩))]) ∧ w.heap.size ≤ N ∧ w'.heap[N]? = some (.cells #[.string ⟨#[65, 116, 111, 105]⟩, .string s, ev] 264 (0, 0)) ∧ Below w.heap.size w w' := Any.strconv_Atoi_range Tryz.laysC172 s hlim h ev w hv hev
def Tryz.lays143_ren : Go.Shelf.Ren := ⟨fun | 143 => 179 | 219 => 152 | 217 => 197 | 225 => 198 | 224 => 199 | 267 => 200 | 266 => 222 | 314 => 223 | n => n, fun | 9 => 9 | 3 => 3 | 4 => 4 | 5 => 5 | 46 => 173 | 146 => 272 | 51 => 216 | n => n, fun | 1 => 12 | n => n⟩
theorem Tryz.lays143 : Go.Proofs.Lays.n143 Tryz.prog Tryz.lays143_ren := {
  mixed := by kernel_rfl
  f143 := Tryz.func179.trans (congrArg some (by kernel_rfl))
  f217 := Tryz.func197.trans (congrArg some (by kernel_rfl))
  f219 := Tryz.func152.trans (congrArg some (by kernel_rfl))
  f224 := Tryz.func199.trans (congrArg some (by kernel_rfl))
  f225 := Tryz.func198.trans (congrArg some (by kernel_rfl))
  f266 := Tryz.func222.trans (congrArg some (by kernel_rfl))
  f267 := Tryz.func200.trans (congrArg some (by kernel_rfl))
  f314 := Tryz.func223.trans (congrArg some (by kernel_rfl))
  t3 := Tryz.underlying3
  a3 := Tryz.isAgg3
  z3 := Tryz.sizeOf3
  v3 := Tryz.zeroValue3
  t4 := Tryz.underlying4
  a4 := Tryz.isAgg4
  z4 := Tryz.sizeOf4
  v4 := Tryz.zeroValue4
  t5 := Tryz.underlying5
  a5 := Tryz.isAgg5
  z5 := Tryz.sizeOf5
  v5 := Tryz.zeroValue5
  t9 := Tryz.underlying9
  a9 := Tryz.isAgg9
  z9 := Tryz.sizeOf9
  v9 := Tryz.zeroValue9
  t46 := Tryz.underlying173
  a46 := Tryz.isAgg173
  z46 := Tryz.sizeOf173
  v46 := Tryz.zeroValue173
  t51 := Tryz.underlying216
  a51 := Tryz.isAgg216
  z51 := Tryz.sizeOf216
  v51 := Tryz.zeroValue216
  t146 := Tryz.underlying272
  a146 := Tryz.isAgg272
  z146 := Tryz.sizeOf272
  v146 := Tryz.zeroValue272
  g1 := by kernel_rfl }
open Go.RowKit Go.Lib in
theorem Tryz.strings_Index_one (s : ByteArray) (c : UInt8) (w : World) :
    Calls Tryz.prog 179 #[.string s, .string ⟨#[c]⟩] w fun e w' => e = .returned (.int .i64 (Lib.indexByte s.data.toList c)) ∧ w' = w := Any.strings_Index_one Tryz.lays143 s c w
end Go.Proofs
namespace Go.Proofs.YtbagppdibncfdaaGreatDoor
open Go Go.RowKit
def Ext (w w' : World) : Prop := Below w.heap.size w w'
theorem Ext.refl (w : World) : Ext w w := Below.refl _ _
theorem Ext.trans {a b c : World} (h : Ext a b) (k : Ext b c) : Ext a c := Below.trans h (Below.mono k h.size)
theorem Ext.size {w w' : World} (h : Ext w w') : w.heap.size ≤ w'.heap.size := Below.size h
theorem Ext.get {w w' : World} (h : Ext w w') {b : Nat} {o : Obj} (hb : w.heap[b]? = some o) : w'.heap[b]? = some o := by
  have hlt : b < w.heap.size := (Array.getElem?_eq_some_iff.1 hb).1
  rw [h.block b hlt]; exact hb
theorem Ext.drawn (w : World) (n : Nat) : Ext w { w with drawn := n } := ⟨rfl, rfl, rfl, Nat.le_refl _, fun _ _ => rfl⟩
theorem Ext.drew {w w' : World} (h : Ext w w') : Ext w w'.drew := Below.drew h
theorem Ext.alloc {w w' : World} (h : Ext w w') (o : Obj) : Ext w (w'.alloc o) := Below.alloc h h.size o
structure Keep (X : Nat → Prop) (w w' : World) : Prop where
  os : w'.os = w.os
  tape : w'.tape = w.tape
  output : w'.output = w.output
  size : w.heap.size ≤ w'.heap.size
  block : ∀ k, k < w.heap.size → ¬ X k → w'.heap[k]? = w.heap[k]?
theorem Keep.refl (X : Nat → Prop) (w : World) : Keep X w w := ⟨rfl, rfl, rfl, Nat.le_refl _, fun _ _ _ => rfl⟩
theorem Keep.trans {X : Nat → Prop} {a b c : World} (h : Keep X a b) (k : Keep X b c) : Keep X a c :=
  ⟨k.os.trans h.os, k.tape.trans h.tape, k.output.trans h.output, Nat.le_trans h.size k.size, fun i hi hx => (k.block i (Nat.lt_of_lt_of_le hi h.size) hx).trans (h.block i hi hx)⟩
theorem Ext.keep {w w' : World} (h : Ext w w') (X : Nat → Prop) : Keep X w w' := ⟨h.os, h.tape, h.output, h.size, fun k hk _ => h.block k hk⟩
theorem Keep.mono {X Y : Nat → Prop} {a b : World} (h : Keep X a b) (hx : ∀ k, k < a.heap.size → X k → Y k) : Keep Y a b :=
  ⟨h.os, h.tape, h.output, h.size, fun k hk hy => h.block k hk fun hX => hy (hx k hk hX)⟩
theorem Keep.ext {a b : World} (h : Keep (fun _ => False) a b) : Ext a b := ⟨h.os, h.tape, h.output, h.size, fun k hk => h.block k hk (fun h => h)⟩
theorem Keep.get {X : Nat → Prop} {w w' : World} (h : Keep X w w') {b : Nat} {o : Obj} (hb : w.heap[b]? = some o) (hx : ¬ X b) : w'.heap[b]? = some o := by
  have hlt : b < w.heap.size := (Array.getElem?_eq_some_iff.1 hb).1
  rw [h.block b hlt hx]; exact hb
section
variable {P : Program} {ops : Array Oper}
def Oper.doesUpon (P : Program) (R : Value → World → Prop) : Result Next → Prop
  | .ok (.value v) w' => R v w'
  | .ok .skip w' => R undef w'
  | .ok (.enter f args) w' => Calls P f args w' fun e w'' => ∃ v, e = .returned v ∧ R v w''
  | _ => False
theorem Oper.doesUpon_value (R : Value → World → Prop) (v : Value) (w : World) : Oper.doesUpon P R (.ok (.value v) w) = R v w := rfl
theorem Oper.doesUpon_skip (R : Value → World → Prop) (w : World) : Oper.doesUpon P R (.ok .skip w) = R undef w := rfl
def does (P : Program) (ops : Array Oper) (o : Oper) (a : Act) (w : World) (R : Value → World → Prop) : Prop :=
  if Region.wanted o (yielded ops a.tmps) then Oper.doesUpon P R ((execOp a.eval o).run P w) else R undef w
theorem does_put {o : Oper} {a : Act} {d : Option Tmp} {v : Value} {w : World} {R : Value → World → Prop} (hs : ∀ cs b, o.op ≠ .select cs b) (h : ∀ t, d = some t → t ∉ o.looksAt ops) :
    does P ops o (a.put d v) w R = does P ops o a w R := by
  unfold does
  rw [wanted_put o a d v h, execOp_put o hs a d v h]
theorem wpOp_of_does {i : Nat} {o : Oper} (ho : ops[i]? = some o) {a : Act} {w : World} {R : Value → World → Prop} {K : Act → World → Prop} {Q : Exit → Act → World → Prop}
    (h : does P ops o a w R) (hK : ∀ v w', R v w' → K (a.put o.dst v) w') : wpOp P ops Q i K a w := by
  unfold wpOp
  simp only [ho]
  unfold does at h
  split
  · rename_i hw
    rw [if_pos hw] at h
    refine .inl ?_
    unfold Oper.wp
    generalize (execOp a.eval o).run P w = r at h
    cases r with
    | ok n w' =>
      cases n <;> simp only [Oper.doesUpon] at h <;> simp only [Oper.upon]
      case enter f args => exact h.mono fun e w'' ⟨v, he, hr⟩ => by subst he; exact hK _ _ hr
      all_goals exact hK _ _ h
    | halt x w' => simp only [Oper.doesUpon] at h
  · rename_i hw
    rw [if_neg hw] at h
    exact hK _ _ h
def waitsB (ops : Array Oper) (j i : Nat) : Bool :=
  match ops[j]? with
  | some oj => oj.after.any fun e => Region.binds .any e && e.on == i
  | none => false
def okB (ops : Array Oper) : Bool :=
  (ops.toList.all fun o => match o.op with | .select .. => false | _ => true) &&
  (List.range ops.size).all fun i => (List.range i).all fun j =>
    waitsB ops i j || waitsB ops j i || (match ops[i]?, ops[j]? with | some x, some y => x.apart ops y && y.apart ops x | _, _ => true)
theorem okB_select (h : okB ops = true) {i : Nat} {o : Oper} (ho : ops[i]? = some o) : ∀ cs b, o.op ≠ .select cs b := by
  intro cs b he
  simp only [okB, Bool.and_eq_true, List.all_eq_true] at h
  have := h.1 o (Array.mem_toList_iff.2 (Array.mem_of_getElem? ho))
  rw [he] at this
  cases this
theorem okB_pair (h : okB ops = true) {i j : Nat} {x y : Oper} (hx : ops[i]? = some x) (hy : ops[j]? = some y) (hij : i ≠ j) (h1 : waitsB ops i j = false) (h2 : waitsB ops j i = false) : x.apart ops y = true := by
  simp only [okB, Bool.and_eq_true, List.all_eq_true, List.mem_range, Bool.or_eq_true] at h
  have hi : i < ops.size := (Array.getElem?_eq_some_iff.1 hx).1
  have hj : j < ops.size := (Array.getElem?_eq_some_iff.1 hy).1
  rcases Nat.lt_or_ge j i with hlt | hge
  · rcases h.2 i hi j hlt with (h3 | h3) | h3
    · rw [h3] at h1; cases h1
    · rw [h3] at h2; cases h2
    · simp only [hx, hy, Bool.and_eq_true] at h3; exact h3.1
  · rcases h.2 j hj i (by omega) with (h3 | h3) | h3
    · rw [h3] at h2; cases h2
    · rw [h3] at h1; cases h1
    · simp only [hx, hy, Bool.and_eq_true] at h3; exact h3.2
theorem waits_listed {listed : Array Bool} {i k : Nat} (hr : i ∈ Region.ready .any ops listed) (hw : waitsB ops i k = true) : listed.getD k false = true := by
  obtain ⟨_, o, ho, hall⟩ := mem_ready.1 hr
  unfold waitsB at hw
  rw [ho] at hw
  obtain ⟨e, he, hb⟩ := Array.any_eq_true'.1 hw
  simp only [Bool.and_eq_true, beq_iff_eq] at hb
  have := hall e he hb.1
  rwa [hb.2] at this
def waits2 (ops : Array Oper) (i j : Nat) : Prop := waitsB ops i j = true ∨ ∃ k, waitsB ops i k = true ∧ waitsB ops k j = true
inductive Flow (P : Program) (ops : Array Oper) (w0 : World) (Q : Act → World → Prop) : (Nat → Prop) → List Nat → Array Bool → (World → Prop) → Act → Prop
  | fin {X : Nat → Prop} {L : List Nat} {listed : Array Bool} {C : World → Prop} {a : Act} (hr : Region.ready .any ops listed = []) (h : ∀ w, C w → Keep X w0 w → Q a w) : Flow P ops w0 Q X L listed C a
  | det {X : Nat → Prop} {L : List Nat} {listed : Array Bool} {C : World → Prop} {a : Act} (i : Nat) (o : Oper) (v : Value) (hL : i ∉ L) (ho : ops[i]? = some o) (hr : i ∈ Region.ready .any ops listed)
      (h : ∀ w, Keep X w0 w → does P ops o a w fun v' w' => v' = v ∧ Ext w w') (k : Flow P ops w0 Q X L (listed.setIfInBounds i true) C (a.put o.dst v)) : Flow P ops w0 Q X L listed C a
  | loose {X : Nat → Prop} {L : List Nat} {listed : Array Bool} {C : World → Prop} {a : Act} (i : Nat) (o : Oper) (v : Value) (ho : ops[i]? = some o) (hr : i ∈ Region.ready .any ops listed)
      (h : ∀ w, does P ops o a w fun v' w' => v' = v ∧ Ext w w') (k : Flow P ops w0 Q X (i :: L) (listed.setIfInBounds i true) C (a.put o.dst v)) : Flow P ops w0 Q X L listed C a
  | act {X : Nat → Prop} {L : List Nat} {listed : Array Bool} {C : World → Prop} {a : Act} (O : Nat → Oper) (R : Nat → Value → World → Prop) (hn : Region.ready .any ops listed ≠ []) (ho : ∀ i ∈ Region.ready .any ops listed, ops[i]? = some (O i))
      (h : ∀ i ∈ Region.ready .any ops listed, ∀ w, C w → Keep X w0 w → does P ops (O i) a w fun v w' => Keep X w0 w' ∧ R i v w')
      (k : ∀ i ∈ Region.ready .any ops listed, ∀ v, (∃ w, R i v w) → Flow P ops w0 Q X L (listed.setIfInBounds i true) (fun w => ∃ w1, R i v w1 ∧ Ext w1 w) (a.put (O i).dst v)) : Flow P ops w0 Q X L listed C a
  | turn {X : Nat → Prop} (Y : Nat → Prop) {L : List Nat} {listed : Array Bool} {C : World → Prop} {a : Act} (i : Nat) (o : Oper) (R : Value → World → Prop) (ho : ops[i]? = some o) (hr : Region.ready .any ops listed = [i])
      (hw : ∀ j, listed.getD j false = true → j ∈ L ∨ waits2 ops i j)
      (h : ∀ w, C w → Keep X w0 w → does P ops o a w fun v w' => Keep Y w0 w' ∧ R v w')
      (k : ∀ v, (∃ w, R v w) → Flow P ops w0 Q Y L (listed.setIfInBounds i true) (fun w => ∃ w1, R v w1 ∧ Ext w1 w) (a.put o.dst v)) : Flow P ops w0 Q X L listed C a
  | last {X : Nat → Prop} {L : List Nat} {listed : Array Bool} {C : World → Prop} {a : Act} (i : Nat) (o : Oper) (R : Value → World → Prop) (ho : ops[i]? = some o) (hr : Region.ready .any ops listed = [i]) (hall : ∀ j, j < ops.size → j ≠ i → waits2 ops i j)
      (h : ∀ w, C w → Keep X w0 w → does P ops o a w R) (k : ∀ v w', R v w' → Q (a.put o.dst v) w') : Flow P ops w0 Q X L listed C a
def Gives (P : Program) (ops : Array Oper) (X : Nat → Prop) (w0 : World) (L : List Nat) (i : Nat) (o : Oper) (v : Value) (a : Act) : Prop :=
  (∀ w, Keep X w0 w → does P ops o a w fun v' w' => v' = v ∧ Ext w w') ∧ (i ∈ L → ∀ w, does P ops o a w fun v' w' => v' = v ∧ Ext w w')
def Pend (P : Program) (ops : Array Oper) (X : Nat → Prop) (w0 : World) (L : List Nat) : List (Nat × Value) → Act → Act → Prop
  | [], a, a' => a = a'
  | (i, v) :: l, a, a' => ∃ o, ops[i]? = some o ∧ Gives P ops X w0 L i o v a ∧ Pend P ops X w0 L l (a.put o.dst v) a'
variable {X Y : Nat → Prop} {w0 : World} {L : List Nat}
theorem Gives.put {i : Nat} {o : Oper} {v : Value} {a : Act} {d : Option Tmp} {u : Value} (hs : ∀ cs b, o.op ≠ .select cs b) (h : ∀ t, d = some t → t ∉ o.looksAt ops) :
    Gives P ops X w0 L i o v (a.put d u) ↔ Gives P ops X w0 L i o v a := by
  unfold Gives
  simp only [does_put hs h]
theorem Pend.snoc : ∀ {l : List (Nat × Value)} {a a' : Act} {i : Nat} {v : Value} {o : Oper}, Pend P ops X w0 L l a a' → ops[i]? = some o →
    Gives P ops X w0 L i o v a' → Pend P ops X w0 L (l ++ [(i, v)]) a (a'.put o.dst v)
  | [], a, a', i, v, o, h, ho, hd => by subst h; exact ⟨o, ho, hd, rfl⟩
  | (j, u) :: l, a, a', i, v, o, ⟨oj, hoj, hdj, hp⟩, ho, hd => ⟨oj, hoj, hdj, Pend.snoc hp ho hd⟩
theorem Pend.more (i : Nat) : ∀ {l : List (Nat × Value)} {a a' : Act}, i ∉ l.map (·.1) → Pend P ops X w0 L l a a' → Pend P ops X w0 (i :: L) l a a'
  | [], _, _, _, h => h
  | (j, u) :: l, a, a', hn, ⟨oj, hoj, hdj, hp⟩ => by
    simp only [List.map_cons, List.mem_cons, not_or] at hn
    refine ⟨oj, hoj, ⟨hdj.1, fun hj => ?_⟩, Pend.more i hn.2 hp⟩
    rcases List.mem_cons.1 hj with rfl | hj
    · exact absurd rfl hn.1
    · exact hdj.2 hj
theorem Pend.turn : ∀ {l : List (Nat × Value)} {a a' : Act}, (∀ x ∈ l, x.1 ∈ L) → Pend P ops X w0 L l a a' → Pend P ops Y w0 L l a a'
  | [], _, _, _, h => h
  | _ :: _, _, _, hl, ⟨oj, hoj, hdj, hp⟩ =>
    ⟨oj, hoj, ⟨fun w _ => hdj.2 (hl _ (List.mem_cons_self ..)) w, hdj.2⟩, Pend.turn (fun x hx => hl x (List.mem_cons_of_mem _ hx)) hp⟩
theorem Pend.does_back (hB : okB ops = true) {i : Nat} {o : Oper} (ho : ops[i]? = some o) : ∀ {l : List (Nat × Value)} {a a' : Act}, Pend P ops X w0 L l a a' →
    (∀ x ∈ l, x.1 ≠ i ∧ waitsB ops i x.1 = false ∧ waitsB ops x.1 i = false) → ∀ {w : World} {R : Value → World → Prop}, does P ops o a' w R → does P ops o a w R
  | [], a, a', h, _, w, R, hd => by rw [show a = a' from h]; exact hd
  | (j, u) :: l, a, a', ⟨oj, hoj, hdj, hp⟩, hx, w, R, hd => by
    have h1 := Pend.does_back hB ho hp (fun x hx' => hx x (List.mem_cons_of_mem _ hx')) hd
    have h2 := hx (j, u) (List.mem_cons_self ..)
    rwa [does_put (okB_select hB ho) (Oper.apart_spec (okB_pair hB hoj ho h2.1 h2.2.2 h2.2.1)).1] at h1
theorem Pend.put (hB : okB ops = true) {i : Nat} {o : Oper} (ho : ops[i]? = some o) (v : Value) : ∀ {l : List (Nat × Value)} {a a' : Act}, Pend P ops X w0 L l a a' →
    (∀ x ∈ l, x.1 ≠ i ∧ waitsB ops i x.1 = false ∧ waitsB ops x.1 i = false) → Pend P ops X w0 L l (a.put o.dst v) (a'.put o.dst v)
  | [], a, a', h, _ => by rw [show a = a' from h]; rfl
  | (j, u) :: l, a, a', ⟨oj, hoj, hdj, hp⟩, hx => by
    have h2 := hx (j, u) (List.mem_cons_self ..)
    have hap := Oper.apart_spec (okB_pair hB ho hoj (Ne.symm h2.1) h2.2.1 h2.2.2)
    refine ⟨oj, hoj, (Gives.put (okB_select hB hoj) hap.1).2 hdj, ?_⟩
    rw [Act.put_comm a v u hap.2.1]
    exact Pend.put hB ho v hp (fun x hx' => hx x (List.mem_cons_of_mem _ hx'))
theorem Pend.front (hB : okB ops = true) : ∀ {l1 l2 : List (Nat × Value)} {a a' : Act} {i : Nat} {v : Value}, Pend P ops X w0 L (l1 ++ (i, v) :: l2) a a' →
    (∀ x ∈ l1, x.1 ≠ i ∧ waitsB ops i x.1 = false ∧ waitsB ops x.1 i = false) →
    ∃ o, ops[i]? = some o ∧ Gives P ops X w0 L i o v a ∧ Pend P ops X w0 L (l1 ++ l2) (a.put o.dst v) a'
  | [], l2, a, a', i, v, h, _ => h
  | (j, u) :: l1, l2, a, a', i, v, ⟨oj, hoj, hdj, hp⟩, hx => by
    obtain ⟨o, ho, hd, hp'⟩ := Pend.front hB hp (fun x hx' => hx x (List.mem_cons_of_mem _ hx'))
    have h2 := hx (j, u) (List.mem_cons_self ..)
    have hap := Oper.apart_spec (okB_pair hB hoj ho h2.1 h2.2.2 h2.2.1)
    refine ⟨o, ho, (Gives.put (okB_select hB ho) hap.1).1 hd, oj, hoj, (Gives.put (okB_select hB hoj) hap.2.2).2 hdj, ?_⟩
    rw [Act.put_comm a v u (fun d h1 h3 => hap.2.1 d h3 h1)]; exact hp'
theorem count_set_lt {run : Array Bool} {i : Nat} (h : run.getD i true = false) : (run.setIfInBounds i true).toList.count false + 1 = run.toList.count false := by
  have hi : i < run.size := by
    rcases Nat.lt_or_ge i run.size with h' | h'
    · exact h'
    · simp [Array.getElem?_eq_none h'] at h
  have hv : run.toList[i]'(by simpa using hi) = false := by simpa [hi] using h
  have hpos : 0 < run.toList.count false := List.count_pos_iff.2 (hv ▸ List.getElem_mem _)
  rw [Array.toList_setIfInBounds, List.count_set (by simpa using hi)]
  simp only [hv, beq_self_eq_true, if_true]
  rw [if_neg (by decide)]
  omega
theorem getD_set_iff {run : Array Bool} {i k : Nat} (hi : i < run.size) : (run.setIfInBounds i true).getD k false = true ↔ k = i ∨ run.getD k false = true := by
  by_cases h : k = i
  · subst h; simp [hi]
  · have : (run.setIfInBounds i true).getD k false = run.getD k false := by
      simp [Array.getElem?_setIfInBounds_ne (Ne.symm h)]
    rw [this]; simp [h]
theorem ready_lt {run : Array Bool} {i : Nat} (h : i ∈ Region.ready .any ops run) : i < ops.size ∧ run.getD i true = false := by
  obtain ⟨h1, o, ho, _⟩ := mem_ready.1 h
  exact ⟨(Array.getElem?_eq_some_iff.1 ho).1, h1⟩
theorem getD_tf {run : Array Bool} {i : Nat} (hi : i < run.size) : run.getD i true = run.getD i false := by
  simp [hi]
theorem ready_iff {run : Array Bool} {i : Nat} : i ∈ Region.ready .any ops run ↔ run.getD i true = false ∧ i < ops.size ∧ ∀ k, waitsB ops i k = true → run.getD k false = true := by
  constructor
  · intro h
    exact ⟨(ready_lt h).2, (ready_lt h).1, fun k hk => waits_listed h hk⟩
  · intro ⟨h1, h2, h3⟩
    refine mem_ready.2 ⟨h1, ops[i], by simp [h2], fun e he hb => ?_⟩
    refine h3 e.on ?_
    unfold waitsB
    simp only [Array.getElem?_eq_getElem h2]
    exact Array.any_eq_true'.2 ⟨e, he, by simp [hb]⟩
structure St (ops : Array Oper) (full run : Array Bool) (l : List (Nat × Value)) : Prop where
  fs : full.size = ops.size
  rs : run.size = ops.size
  iff : ∀ k, full.getD k false = true ↔ run.getD k false = true ∨ k ∈ l.map (·.1)
  off : ∀ x ∈ l, run.getD x.1 false = false ∧ x.1 < ops.size
  ord : ∀ l1 x l2, l = l1 ++ x :: l2 → x.1 ∉ l1.map (·.1) ∧ ∀ k, waitsB ops x.1 k = true → run.getD k false = true ∨ k ∈ l1.map (·.1)
  cl : ∀ j, run.getD j false = true → ∀ k, waitsB ops j k = true → run.getD k false = true
theorem St.snoc {full run : Array Bool} {l : List (Nat × Value)} (h : St ops full run l) {i : Nat} (v : Value) (hr : i ∈ Region.ready .any ops full) : St ops (full.setIfInBounds i true) run (l ++ [(i, v)]) := by
  obtain ⟨hi, hlt, hw⟩ := ready_iff.1 hr
  have hif : full.getD i false = false := by rw [← getD_tf (by rw [h.fs]; exact hlt)]; exact hi
  have hni : ¬ (run.getD i false = true ∨ i ∈ l.map (·.1)) := fun hh => by rw [(h.iff i).2 hh] at hif; cases hif
  refine ⟨by simp [h.fs], h.rs, fun k => ?_, fun x hx => ?_, fun l1 x l2 he => ?_, h.cl⟩
  · rw [getD_set_iff (by rw [h.fs]; exact hlt), h.iff k]
    simp only [List.map_append, List.map_cons, List.map_nil, List.mem_append, List.mem_singleton]
    constructor
    · rintro (h1 | h1 | h1)
      · exact .inr (.inr h1)
      · exact .inl h1
      · exact .inr (.inl h1)
    · rintro (h1 | h1 | h1)
      · exact .inr (.inl h1)
      · exact .inr (.inr h1)
      · exact .inl h1
  · rcases List.mem_append.1 hx with hx | hx
    · exact h.off x hx
    · have : x = (i, v) := by simpa using hx
      subst this
      exact ⟨by cases hc : run.getD i false with | false => rfl | true => exact absurd (.inl hc) hni, hlt⟩
  · rcases List.eq_nil_or_concat l2 with rfl | ⟨l3, y, rfl⟩
    · have he' : l ++ [(i, v)] = l1 ++ [x] := he
      obtain ⟨rfl, hx⟩ := List.append_inj' he' rfl
      have : (i, v) = x := by simpa using hx
      subst this
      exact ⟨fun hh => hni (.inr hh), fun k hk => (h.iff k).1 (hw k hk)⟩
    · have he' : l ++ [(i, v)] = (l1 ++ x :: l3) ++ [y] := by simpa using he
      obtain ⟨hl, _⟩ := List.append_inj' he' rfl
      exact h.ord l1 x l3 hl
theorem St.done {full run : Array Bool} {l1 l2 : List (Nat × Value)} {i : Nat} {v : Value} (h : St ops full run (l1 ++ (i, v) :: l2)) (hri : ∀ k, waitsB ops i k = true → run.getD k false = true) : St ops full (run.setIfInBounds i true) (l1 ++ l2) := by
  have hoff := h.off (i, v) (by simp)
  have hlt : i < run.size := by rw [h.rs]; exact hoff.2
  have hn1 := (h.ord l1 (i, v) l2 rfl).1
  have hn2 : i ∉ l2.map (·.1) := by
    intro hm
    obtain ⟨x, hx, hxi⟩ := List.mem_map.1 hm
    obtain ⟨s, t, rfl⟩ := List.append_of_mem hx
    have := (h.ord (l1 ++ (i, v) :: s) x t (by simp)).1
    apply this
    rw [hxi]
    simp
  refine ⟨h.fs, by simp [h.rs], fun k => ?_, fun x hx => ?_, fun s x t he => ?_, fun j hj k hk => (getD_set_iff hlt).2 (.inr ?_)⟩
  · rw [getD_set_iff hlt, h.iff k]
    simp only [List.map_append, List.map_cons, List.mem_append, List.mem_cons]
    constructor
    · rintro (h1 | h1 | h1 | h1)
      · exact .inl (.inr h1)
      · exact .inr (.inl h1)
      · exact .inl (.inl h1)
      · exact .inr (.inr h1)
    · rintro ((h1 | h1) | h1 | h1)
      · exact .inr (.inr (.inl h1))
      · exact .inl h1
      · exact .inr (.inl h1)
      · exact .inr (.inr (.inr h1))
  · have hx' : x ∈ l1 ++ (i, v) :: l2 := by
      rcases List.mem_append.1 hx with hx | hx
      · exact List.mem_append_left _ hx
      · exact List.mem_append_right _ (List.mem_cons_of_mem _ hx)
    have ho := h.off x hx'
    have hne : x.1 ≠ i := by
      intro e
      rcases List.mem_append.1 hx with hx | hx
      · exact hn1 (List.mem_map.2 ⟨x, hx, e⟩)
      · exact hn2 (List.mem_map.2 ⟨x, hx, e⟩)
    refine ⟨?_, ho.2⟩
    cases hc : (run.setIfInBounds i true).getD x.1 false with
    | false => rfl
    | true =>
      rcases (getD_set_iff hlt).1 hc with h1 | h1
      · exact absurd h1 hne
      · rw [ho.1] at h1; cases h1
  · -- where does x stand
    have key : ∀ s' : List (Nat × Value), (∀ y, y ∈ s'.map (·.1) → y = i ∨ y ∈ s.map (·.1)) → (∀ y, y ∈ s.map (·.1) → y ∈ s'.map (·.1)) → (∃ t', l1 ++ (i, v) :: l2 = s' ++ x :: t') →
        x.1 ∉ s.map (·.1) ∧ ∀ k, waitsB ops x.1 k = true → (run.setIfInBounds i true).getD k false = true ∨ k ∈ s.map (·.1) := by
      intro s' hs1 hs2 ⟨t', ht⟩
      obtain ⟨h1, h2⟩ := h.ord s' x t' ht
      refine ⟨fun hm => h1 (hs2 _ hm), fun k hk => ?_⟩
      rcases h2 k hk with h3 | h3
      · exact .inl ((getD_set_iff hlt).2 (.inr h3))
      · rcases hs1 k h3 with rfl | h4
        · exact .inl ((getD_set_iff hlt).2 (.inl rfl))
        · exact .inr h4
    rcases List.append_eq_append_iff.1 he with ⟨u, hu1, hu2⟩ | ⟨u, hu1, hu2⟩
    · -- s = l1 ++ u, l2 = u ++ x :: t
      refine key (l1 ++ (i, v) :: u) ?_ ?_ ⟨t, by rw [hu2]; simp⟩
      · intro y hy
        rw [hu1]
        simp only [List.map_append, List.map_cons, List.mem_append, List.mem_cons] at hy ⊢
        rcases hy with hy | hy | hy
        · exact .inr (.inl hy)
        · exact .inl hy
        · exact .inr (.inr hy)
      · intro y hy
        rw [hu1] at hy
        simp only [List.map_append, List.map_cons, List.mem_append, List.mem_cons] at hy ⊢
        rcases hy with hy | hy
        · exact .inl hy
        · exact .inr (.inr hy)
    · -- l1 = s ++ u, x :: t = u ++ l2
      cases u with
      | nil =>
        simp only [List.append_nil, List.nil_append] at hu1 hu2
        subst hu1
        refine key (l1 ++ [(i, v)]) ?_ ?_ ⟨t, by rw [hu2]; simp⟩
        · intro y hy
          simp only [List.map_append, List.map_cons, List.map_nil, List.mem_append, List.mem_singleton] at hy
          rcases hy with hy | hy
          · exact .inr hy
          · exact .inl hy
        · intro y hy
          simp only [List.map_append, List.mem_append]
          exact .inl hy
      | cons y u =>
        simp only [List.cons_append, List.cons.injEq] at hu2
        obtain ⟨rfl, hu2⟩ := hu2
        exact key s (fun y hy => .inr hy) (fun y hy => hy) ⟨u ++ (i, v) :: l2, by rw [hu1]; simp⟩
  · rcases (getD_set_iff hlt).1 hj with rfl | h1
    · exact hri k hk
    · exact h.cl j h1 k hk
theorem St.acted {full run : Array Bool} {l : List (Nat × Value)} (h : St ops full run l) {i : Nat} (hr : i ∈ Region.ready .any ops full) (hri : ∀ k, waitsB ops i k = true → run.getD k false = true) : St ops (full.setIfInBounds i true) (run.setIfInBounds i true) l := by
  have := (h.snoc (.bool true) hr).done (l1 := l) (l2 := []) hri
  simpa using this
theorem St.free {full run : Array Bool} {l : List (Nat × Value)} (h : St ops full run l) {i : Nat} (hr : i ∈ Region.ready .any ops run) (hn : i ∉ l.map (·.1)) :
    ∀ x ∈ l, x.1 ≠ i ∧ waitsB ops i x.1 = false ∧ waitsB ops x.1 i = false := by
  intro x hx
  obtain ⟨hi, hlt, hw⟩ := ready_iff.1 hr
  refine ⟨fun e => hn (List.mem_map.2 ⟨x, hx, e⟩), ?_, ?_⟩
  · cases hc : waitsB ops i x.1 with
    | false => rfl
    | true => have h1 := hw _ hc; rw [(h.off x hx).1] at h1; cases h1
  · cases hc : waitsB ops x.1 i with
    | false => rfl
    | true =>
      obtain ⟨s, t, rfl⟩ := List.append_of_mem hx
      rcases (h.ord s x t rfl).2 i hc with h1 | h1
      · rw [getD_tf (by rw [h.rs]; exact hlt), h1] at hi; cases hi
      · exact absurd (by simp only [List.map_append, List.mem_append]; exact .inl h1) hn
theorem St.free_mid {full run : Array Bool} {l1 l2 : List (Nat × Value)} {i : Nat} {v : Value} (h : St ops full run (l1 ++ (i, v) :: l2)) (hr : i ∈ Region.ready .any ops run) :
    ∀ x ∈ l1, x.1 ≠ i ∧ waitsB ops i x.1 = false ∧ waitsB ops x.1 i = false := by
  intro x hx
  obtain ⟨hi, hlt, hw⟩ := ready_iff.1 hr
  obtain ⟨s, t, rfl⟩ := List.append_of_mem hx
  have ho := h.ord s x (t ++ (i, v) :: l2) (by simp)
  have hoi := h.ord (s ++ x :: t) (i, v) l2 rfl
  refine ⟨fun e => hoi.1 (List.mem_map.2 ⟨x, by simp, e⟩), ?_, ?_⟩
  · cases hc : waitsB ops i x.1 with
    | false => rfl
    | true => have h1 := hw _ hc; rw [(h.off x (by simp)).1] at h1; cases h1
  · cases hc : waitsB ops x.1 i with
    | false => rfl
    | true =>
      rcases ho.2 i hc with h1 | h1
      · rw [getD_tf (by rw [h.rs]; exact hlt), h1] at hi; cases hi
      · exfalso
        apply hoi.1
        simp only [List.map_append, List.map_cons, List.mem_append, List.mem_cons]
        exact .inl h1
theorem St.ready_full {full run : Array Bool} {l : List (Nat × Value)} (h : St ops full run l) {i : Nat} (hr : i ∈ Region.ready .any ops run) (hn : i ∉ l.map (·.1)) : i ∈ Region.ready .any ops full := by
  obtain ⟨hi, hlt, hw⟩ := ready_iff.1 hr
  refine ready_iff.2 ⟨?_, hlt, fun k hk => (h.iff k).2 (.inl (hw k hk))⟩
  rw [getD_tf (by rw [h.fs]; exact hlt)]
  cases hc : full.getD i false with
  | false => rfl
  | true =>
    rcases (h.iff i).1 hc with h1 | h1
    · rw [getD_tf (by rw [h.rs]; exact hlt), h1] at hi; cases hi
    · exact absurd h1 hn
def UpTo (C : World → Prop) : Prop := ∀ w w', C w → Ext w w' → C w'
theorem St.ready_back {full run : Array Bool} (h : St ops full run []) {i : Nat} (hi : i ∈ Region.ready .any ops full) : i ∈ Region.ready .any ops run := by
  obtain ⟨h1, h2, h3⟩ := ready_iff.1 hi
  refine ready_iff.2 ⟨?_, h2, fun k hk => ?_⟩
  · rw [getD_tf (by rw [h.rs]; exact h2)]
    cases hc : run.getD i false with
    | false => rfl
    | true => have := (h.iff i).2 (.inl hc); rw [getD_tf (by rw [h.fs]; exact h2), this] at h1; cases h1
  · rcases (h.iff k).1 (h3 k hk) with h4 | h4
    · exact h4
    · simp at h4
theorem St.waited {full run : Array Bool} {l : List (Nat × Value)} (h : St ops full run l) {i j : Nat} (hi : i ∈ Region.ready .any ops run) (hw : waits2 ops i j) : run.getD j false = true := by
  have hri := ready_iff.1 hi
  rcases hw with h1 | ⟨k, h1, h2⟩
  · exact hri.2.2 j h1
  · exact h.cl k (hri.2.2 k h1) j h2
theorem flow_any (hB : okB ops = true) {Q : Exit → Act → World → Prop} : ∀ (fuel : Nat) {X : Nat → Prop} {L : List Nat} {full : Array Bool} {C : World → Prop} {aF : Act}, Flow P ops w0 (Q .normal) X L full C aF → UpTo C →
    ∀ (l : List (Nat × Value)) (run : Array Bool) (a : Act) (w : World), St ops full run l → Pend P ops X w0 L l a aF → C w → Keep X w0 w → run.toList.count false ≤ fuel → wpAny P .any ops Q fuel run a w := by
  -- nothing more may come
  have hend : ∀ {X : Nat → Prop} {L : List Nat} {full : Array Bool} {C : World → Prop} {aF : Act}, Flow P ops w0 (Q .normal) X L full C aF → ∀ (l : List (Nat × Value)) (run : Array Bool) (a : Act) (w : World), St ops full run l → Pend P ops X w0 L l a aF → C w → Keep X w0 w →
      Region.ready .any ops run = [] → Q .normal a w := by
    intro X L full C aF hf l run a w hs hp hC hk hr
    cases l with
    | cons x l =>
      exfalso
      have hoff := hs.off x (by simp)
      have : x.1 ∈ Region.ready .any ops run := ready_iff.2 ⟨by rw [getD_tf (by rw [hs.rs]; exact hoff.2)]; exact hoff.1, hoff.2, fun k hk => by
        rcases (hs.ord [] x l rfl).2 k hk with h1 | h1
        · exact h1
        · simp at h1⟩
      rw [hr] at this
      cases this
    | nil =>
      have hp' : a = aF := hp
      subst hp'
      have hno : ∀ i, i ∈ Region.ready .any ops full → False := fun i hi => by
        have := hs.ready_back hi
        rw [hr] at this
        cases this
      cases hf with
      | fin _ h => exact h w hC hk
      | det i o v _ ho hri h k => exact (hno i hri).elim
      | loose i o v ho hri h k => exact (hno i hri).elim
      | act O R hn ho h k =>
        obtain ⟨i, hi⟩ := List.exists_mem_of_ne_nil _ hn
        exact (hno i hi).elim
      | turn Y i o R ho hri hw h k => exact (hno i (by rw [hri]; simp)).elim
      | last i o R ho hri hall h k => exact (hno i (by rw [hri]; simp)).elim
  intro fuel
  induction fuel with
  | zero =>
    intro X L full C aF hf hup l run a w hs hp hC hk hcnt
    have hr : Region.ready .any ops run = [] := by
      refine List.eq_nil_iff_forall_not_mem.2 fun i hi => ?_
      have := count_set_lt (ready_lt hi).2
      omega
    exact ⟨hr, hend hf l run a w hs hp hC hk hr⟩
  | succ fuel ih =>
    intro X L full C aF hf hup l run a w hs hp hC hk hcnt
    refine ⟨hend hf l run a w hs hp hC hk, fun i hi => ?_⟩
    have hcnt' : (run.setIfInBounds i true).toList.count false ≤ fuel := by have := count_set_lt (ready_lt hi).2; omega
    -- one that pends
    have hpend : ∀ {X : Nat → Prop} {L : List Nat} {full : Array Bool} {C : World → Prop} {aF : Act}, Flow P ops w0 (Q .normal) X L full C aF → UpTo C → Keep X w0 w → ∀ (l : List (Nat × Value)), St ops full run l → Pend P ops X w0 L l a aF → C w → i ∈ l.map (·.1) →
        wpOp P ops Q i (wpAny P .any ops Q fuel (run.setIfInBounds i true)) a w := by
      intro X L full C aF hf hup hk l hs hp hC hm
      obtain ⟨x, hx, hxi⟩ := List.mem_map.1 hm
      obtain ⟨l1, l2, rfl⟩ := List.append_of_mem hx
      obtain ⟨j, v⟩ := x
      have : j = i := hxi
      subst this
      obtain ⟨o, ho, hd, hp'⟩ := Pend.front hB hp (hs.free_mid hi)
      refine wpOp_of_does ho (hd.1 w hk) fun v' w' ⟨hv, he⟩ => ?_
      subst hv
      exact ih hf hup (l1 ++ l2) _ _ w' (hs.done (ready_iff.1 hi).2.2) hp' (hup _ _ hC he) (hk.trans (he.keep X)) hcnt'
    suffices H : ∀ {X : Nat → Prop} {L : List Nat} {full : Array Bool} {C : World → Prop} {aF : Act}, Flow P ops w0 (Q .normal) X L full C aF → UpTo C → Keep X w0 w → ∀ (l : List (Nat × Value)), St ops full run l → Pend P ops X w0 L l a aF → C w →
        wpOp P ops Q i (wpAny P .any ops Q fuel (run.setIfInBounds i true)) a w from H hf hup hk l hs hp hC
    intro X L full C aF hf
    induction hf with
    | fin hr h =>
      rename_i X L full C aF
      intro hup hk l hs hp hC
      by_cases hm : i ∈ l.map (·.1)
      · exact hpend (Flow.fin hr h) hup hk l hs hp hC hm
      · have := hs.ready_full hi hm; rw [hr] at this; cases this
    | det j o v hjl ho hr h k ihk =>
      rename_i X L full C aF
      intro hup hk l hs hp hC
      by_cases hm : i ∈ l.map (·.1)
      · exact hpend (Flow.det j o v hjl ho hr h k) hup hk l hs hp hC hm
      · exact ihk hup hk (l ++ [(j, v)]) (hs.snoc v hr) (hp.snoc ho ⟨h, fun hj => absurd hj hjl⟩) hC
    | loose j o v ho hr h k ihk =>
      rename_i X L full C aF
      intro hup hk l hs hp hC
      by_cases hm : i ∈ l.map (·.1)
      · exact hpend (Flow.loose j o v ho hr h k) hup hk l hs hp hC hm
      · have hjn : j ∉ l.map (·.1) := by
          intro hj
          have h1 := (hs.iff j).2 (.inr hj)
          have h2 := (ready_lt hr).2
          rw [getD_tf (by rw [hs.fs]; exact (ready_lt hr).1), h1] at h2
          cases h2
        exact ihk hup hk (l ++ [(j, v)]) (hs.snoc v hr) ((Pend.more j hjn hp).snoc ho ⟨fun w _ => h w, fun _ => h⟩) hC
    | act O R hn ho h k ihk =>
      rename_i X L full C aF
      intro hup hk l hs hp hC
      by_cases hm : i ∈ l.map (·.1)
      · exact hpend (Flow.act O R hn ho h k) hup hk l hs hp hC hm
      · have hrf := hs.ready_full hi hm
        have hfree := hs.free hi hm
        have hd := Pend.does_back hB (ho i hrf) hp hfree (h i hrf w hC hk)
        refine wpOp_of_does (ho i hrf) hd fun v w' ⟨hk', hR⟩ => ?_
        refine ih (k i hrf v ⟨w', hR⟩) ?_ l _ _ w' (hs.acted hrf (ready_iff.1 hi).2.2) (Pend.put hB (ho i hrf) v hp hfree) ⟨w', hR, Ext.refl _⟩ hk' hcnt'
        rintro w1 w2 ⟨w3, h3, h4⟩ h5
        exact ⟨w3, h3, h4.trans h5⟩
    | turn Y j o R ho hr hw h k ihk =>
      rename_i X L full C aF
      intro hup hk l hs hp hC
      by_cases hm : i ∈ l.map (·.1)
      · exact hpend (Flow.turn Y j o R ho hr hw h k) hup hk l hs hp hC hm
      · have hrf := hs.ready_full hi hm
        have hij : i = j := by rw [hr] at hrf; simpa using hrf
        subst hij
        have hfree := hs.free hi hm
        have hd := Pend.does_back hB ho hp hfree (h w hC hk)
        have hloose : ∀ x ∈ l, x.1 ∈ L := by
          intro x hx
          have hoff := hs.off x hx
          rcases hw x.1 ((hs.iff x.1).2 (.inr (List.mem_map.2 ⟨x, hx, rfl⟩))) with h1 | h1
          · exact h1
          · have := hs.waited hi h1; rw [hoff.1] at this; cases this
        refine wpOp_of_does ho hd fun v w' ⟨hk', hR⟩ => ?_
        refine ih (k v ⟨w', hR⟩) ?_ l _ _ w' (hs.acted hrf (ready_iff.1 hi).2.2) (Pend.put hB ho v (Pend.turn hloose hp) hfree) ⟨w', hR, Ext.refl _⟩ hk' hcnt'
        rintro w1 w2 ⟨w3, h3, h4⟩ h5
        exact ⟨w3, h3, h4.trans h5⟩
    | last j o R ho hr hall h k =>
      rename_i X L full C aF
      intro hup hk l hs hp hC
      by_cases hm : i ∈ l.map (·.1)
      · exact hpend (Flow.last j o R ho hr hall h k) hup hk l hs hp hC hm
      · have hrf := hs.ready_full hi hm
        rw [hr] at hrf
        obtain rfl : i = j := by simpa using hrf
        have hri := ready_iff.1 hi
        have hall' : ∀ j, j < ops.size → j ≠ i → run.getD j false = true := fun j hj hne => hs.waited hi (hall j hj hne)
        have hl : l = [] := by
          cases l with
          | nil => rfl
          | cons x l =>
            exfalso
            have hoff := hs.off x (by simp)
            have h1 := hall' x.1 hoff.2 fun e => hm (by simp [e])
            rw [hoff.1] at h1
            cases h1
        subst hl
        have hp' : a = aF := hp
        subst hp'
        refine wpOp_of_does ho (h w hC hk) fun v w' hR => ?_
        have hrn : Region.ready .any ops (run.setIfInBounds i true) = [] := by
          refine List.eq_nil_iff_forall_not_mem.2 fun j hj => ?_
          obtain ⟨h1, h2, _⟩ := ready_iff.1 hj
          have h3 : (run.setIfInBounds i true).getD j false = true := by
            rw [getD_set_iff (by rw [hs.rs]; exact hri.2.1)]
            by_cases e : j = i
            · exact .inl e
            · exact .inr (hall' j h2 e)
          rw [getD_tf (by simpa [hs.rs] using h2), h3] at h1
          cases h1
        have hq := k v w' hR
        cases fuel with
        | zero => exact ⟨hrn, hq⟩
        | succ f => exact ⟨fun _ => hq, fun j hj => by rw [hrn] at hj; cases hj⟩
theorem wp_flow {id : Nat} {Q : Exit → Act → World → Prop} {a : Act} {w : World} (X : Nat → Prop) (hm : P.follows .mixedOrders = true) (hB : okB ops = true)
    (h : Flow P ops w (Q .normal) X [] (Array.replicate ops.size false) (fun w' => Ext w w') a) : (Code.region id ops true).wp P Q a w := by
  refine wp_region_any hm ?_
  have hx : Ext w { w with drawn := w.drawn + 1 } := Ext.drawn _ _
  refine flow_any hB ops.size h (fun _ _ h1 h2 => Ext.trans h1 h2) [] _ a _ ?_ rfl hx (hx.keep X) ?_
  · refine ⟨by simp, by simp, fun k => by simp, fun x hx => by simp at hx, fun l1 x l2 he => by simp at he, fun j hj => ?_⟩
    rcases Nat.lt_or_ge j ops.size with h' | h'
    · simp [h'] at hj
    · simp [Array.getElem?_eq_none, h'] at hj
  · refine Nat.le_trans List.count_le_length ?_
    simp
end
section
variable {P : Program} {ops : Array Oper} {X : Nat → Prop} {w0 : World} {Q : Act → World → Prop}
def lexOk (ops : Array Oper) : Bool := (List.range ops.size).all fun i => (List.range ops.size).all fun k => !waitsB ops i k || decide (k < i)
def edgesIn (ops : Array Oper) : Bool := (List.range ops.size).all fun i => (((ops[i]?).map fun o => o.after.all fun e => !Region.binds .any e || decide (e.on < ops.size))).getD true
def firsts (n k : Nat) : Array Bool := ((List.range n).map fun i => decide (i < k)).toArray
theorem firsts_getD (n k i : Nat) : (firsts n k).getD i false = (decide (i < k) && decide (i < n)) := by
  by_cases h : i < n <;> simp [firsts, h]
theorem firsts_set {n k : Nat} (_h : k < n) : (firsts n k).setIfInBounds k true = firsts n (k + 1) := by
  apply Array.ext
  · simp [firsts]
  · intro i h1 h2
    simp only [firsts, Array.size_setIfInBounds, List.size_toArray, List.length_map, List.length_range] at h1 h2
    rw [Array.getElem_setIfInBounds (by simpa [firsts] using h1)]
    by_cases hk : k = i
    · subst hk; simp [firsts]
    · simp [firsts, hk]; omega
theorem firsts_zero (n : Nat) : firsts n 0 = Array.replicate n false := by
  apply Array.ext
  · simp [firsts]
  · intro i h1 h2; simp [firsts]
theorem lex_ready (h : lexOk ops = true) (he : edgesIn ops = true) {k : Nat} (hk : k < ops.size) : k ∈ Region.ready .any ops (firsts ops.size k) := by
  refine ready_iff.2 ⟨?_, hk, fun j hj => ?_⟩
  · rw [getD_tf (by simpa [firsts] using hk), firsts_getD]; simp
  · have hjs : j < ops.size := by
      simp only [edgesIn, List.all_eq_true, List.mem_range] at he
      have h1 := he k hk
      unfold waitsB at hj
      simp only [Array.getElem?_eq_getElem hk, Option.map_some, Option.getD_some] at h1 hj
      obtain ⟨e, hm, hb⟩ := Array.any_eq_true'.1 hj
      simp only [Bool.and_eq_true, beq_iff_eq] at hb
      have h2 := (Array.all_eq_true'.1 h1) e hm
      simp only [hb.1, Bool.not_true, Bool.false_or, decide_eq_true_eq] at h2
      omega
    simp only [lexOk, List.all_eq_true, List.mem_range, Bool.or_eq_true, Bool.not_eq_true', decide_eq_true_eq] at h
    have hlt : j < k := by
      rcases h k hk j hjs with h3 | h3
      · rw [h3] at hj; cases hj
      · exact h3
    rw [firsts_getD]; simp [hlt, hjs]
def FlowT (P : Program) (ops : Array Oper) (X : Nat → Prop) (w0 : World) (Q : Act → World → Prop) (L : List Nat) (rest : List Oper) (C : World → Prop) (a : Act) : Prop :=
  ∀ k, k + rest.length = ops.size → (∀ j, rest[j]? = ops[k + j]?) → lexOk ops = true → edgesIn ops = true → (∀ j ∈ L, j < k) → Flow P ops w0 Q X L (firsts ops.size k) C a
variable {L : List Nat}
theorem FlowT.fin {C : World → Prop} {a : Act} (h : ∀ w, C w → Keep X w0 w → Q a w) : FlowT P ops X w0 Q L [] C a := by
  intro k hk hl _ _ _
  have hk' : k = ops.size := by simpa using hk
  refine Flow.fin (List.eq_nil_iff_forall_not_mem.2 fun i hi => ?_) h
  obtain ⟨h1, h2, _⟩ := ready_iff.1 hi
  rw [getD_tf (by simpa [firsts] using h2), firsts_getD] at h1
  simp [hk', h2] at h1
theorem FlowT.det {C : World → Prop} {a : Act} {o : Oper} {rest : List Oper} (v : Value) (h : ∀ w, Keep X w0 w → does P ops o a w fun v' w' => v' = v ∧ Ext w w')
    (k : FlowT P ops X w0 Q L rest C (a.put o.dst v)) : FlowT P ops X w0 Q L (o :: rest) C a := by
  intro n hn hl hx he hL
  have hns : n < ops.size := by simp at hn; omega
  have ho : ops[n]? = some o := by have := hl 0; simpa using this.symm
  refine Flow.det n o v (fun hm => by have := hL n hm; omega) ho (lex_ready hx he hns) h ?_
  rw [firsts_set hns]
  exact k (n + 1) (by simp at hn; omega) (fun j => by have := hl (j + 1); rw [show n + 1 + j = n + (j + 1) by omega]; simpa using this) hx he (fun j hj => by have := hL j hj; omega)
theorem FlowT.loose {C : World → Prop} {a : Act} {o : Oper} {rest : List Oper} (v : Value) (n : Nat) (hn : n + (o :: rest).length = ops.size) (h : ∀ w, does P ops o a w fun v' w' => v' = v ∧ Ext w w')
    (k : FlowT P ops X w0 Q (n :: L) rest C (a.put o.dst v)) : FlowT P ops X w0 Q L (o :: rest) C a := by
  intro n' hn' hl hx he hL
  obtain rfl : n' = n := by omega
  have hns : n' < ops.size := by simp at hn; omega
  have ho : ops[n']? = some o := by have := hl 0; simpa using this.symm
  refine Flow.loose n' o v ho (lex_ready hx he hns) h ?_
  rw [firsts_set hns]
  exact k (n' + 1) (by simp at hn; omega) (fun j => by have := hl (j + 1); rw [show n' + 1 + j = n' + (j + 1) by omega]; simpa using this) hx he (fun j hj => by
    rcases List.mem_cons.1 hj with rfl | hj
    · omega
    · have := hL j hj; omega)
def aloneB (ops : Array Oper) (k : Nat) : Bool := Region.ready .any ops (firsts ops.size k) == [k]
theorem FlowT.act {C : World → Prop} {a : Act} {o : Oper} {rest : List Oper} (R : Value → World → Prop) (n : Nat) (hn : n + (o :: rest).length = ops.size) (hal : aloneB ops n = true)
    (h : ∀ w, C w → Keep X w0 w → does P ops o a w fun v w' => Keep X w0 w' ∧ R v w')
    (k : ∀ v, (∃ w, R v w) → FlowT P ops X w0 Q L rest (fun w => ∃ w1, R v w1 ∧ Ext w1 w) (a.put o.dst v)) : FlowT P ops X w0 Q L (o :: rest) C a := by
  intro n' hn' hl hx he hL
  obtain rfl : n' = n := by omega
  have hns : n' < ops.size := by simp at hn; omega
  have ho : ops[n']? = some o := by have := hl 0; simpa using this.symm
  have hr : Region.ready .any ops (firsts ops.size n') = [n'] := by simpa [aloneB] using hal
  refine Flow.act (fun _ => o) (fun _ => R) (by rw [hr]; simp) (fun i hi => ?_) (fun i hi => h) (fun i hi v hv => ?_)
  · rw [hr] at hi; obtain rfl : i = n' := by simpa using hi
    exact ho
  · rw [hr] at hi; obtain rfl : i = n' := by simpa using hi
    rw [firsts_set hns]
    exact k v hv (i + 1) (by simp at hn; omega) (fun j => by have := hl (j + 1); rw [show i + 1 + j = i + (j + 1) by omega]; simpa using this) hx he (fun j hj => by have := hL j hj; omega)
def waits2B (ops : Array Oper) (n j : Nat) : Bool := waitsB ops n j || (List.range ops.size).any fun k => waitsB ops n k && waitsB ops k j
theorem waits2_of {n j : Nat} (h : waits2B ops n j = true) : waits2 ops n j := by
  simp only [waits2B, Bool.or_eq_true] at h
  refine h.imp id fun h1 => ?_
  obtain ⟨k, _, h2⟩ := List.any_eq_true.1 h1
  simp only [Bool.and_eq_true] at h2
  exact ⟨k, h2⟩
def turnB (ops : Array Oper) (n : Nat) (L : List Nat) : Bool := (List.range n).all fun j => L.contains j || waits2B ops n j
theorem FlowT.turn {C : World → Prop} {a : Act} {o : Oper} {rest : List Oper} (Y : Nat → Prop) (R : Value → World → Prop) (n : Nat) (hn : n + (o :: rest).length = ops.size) (hal : aloneB ops n = true) (ht : turnB ops n L = true)
    (h : ∀ w, C w → Keep X w0 w → does P ops o a w fun v w' => Keep Y w0 w' ∧ R v w')
    (k : ∀ v, (∃ w, R v w) → FlowT P ops Y w0 Q L rest (fun w => ∃ w1, R v w1 ∧ Ext w1 w) (a.put o.dst v)) : FlowT P ops X w0 Q L (o :: rest) C a := by
  intro n' hn' hl hx he hL
  obtain rfl : n' = n := by omega
  have hns : n' < ops.size := by simp at hn; omega
  have ho : ops[n']? = some o := by have := hl 0; simpa using this.symm
  have hr : Region.ready .any ops (firsts ops.size n') = [n'] := by simpa [aloneB] using hal
  refine Flow.turn Y n' o R ho hr (fun j hj => ?_) h (fun v hv => ?_)
  · rw [firsts_getD] at hj
    simp only [Bool.and_eq_true, decide_eq_true_eq] at hj
    simp only [turnB, List.all_eq_true, List.mem_range, Bool.or_eq_true, List.contains_iff_mem] at ht
    exact (ht j hj.1).imp id waits2_of
  · rw [firsts_set hns]
    exact k v hv (n' + 1) (by simp at hn; omega) (fun j => by have := hl (j + 1); rw [show n' + 1 + j = n' + (j + 1) by omega]; simpa using this) hx he (fun j hj => by have := hL j hj; omega)
def sinkAllB (ops : Array Oper) (n : Nat) : Bool := (List.range ops.size).all fun j => decide (j = n) || waits2B ops n j
theorem FlowT.last {C : World → Prop} {a : Act} {o : Oper} (R : Value → World → Prop) (n : Nat) (hn : n + 1 = ops.size) (hal : aloneB ops n = true) (hs : sinkAllB ops n = true)
    (h : ∀ w, C w → Keep X w0 w → does P ops o a w R) (k : ∀ v w', R v w' → Q (a.put o.dst v) w') : FlowT P ops X w0 Q L [o] C a := by
  intro n' hn' hl hx he hL
  obtain rfl : n' = n := by simp at hn'; omega
  have hns : n' < ops.size := by omega
  have ho : ops[n']? = some o := by have := hl 0; simpa using this.symm
  have hr : Region.ready .any ops (firsts ops.size n') = [n'] := by simpa [aloneB] using hal
  refine Flow.last n' o R ho hr (fun j hj hne => ?_) h k
  simp only [sinkAllB, List.all_eq_true, List.mem_range, Bool.or_eq_true, decide_eq_true_eq] at hs
  exact waits2_of ((hs j hj).resolve_left hne)
def regionOk (ops : Array Oper) : Bool := okB ops && (lexOk ops && edgesIn ops)
theorem wp_flowT {id : Nat} {Q : Exit → Act → World → Prop} {a : Act} {w : World} {l : List Oper} (X : Nat → Prop) (hm : P.follows .mixedOrders = true) (hB : regionOk l.toArray = true)
    (h : FlowT P l.toArray X w (Q .normal) [] l (fun w' => Ext w w') a) : (Code.region id l.toArray true).wp P Q a w := by
  simp only [regionOk, Bool.and_eq_true] at hB
  refine wp_flow X hm hB.1 ?_
  rw [← firsts_zero]
  exact h 0 (by simp) (fun j => by simp) hB.2.1 hB.2.2 (fun j hj => by simp at hj)
end
theorem hid {p : Prop} (h : p) : Hid p := h
attribute [go_sem] Oper.doesUpon_value Oper.doesUpon_skip
def DetR (v : Value) (w : World) : Value → World → Prop := fun v' w' => v' = v ∧ Ext w w'
def CallR (R : Value → World → Prop) : Ending → World → Prop := fun e w => ∃ v, e = .returned v ∧ R v w
theorem DetR.mk {v : Value} {w : World} : DetR v w v w := ⟨rfl, Ext.refl _⟩
theorem doesUpon_enter' {P : Program} (R : Value → World → Prop) (f : FuncId) (args : Array Value) (w : World) : Oper.doesUpon P R (.ok (.enter f args) w) = Calls P f args w (CallR R) := rfl
attribute [go_sem] doesUpon_enter'
section
variable {P : Program} {ops : Array Oper} {X : Nat → Prop} {w0 : World} {Q : Act → World → Prop} {L : List Nat}
theorem FlowT.d {C : World → Prop} {a : Act} {o : Oper} {rest : List Oper} (v : Value) (h : ∀ w, Keep X w0 w → does P ops o a w (DetR v w))
    (k : FlowT P ops X w0 Q L rest C (a.put o.dst v)) : FlowT P ops X w0 Q L (o :: rest) C a := FlowT.det v h k
def ActR (X : Nat → Prop) (w0 : World) (R : Value → World → Prop) : Value → World → Prop := fun v w' => Keep X w0 w' ∧ R v w'
theorem FlowT.a {C : World → Prop} {a : Act} {o : Oper} {rest : List Oper} (R : Value → World → Prop) (n : Nat) (hn : n + (o :: rest).length = ops.size) (hal : aloneB ops n = true)
    (h : ∀ w, C w → Keep X w0 w → does P ops o a w (ActR X w0 R))
    (k : ∀ v, (∃ w, R v w) → FlowT P ops X w0 Q L rest (fun w => ∃ w1, R v w1 ∧ Ext w1 w) (a.put o.dst v)) : FlowT P ops X w0 Q L (o :: rest) C a := FlowT.act R n hn hal h k
theorem Flow.mono {full : Array Bool} {C : World → Prop} {a : Act} (h : Flow P ops w0 Q X L full C a) : ∀ {C' : World → Prop}, (∀ w, C' w → C w) → Flow P ops w0 Q X L full C' a := by
  induction h with
  | fin hr h => exact fun hc => Flow.fin hr fun w hw => h w (hc w hw)
  | det i o v hL ho hr h k ih => exact fun hc => Flow.det i o v hL ho hr h (ih hc)
  | loose i o v ho hr h k ih => exact fun hc => Flow.loose i o v ho hr h (ih hc)
  | act O R hn ho h k ih => exact fun hc => Flow.act O R hn ho (fun i hi w hw => h i hi w (hc w hw)) k
  | turn Y i o R ho hr hw h k ih => exact fun hc => Flow.turn Y i o R ho hr hw (fun w hw => h w (hc w hw)) k
  | last i o R ho hr hall h k => exact fun hc => Flow.last i o R ho hr hall (fun w hw => h w (hc w hw)) k
theorem FlowT.s {C : World → Prop} {a : Act} {o : Oper} {rest : List Oper} (R : Value → World → Prop) (n : Nat) (hn : n + (o :: rest).length = ops.size) (hal : aloneB ops n = true)
    (hR : ∀ v w w', R v w → Ext w w' → R v w') (h : ∀ w, C w → Keep X w0 w → does P ops o a w (ActR X w0 R))
    (k : ∀ v, (∃ w, R v w) → FlowT P ops X w0 Q L rest (R v) (a.put o.dst v)) : FlowT P ops X w0 Q L (o :: rest) C a :=
  FlowT.act R n hn hal h fun v hv k' h1 h2 h3 h4 h5 => Flow.mono (k v hv k' h1 h2 h3 h4 h5) fun _ ⟨_, hw, he⟩ => hR _ _ _ hw he
theorem FlowT.l {C : World → Prop} {a : Act} {o : Oper} {rest : List Oper} {v : Value} (n : Nat) (hn : n + (o :: rest).length = ops.size) (h : ∀ w, does P ops o a w (DetR v w))
    (k : FlowT P ops X w0 Q (n :: L) rest C (a.put o.dst v)) : FlowT P ops X w0 Q L (o :: rest) C a := FlowT.loose v n hn h k
theorem FlowT.t {C : World → Prop} {a : Act} {o : Oper} {rest : List Oper} (Y : Nat → Prop) (R : Value → World → Prop) (n : Nat) (hn : n + (o :: rest).length = ops.size) (hal : aloneB ops n = true) (ht : turnB ops n L = true)
    (hR : ∀ v w w', R v w → Ext w w' → R v w') (h : ∀ w, C w → Keep X w0 w → does P ops o a w (ActR Y w0 R))
    (k : ∀ v, (∃ w, R v w) → FlowT P ops Y w0 Q L rest (R v) (a.put o.dst v)) : FlowT P ops X w0 Q L (o :: rest) C a :=
  FlowT.turn Y R n hn hal ht h fun v hv k' h1 h2 h3 h4 h5 => Flow.mono (k v hv k' h1 h2 h3 h4 h5) fun _ ⟨_, hw, he⟩ => hR _ _ _ hw he
theorem FlowT.v {C : World → Prop} {a : Act} {o : Oper} {rest : List Oper} (v : Value) (R : World → Prop) (n : Nat) (hn : n + (o :: rest).length = ops.size) (hal : aloneB ops n = true)
    (hR : ∀ w w', R w → Ext w w' → R w') (h : ∀ w, C w → Keep X w0 w → does P ops o a w (ActR X w0 fun v' w' => v' = v ∧ R w'))
    (k : FlowT P ops X w0 Q L rest R (a.put o.dst v)) : FlowT P ops X w0 Q L (o :: rest) C a :=
  FlowT.act (fun v' w' => v' = v ∧ R w') n hn hal h fun v' ⟨_, hv, _⟩ k' h1 h2 h3 h4 h5 => by
    subst hv
    exact Flow.mono (k k' h1 h2 h3 h4 h5) fun _ ⟨_, hw, he⟩ => hR _ _ hw.2 he
theorem Flow.acts {listed : Array Bool} {C : World → Prop} {a : Act} (rs : List Nat) (hr : (Region.ready .any ops listed == rs) = true) (hne : rs ≠ []) (O : Nat → Oper) (R : Nat → Value → World → Prop)
    (hR : ∀ i v w w', R i v w → Ext w w' → R i v w') (h : ∀ i ∈ rs, ops[i]? = some (O i) ∧ ∀ w, C w → Keep X w0 w → does P ops (O i) a w (ActR X w0 (R i)))
    (k : ∀ i ∈ rs, ∀ v, (∃ w, R i v w) → Flow P ops w0 Q X L (listed.setIfInBounds i true) (R i v) (a.put (O i).dst v)) : Flow P ops w0 Q X L listed C a := by
  have hr' : Region.ready .any ops listed = rs := by simpa using hr
  refine Flow.act O R (by rw [hr']; exact hne) (fun i hi => (h i (by rwa [hr'] at hi)).1) (fun i hi => (h i (by rwa [hr'] at hi)).2) (fun i hi v hv => ?_)
  exact Flow.mono (k i (by rwa [hr'] at hi) v hv) fun _ ⟨_, hw, he⟩ => hR _ _ _ _ hw he
theorem Flow.d {listed : Array Bool} {C : World → Prop} {a : Act} {v : Value} (i : Nat) (o : Oper) (ho : ops[i]? = some o) (hL : i ∉ L) (hr : (Region.ready .any ops listed).contains i = true)
    (h : ∀ w, Keep X w0 w → does P ops o a w (DetR v w)) (k : Flow P ops w0 Q X L (listed.setIfInBounds i true) C (a.put o.dst v)) : Flow P ops w0 Q X L listed C a :=
  Flow.det i o v hL ho (by simpa using hr) h k
theorem CallR.det {f : FuncId} {args : Array Value} {w : World} {v : Value} (h : Calls P f args w fun e w' => e = .returned v ∧ Ext w w') : Calls P f args w (CallR (DetR v w)) :=
  h.mono fun _ _ ⟨he, hx⟩ => ⟨v, he, rfl, hx⟩
theorem CallR.act {f : FuncId} {args : Array Value} {w : World} {R : Value → World → Prop} (h : Calls P f args w fun e w' => ∃ v, e = .returned v ∧ Keep X w0 w' ∧ R v w') : Calls P f args w (CallR (ActR X w0 R)) := h
end
def Blk (w : World) (b : Nat) (c : Array Value) (e : TypeId) : Prop := w.heap[b]? = some (.cells c e (0, 0))
theorem Blk.cell {w : World} {b : Nat} {c : Array Value} {e : TypeId} (h : Blk w b c e) (i : Nat) : w.cell? ⟨b, i, none⟩ = c[i]? := by
  unfold Blk at h; simp [World.cell?, h]
theorem Blk.free {w : World} {b : Nat} {c : Array Value} {e : TypeId} (h : Blk w b c e) (i : Nat) : w.frozen? ⟨b, i, none⟩ = false := by
  unfold Blk at h; simp [World.frozen?, h]
theorem Blk.lt {w : World} {b : Nat} {c : Array Value} {e : TypeId} (h : Blk w b c e) : b < w.heap.size := (Array.getElem?_eq_some_iff.1 h).1
theorem Blk.ext {w w' : World} {b : Nat} {c : Array Value} {e : TypeId} (h : Blk w b c e) (x : Ext w w') : Blk w' b c e := Ext.get x h
theorem Blk.keep {X : Nat → Prop} {w w' : World} {b : Nat} {c : Array Value} {e : TypeId} (h : Blk w b c e) (x : Keep X w w') (hx : ¬ X b) : Blk w' b c e := Keep.get x h hx
theorem Blk.new (w : World) (c : Array Value) (e : TypeId) : Blk (w.alloc (.cells c e)) w.heap.size c e := heap_alloc_new w _
theorem Blk.alloc {w : World} {b : Nat} {c : Array Value} {e : TypeId} (h : Blk w b c e) (o : Obj) : Blk (w.alloc o) b c e := (heap_alloc_old w o h.lt).trans h
theorem Blk.set {w : World} {b : Nat} {c : Array Value} {e : TypeId} (h : Blk w b c e) (i : Nat) (v : Value) : Blk (w.setCell ⟨b, i, none⟩ v) b (c.setIfInBounds i v) e := by
  unfold Blk at *; simp [World.setCell, Array.getElem?_modify, h]
theorem Blk.set_ne {w : World} {b : Nat} {c : Array Value} {e : TypeId} (h : Blk w b c e) {p : Addr} (hp : p.block ≠ b) (v : Value) : Blk (w.setCell p v) b c e := by
  unfold Blk at *; rw [Below.heap_setCell _ _ _ _ (Ne.symm hp)]; exact h
theorem Blk.drew {w : World} {b : Nat} {c : Array Value} {e : TypeId} (h : Blk w b c e) : Blk w.drew b c e := h
theorem Keep.set {X : Nat → Prop} {a w : World} (h : Keep X a w) {p : Addr} (hp : X p.block) (v : Value) : Keep X a (w.setCell p v) :=
  h.trans ⟨rfl, rfl, rfl, by simp [World.setCell], fun k _ hk => Below.heap_setCell _ _ _ _ (fun e => hk (e ▸ hp))⟩
theorem Keep.alloc {X : Nat → Prop} {a w : World} (h : Keep X a w) (o : Obj) : Keep X a (w.alloc o) := h.trans (((Ext.refl w).alloc o).keep X)
theorem Keep.sub {X : Nat → Prop} {a b c : World} (h : Ext a b) (k : Keep X b c) {Y : Nat → Prop} (hx : ∀ n, X n → a.heap.size ≤ n ∨ Y n) : Keep Y a c :=
  ⟨k.os.trans h.os, k.tape.trans h.tape, k.output.trans h.output, Nat.le_trans h.size k.size, fun i hi hy => (k.block i (Nat.lt_of_lt_of_le hi h.size) fun hX => (hx i hX).elim (fun h => by omega) hy).trans (h.block i hi)⟩
theorem Keep.new {X : Nat → Prop} {a b c : World} (h : Ext a b) (k : Keep X b c) (hx : ∀ n, X n → a.heap.size ≤ n) : Ext a c :=
  (Keep.sub h k (Y := fun _ => False) fun n hn => .inl (hx n hn)).ext
theorem heap_size_alloc (w : World) (o : Obj) : (w.alloc o).heap.size = w.heap.size + 1 := by simp
def gE : Nat → Nat
  | 1 => 4
  | 2 => 3
  | 3 => 6
  | 4 => 5
  | 5 => 1
  | 6 => 8
  | 7 => 2
  | 8 => 0
  | 9 => 9
  | 10 => 7
  | 11 => 10
  | _ => 99999
end Go.Proofs.YtbagppdibncfdaaGreatDoor
namespace Go.Proofs.YtbagppdibncfdaaGreatDoor
def crcBit (c : Nat) : Nat := if c % 2 = 1 then (c / 2) ^^^ 3988292384 else c / 2
def crcBits (c : Nat) : Nat → Nat
  | 0 => c
  | k + 1 => crcBit (crcBits c k)
def crcByte (c : Nat) (b : UInt8) : Nat := crcBits (c ^^^ b.toNat) 8
def crcGo (c : Nat) (l : List UInt8) : Nat := l.foldl crcByte c
def crc (l : List UInt8) : Nat := crcGo 4294967295 l ^^^ 4294967295
theorem byte_lt (b : UInt8) : b.toNat < 256 := b.toNat_lt
def refBit (c t : Nat) : Nat := if (c ^^^ t) % 2 = 1 then (c / 2) ^^^ 3988292384 else c / 2
def refBits (c b : Nat) : Nat → Nat
  | 0 => c
  | k + 1 => refBit (refBits c b k) (b / 2 ^ k)
end Go.Proofs.YtbagppdibncfdaaGreatDoor
namespace Go.Proofs.YtbagppdibncfdaaGreatDoor
open Go Go.RowKit
def bcells (l : List UInt8) : List Value := l.map fun b => Value.int .u8 (b.toNat : Int)
def high4 (n : Nat) : List UInt8 := [UInt8.ofNat (n / 16777216), UInt8.ofNat (n / 65536), UInt8.ofNat (n / 256), UInt8.ofNat n]
def low4 (n : Nat) : List UInt8 := [UInt8.ofNat n, UInt8.ofNat (n / 256), UInt8.ofNat (n / 65536), UInt8.ofNat (n / 16777216)]
theorem run_text_of (w : World) (g cap : Nat) (l : List UInt8) (c : Array Value) (hb : Blk w g c 5) (hc : ∀ j, j < l.length → c[j]? = (bcells l)[j]?) :
    (convert 96 9 (.slice (some ⟨g, 0, none⟩) l.length cap)).run Tryz.prog w = .ok (.string ⟨l.toArray⟩) w := by
  refine run_convert_bytes_back w 96 9 5 ⟨g, 0, none⟩ cap l Tryz.underlying96 Tryz.underlying5 Tryz.underlying9 fun j hj => ?_
  rw [show (⟨g, 0, none⟩ : Addr).add j = ⟨g, j, none⟩ from by by_cases h0 : j = 0 <;> simp [Addr.add, h0], hb.cell j, hc j hj]
  simp [bcells, hj]
def num4 (a b c d : UInt8) : Nat := a.toNat * 16777216 + b.toNat * 65536 + c.toNat * 256 + d.toNat
def at8 (s : ByteArray) (i : Nat) : UInt8 := s.data.toList.getD i 0
def four (s : ByteArray) (i : Nat) : Nat := num4 (at8 s i) (at8 s (i + 1)) (at8 s (i + 2)) (at8 s (i + 3))
structure Ints (w : World) (a : Option Addr) (len : Nat) (vs : List Int) : Prop where
  ln : vs.length = len
  sm : 0 < len → ∃ x, a = some x
  cl : ∀ x, a = some x → ∀ i, i < len → w.cell? (x.add i) = some (.int .i64 (vs.getD i 0))
  hi : ∀ i, vs.getD i 0 ≤ 9223372036854775807
theorem cell_lt {w : World} {x : Addr} {v : Value} (h : w.cell? x = some v) : x.block < w.heap.size := by
  rcases Nat.lt_or_ge x.block w.heap.size with h4 | h4
  · exact h4
  · simp [World.cell?, Array.getElem?_eq_none h4] at h
theorem add_block (x : Addr) (i : Nat) : (x.add i).block = x.block := by unfold Addr.add; split <;> rfl
theorem Ext.cellx {w w' : World} (h : Ext w w') {x : Addr} {v : Value} (hc : w.cell? x = some v) : w'.cell? x = some v := by
  have hb := h.block x.block (cell_lt hc)
  unfold World.cell? at *
  rw [hb]
  exact hc
def numK (s : ByteArray) : Nat → Nat
  | 0 => 0
  | k + 1 => 256 * numK s k + (at8 s k).toNat
def IdxR (p : Prop) (r : Int) : Prop := (-1 ≤ r ∧ r ≤ 9223372036854775807) ∧ (0 ≤ r ↔ p)
theorem IdxR.yes {p : Prop} {k : Nat} (hp : p) (hk : (k : Int) ≤ 9223372036854775807) : IdxR p (k : Int) := ⟨⟨by omega, hk⟩, fun _ => hp, fun _ => by omega⟩
theorem IdxR.no {p : Prop} (hp : ¬ p) : IdxR p (-1) := ⟨⟨by omega, by omega⟩, fun h => by omega, fun h => absurd h hp⟩
def farB (n : Int) : Bool := !(decide (0 ≤ n) && decide (n ≤ 2147483648))
def anyFar (vs : List Int) : Bool := vs.any farB
structure Fr where
  kind : UInt8
  fr : Int
  to : Int
  seq : Int
  nums : List Int
def inB (n m : Int) : Bool := decide (0 ≤ n) && decide (n ≤ m)
def kinds : List UInt8 := [100, 101, 116, 97]
def codeOf (k b1 b2 b3 far same full : Bool) : Nat := bif !k then 4 else bif !b1 then 2 else bif !b2 then 2 else bif !b3 then 2 else bif far then 2 else bif same then 3 else bif full then 8 else 0
def Fr.code (f : Fr) : Nat := codeOf (decide (f.kind ∈ kinds)) (inB f.fr 5) (inB f.to 5) (inB f.seq 2147483648) (anyFar f.nums) (decide (f.fr = f.to)) (decide (200 < f.nums.length))
def frv (f : Fr) (a : Option Addr) (cap : Nat) : Value := .agg #[.int .u8 (f.kind.toNat : Int), .int .i64 f.fr, .int .i64 f.to, .int .i64 f.seq, .slice a f.nums.length cap]
structure ErrsC (w : World) (ev : Nat → Value) : Prop where
  bound : w.cell? ⟨3, 0, none⟩ = some (ev 2)
  shape : w.cell? ⟨6, 0, none⟩ = some (ev 3)
  kind : w.cell? ⟨5, 0, none⟩ = some (ev 4)
  full : w.cell? ⟨0, 0, none⟩ = some (ev 8)
structure Errs (w : World) (ev : Nat → Value) : Prop extends ErrsC w ev where
  text : w.cell? ⟨4, 0, none⟩ = some (ev 1)
  sum : w.cell? ⟨10, 0, none⟩ = some (ev 11)
def errv (ev : Nat → Value) (c : Nat) : Value := if c = 0 then .nilIface else ev c
theorem ErrsC.ext {w w' : World} {ev : Nat → Value} (h : ErrsC w ev) (x : Ext w w') : ErrsC w' ev :=
  ⟨x.cellx h.bound, x.cellx h.shape, x.cellx h.kind, x.cellx h.full⟩
theorem Errs.ext {w w' : World} {ev : Nat → Value} (h : Errs w ev) (x : Ext w w') : Errs w' ev :=
  ⟨h.toErrsC.ext x, x.cellx h.text, x.cellx h.sum⟩
theorem Ints.ext {w w' : World} {a : Option Addr} {len : Nat} {vs : List Int} (h : Ints w a len vs) (x : Ext w w') : Ints w' a len vs :=
  ⟨h.ln, h.sm, fun y hy i hi => x.cellx (h.cl y hy i hi), h.hi⟩
def kindsW (W : World) : World := W.alloc (.cells #[Value.int .u8 100, Value.int .u8 101, Value.int .u8 116, Value.int .u8 97] 5 (4, 5))
theorem grown_keep {w w' : World} {row : Option Nat} (h : w.grownBy w' row) : Keep (fun k => row = some k) w w' :=
  ⟨h.os, h.tape, h.output, h.size, fun k hk hx => h.block k hk fun e => hx e.symm⟩
section
variable {P : Program} {ops : Array Oper}
theorem run_exec_append {o : Oper} {a : Act} {w w' : World} (s x : Operand) (t : TypeId) (ho : o.op = .call { callee := .builtin .append, args := #[s, x], argTypes := #[t, t] })
    {v1 v2 v : Value} (h1 : a.eval s = v1) (h2 : a.eval x = v2) (hr : (Builtin.append_ #[t, t] o.type #[v1, v2]).run P w = .ok v w') : (execOp a.eval o).run P w = .ok (.value v) w' := by
  unfold execOp
  simp only [ho, resolve, invoke, builtin, Sem.run_bind, Sem.run_pure, Result.andThen_ok, List.map_toArray, List.map_cons, List.map_nil, h1, h2, hr]
end
def Fr.body (f : Fr) : List UInt8 := [f.kind, UInt8.ofNat f.fr.toNat, UInt8.ofNat f.to.toNat] ++ high4 f.seq.toNat ++ [UInt8.ofNat f.nums.length] ++ f.nums.flatMap fun n => high4 n.toNat
def Fr.text (f : Fr) : List UInt8 := f.body ++ low4 (crc f.body)
structure Fr.Fits (f : Fr) : Prop where
  fr : 0 ≤ f.fr ∧ f.fr ≤ 255
  to : 0 ≤ f.to ∧ f.to ≤ 255
  seq : 0 ≤ f.seq ∧ f.seq ≤ 4294967295
  nums : ∀ n ∈ f.nums, 0 ≤ n ∧ n ≤ 4294967295
def frOf (s : ByteArray) : Fr := ⟨at8 s 0, (at8 s 1).toNat, (at8 s 2).toNat, four s 3, (List.range (at8 s 7).toNat).map fun i => (four s (8 + 4 * i) : Int)⟩
def sumOk (s : ByteArray) : Bool := low4 (crc (s.data.toList.take (s.size - 4))) == s.data.toList.drop (s.size - 4)
def sizeOk (s : ByteArray) : Bool := decide (12 ≤ s.size) && decide (s.size = 12 + 4 * (at8 s 7).toNat)
def textCode (s : ByteArray) : Nat := if sizeOk s then (if sumOk s then (frOf s).code else 11) else 1
section
variable {P : Program} {ops : Array Oper}
end
section
variable {P : Program} {ops : Array Oper} {X : Nat → Prop} {w0 : World} {Q : Act → World → Prop} {L : List Nat}
def GenR (w : World) (R : Value → World → Prop) : Value → World → Prop := fun v w' => Ext w w' ∧ R v w'
theorem Flow.one {listed : Array Bool} {C : World → Prop} {a : Act} (i : Nat) (o : Oper) (ho : ops[i]? = some o) (hr : (Region.ready .any ops listed == [i]) = true) (R : Value → World → Prop)
    (hR : ∀ v w w', R v w → Ext w w' → R v w') (h : ∀ w, C w → Keep X w0 w → does P ops o a w (ActR X w0 R))
    (k : ∀ v, (∃ w, R v w) → Flow P ops w0 Q X L (listed.setIfInBounds i true) (R v) (a.put o.dst v)) : Flow P ops w0 Q X L listed C a :=
  Flow.acts [i] hr (by simp) (fun _ => o) (fun _ => R) (fun _ => hR) (fun j hj => by obtain rfl : j = i := by simpa using hj
                                                                                     exact ⟨ho, h⟩) (fun j hj => by obtain rfl : j = i := by simpa using hj
                                                                                                                    exact k)
end
def BRow (w0 w : World) (v : Value) (l : List UInt8) : Prop := w.ownsRow w0.heap.size 5 1 v l.length (bcells l)
theorem own_ext {w w' : World} {base : Nat} {e : TypeId} {size : Nat} {v : Value} {n : Nat} {xs : List Value} (h : w.ownsRow base e size v n xs) (x : Ext w w') : w'.ownsRow base e size v n xs := by
  obtain ⟨h1, h2⟩ := h
  refine ⟨h1, h2.imp id ?_⟩
  rintro ⟨g, cap, cur, rfl, hb, hg, h3⟩
  exact ⟨g, cap, cur, rfl, hb, x.get hg, h3⟩
theorem BRow.ext {w0 w w' : World} {v : Value} {l : List UInt8} (h : BRow w0 w v l) (x : Ext w w') : BRow w0 w' v l := own_ext h x
theorem BRow.made (w0 w : World) (h : w0.heap.size ≤ w.heap.size) (l : List UInt8) (hl : l.length ≤ 1000) : BRow w0 (w.alloc (.cells (bcells l).toArray 5)) (.slice (some ⟨w.heap.size, 0, none⟩) l.length l.length) l :=
  ⟨by simp [bcells], .inr ⟨w.heap.size, l.length, _, rfl, h, heap_alloc_new w _, Nat.le_refl _, by simp only [maxLen]; omega, by simp [bcells], by simp [bcells, List.take_of_length_le]⟩⟩
def HighR (n : Nat) : Value → World → Prop := fun v w => ∃ g, v = .slice (some ⟨g, 0, none⟩) 4 4 ∧ Blk w g (bcells (high4 n)).toArray 5
theorem Blk.av {w : World} {b : Nat} {c : Array Value} {e : TypeId} (h : Blk w b c e) (i : Nat) {v : Value} (hv : c[i]? = some v) : w.cell? ⟨b, i, none⟩ = some v := (h.cell i).trans hv
theorem BRow.text {w0 w : World} {v : Value} {l : List UInt8} (h : BRow w0 w v l) (hl : l ≠ []) : ∃ g cap cur, v = .slice (some ⟨g, 0, none⟩) l.length cap ∧ Blk w g cur 5 ∧ ∀ j, j < l.length → cur[j]? = (bcells l)[j]? := by
  rcases h.2 with ⟨_, h0⟩ | ⟨g, cap, cur, hv, _, hg, hnc, _, hcs, htake⟩
  · exact absurd (List.length_eq_zero_iff.1 h0) hl
  · refine ⟨g, cap, cur, hv, hg, fun j hj => ?_⟩
    rw [← htake, List.getElem?_take, if_pos (by omega)]
    simp
def fr0 : Value := .agg #[.int .u8 0, .int .i64 0, .int .i64 0, .int .i64 0, .slice none 0 0]
def frz : Array Value := #[.int .u8 0, .int .i64 0, .int .i64 0, .int .i64 0, .slice none 0 0]
theorem Keep.cellx {X : Nat → Prop} {w w' : World} (h : Keep X w w') {x : Addr} {v : Value} (hc : w.cell? x = some v) (hx : ¬ X x.block) : w'.cell? x = some v := by
  have hb := h.block x.block (cell_lt hc) hx
  unfold World.cell? at *
  rw [hb]
  exact hc
theorem Errs.at_ {w : World} {ev : Nat → Value} (h : Errs w ev) {W : World} (x : Ext w W) (i c : Nat) (hc : w.cell? ⟨i, 0, none⟩ = some (ev c)) : ∀ w1, Keep (fun b => b = w.heap.size) W w1 → w1.cell? ⟨i, 0, none⟩ = some (ev c) :=
  fun _ hk => hk.cellx (x.cellx hc) (fun e => by have := cell_lt hc; simp only at e this; omega)
def icells (l : List Int) : List Value := l.map fun n => Value.int .i64 n
theorem ints_info : (Tryz.prog.info? 3).map (fun i => (i.zero, i.size, i.bytes)) = some (some (.int .i64 0), 1, 8) := by kernel_rfl
def IRow (base : Nat) (w : World) (v : Value) (l : List Int) : Prop := w.ownsRow base 3 1 v l.length (icells l)
theorem icells_append (l m : List Int) : icells (l ++ m) = icells l ++ icells m := by simp [icells]
theorem icells_one {l : List Int} : ∀ u ∈ icells l, u.oneCell' = true := by
  intro u hu
  simp only [icells, List.mem_map] at hu
  obtain ⟨b, _, rfl⟩ := hu
  rfl
theorem IRow.ext {base : Nat} {w w' : World} {v : Value} {l : List Int} (h : IRow base w v l) (x : Ext w w') : IRow base w' v l := own_ext h x
theorem IRow.keep {base : Nat} {X : Nat → Prop} {w w' : World} {v : Value} {l : List Int} (h : IRow base w v l) (k : Keep X w w') (hx : ∀ b, v.ownBlock = some b → ¬ X b) : IRow base w' v l := by
  obtain ⟨h1, h2⟩ := h
  refine ⟨h1, h2.imp id ?_⟩
  rintro ⟨g, cap, cur, rfl, hb, hg, h3⟩
  exact ⟨g, cap, cur, rfl, hb, Keep.get k hg (hx g rfl), h3⟩
theorem IRow.nil (base : Nat) (w : World) : IRow base w (.slice none 0 0) [] := World.ownsRow_nil _ _ _ _
theorem IRow.lt {base : Nat} {w : World} {v : Value} {l : List Int} (h : IRow base w v l) {b : Nat} (hb : v.ownBlock = some b) : base ≤ b ∧ b < w.heap.size := World.ownsRow.lt h b hb
theorem IRow.form {base : Nat} {w : World} {v : Value} {l : List Int} (h : IRow base w v l) : ∃ a cap, v = .slice a l.length cap := by
  rcases h.2 with ⟨h2, h3⟩ | ⟨g, cap, cur, h2, _⟩
  · exact ⟨none, 0, by rw [h2, h3]⟩
  · exact ⟨_, _, h2⟩
theorem IRow.ints {base : Nat} {w : World} {a : Option Addr} {n cap : Nat} {l : List Int} (h : IRow base w (.slice a n cap) l) (hi : ∀ i, l.getD i 0 ≤ 9223372036854775807) : Ints w a l.length l := by
  refine ⟨rfl, ?_, ?_, hi⟩
  · intro hp
    rcases h.2 with ⟨h2, h3⟩ | ⟨g, cap, cur, h2, _⟩
    · omega
    · simp only [Value.slice.injEq] at h2; exact ⟨_, h2.1⟩
  · intro x hx i hil
    rcases h.2 with ⟨h2, h3⟩ | ⟨g, cap, cur, h2, hb, hg, hnc, _, hcs, htake⟩
    · omega
    · simp only [Value.slice.injEq] at h2
      obtain ⟨rfl, _, _⟩ := h2
      obtain rfl := Option.some.inj hx
      have hc : Blk w g cur 3 := hg
      rw [show (⟨g, 0, none⟩ : Addr).add i = ⟨g, i, none⟩ from by by_cases h0 : i = 0 <;> simp [Addr.add, h0], hc.cell i]
      have h2 : cur[i]? = (icells l)[i]? := by
        rw [← htake, List.getElem?_take, if_pos (by omega)]
        simp
      rw [h2]
      simp only [icells, List.getElem?_map, List.getElem?_eq_getElem hil, Option.map_some, List.getD_eq_getElem?_getD, Option.getD_some]
def nm (s : ByteArray) (k : Nat) : List Int := (List.range k).map fun i => (four s (8 + 4 * i) : Int)
def DecR (s : ByteArray) (ev : Nat → Value) (w : World) : Ending → World → Prop := fun e w' =>
  if (frOf s).code = 0 then ∃ a cap, e = .returned (.tuple #[frv (frOf s) a cap, .nilIface]) ∧ Ints w' a (frOf s).nums.length (frOf s).nums ∧ Ext w w'
  else e = .returned (.tuple #[fr0, ev (frOf s).code]) ∧ Ext w w'
theorem DecR.yes {s : ByteArray} {ev : Nat → Value} {w w' : World} {b0 : UInt8} {fr to seq : Int} {nums : List Int} {n cap : Nat} {a : Option Addr} (hf : frOf s = ⟨b0, fr, to, seq, nums⟩) (hl : nums.length = n) (hc : Fr.code ⟨b0, fr, to, seq, nums⟩ = 0) (hi : Ints w' a n nums) (hx : Ext w w') :
    DecR s ev w (.returned (.tuple #[.agg #[.int .u8 (b0.toNat : Int), .int .i64 fr, .int .i64 to, .int .i64 seq, .slice a n cap], .nilIface])) w' := by
  subst hl
  unfold DecR
  rw [hf, if_pos hc]
  exact ⟨a, cap, rfl, hi, hx⟩
theorem DecR.no {s : ByteArray} {ev : Nat → Value} {w w' : World} {f : Fr} {v : Value} (hf : frOf s = f) (hc : f.code ≠ 0) (hv : v = ev f.code) (hx : Ext w w') : DecR s ev w (.returned (.tuple #[fr0, v])) w' := by
  unfold DecR
  rw [hf, if_neg hc, hv]
  exact ⟨rfl, hx⟩
theorem ret_bool {b c : Bool} (h : b = c) : Ending.returned (.bool b) = Ending.returned (.bool c) := by rw [h]
theorem IRow.nilSrc {base : Nat} {w : World} {v : Value} {l : List Int} (h : IRow base w v l) (ty : TypeId) (c : Nat) : (Builtin.append_ #[45, 45] ty #[v, .slice none 0 c]).run Tryz.prog w = .ok v w := by
  obtain ⟨ti, hi, hz0, hz1, hz2⟩ := info_parts ints_info
  rcases h.2 with ⟨h2, h3⟩ | ⟨g, cap, cur, h2, _, _, hnc, _⟩
  · subst h2
    simp [Builtin.append_, run_underlying Tryz.underlying45, sizeOf, typeInfo, hi, Builtin.lenOf, Builtin.firstCells]
  · subst h2
    simp [Builtin.append_, run_underlying Tryz.underlying45, sizeOf, typeInfo, hi, Builtin.lenOf, Builtin.firstCells, hnc, storeCells]
theorem IRow.base {base b2 : Nat} {w : World} {v : Value} {l : List Int} (h : IRow base w v l) (hb : b2 ≤ base) : IRow b2 w v l := by
  obtain ⟨h1, h2⟩ := h
  refine ⟨h1, h2.imp id ?_⟩
  rintro ⟨g, cap, cur, rfl, hg, h3⟩
  exact ⟨g, cap, cur, rfl, Nat.le_trans hb hg, h3⟩
theorem run_append_ints (w : World) (base : Nat) (hbase : base ≤ w.heap.size) (ty : TypeId) (v : Value) (l : List Int) (hown : IRow base w v l) (a : Option Addr) (m c : Nat) (vs : List Int) (hr : Ints w a m vs) (hl : l.length + m ≤ 1000000) :
    ∃ v' w', (Builtin.append_ #[45, 45] ty #[v, .slice a m c]).run Tryz.prog w = .ok v' w' ∧ IRow base w' v' (l ++ vs) ∧ w.grownBy w' v.ownBlock := by
  have hlen := hr.ln
  rcases a with _ | ad
  · have hm : m = 0 := by
      rcases Nat.eq_zero_or_pos m with h0 | h0
      · exact h0
      · obtain ⟨x, hx⟩ := hr.sm h0; cases hx
    subst hm
    obtain rfl : vs = [] := List.eq_nil_of_length_eq_zero hlen
    exact ⟨v, w, hown.nilSrc ty c, by simpa using hown, World.grownBy.refl w _⟩
  · obtain ⟨ti, hi, hz0, hz1, hz2⟩ := info_parts ints_info
    obtain ⟨v', w', h1, h2, h3, _⟩ := run_append_own (P := Tryz.prog) w base 45 ty 3 ti (.int .i64 0) 1 8 Tryz.underlying45 hi hz0 hz1 hz2 rfl (by omega) v l.length (icells l) hown ad m c (icells vs) (by simp [icells, hlen]) (fun j u hu => by
      simp only [icells, List.getElem?_map] at hu
      have hj : j < vs.length := by
        rcases Nat.lt_or_ge j vs.length with h | h
        · exact h
        · rw [List.getElem?_eq_none h] at hu; cases hu
      rw [hr.cl ad rfl j (by omega), List.getD_eq_getElem?_getD, List.getElem?_eq_getElem hj]
      rw [List.getElem?_eq_getElem hj] at hu
      exact hu) icells_one (by simp only [maxLen]; omega) (by omega) hbase
    refine ⟨v', w', h1, ?_, h3⟩
    unfold IRow
    rw [List.length_append, icells_append, hlen]
    exact h2
theorem wpList_append_ints {ops : Array Oper} {Q : Exit → Act → World → Prop} {rest : List Oper} {o : Oper} {a : Act} {w : World} (base : Nat) (hbase : base ≤ w.heap.size) (hg : o.guard = none) (s x : Operand)
    (ho : o.op = .call { callee := .builtin .append, args := #[s, x], argTypes := #[45, 45] })
    (v : Value) (l : List Int) (hs : a.eval s = v) (hown : IRow base w v l) (ad : Option Addr) (m c : Nat) (vs : List Int) (hx : a.eval x = .slice ad m c) (hr : Ints w ad m vs) (hl : l.length + m ≤ 1000000)
    (h : ∀ v' w', IRow base w' v' (l ++ vs) → w.grownBy w' v.ownBlock → wpList Tryz.prog ops Q rest (a.put o.dst v') w') : wpList Tryz.prog ops Q (o :: rest) a w := by
  obtain ⟨v', w', hr, h2, h3⟩ := run_append_ints w base hbase o.type v l hown ad m c vs hr hl
  refine wpList_plain hg fun K hK => ?_
  unfold Oper.wp
  rw [run_exec_append s x 45 ho hs hx hr]
  exact hK _ _ (h v' w' h2 h3)
set_option maxRecDepth 100000 in
set_option maxHeartbeats 1600000 in
theorem sameints_any (a b : Option Addr) (n m cap cap2 : Nat) (vs us : List Int) (w : World) (hr : Ints w a n vs) (hr2 : Ints w b m us) (hl : (n : Int) ≤ 9223372036854775807) (hl2 : (m : Int) ≤ 9223372036854775807) :
    Calls Tryz.prog 41 #[.slice a n cap, .slice b m cap2] w fun e w' => e = .returned (.bool (decide (vs = us))) ∧ Ext w w' := by
  have Hr := hid hr
  have Hr2 := hid hr2
  clear hr hr2
  by_cases hnm : n = m
  · subst hnm
    go_enter Tryz.func41, Tryz.ntmps41
    go_wp2
    go_loopw [5] (fun t5 wr => ∃ k : Nat, t5 = .int .i64 (k : Int) ∧ k ≤ n ∧ (∀ j, j < k → vs.getD j 0 = us.getD j 0) ∧ Ext w wr) (fun t5 _ => n - (intOf t5).toNat)
    case atStart => exact ⟨0, rfl, Nat.zero_le _, fun j h => by omega, Ext.refl _⟩
    case round =>
      obtain ⟨k, rfl, hk, hne, hx⟩ := hrel
      have Hne := hid hne
      clear hne
      by_cases hlt : k < n
      · obtain ⟨x, rfl⟩ := Hr.out.sm (by omega)
        obtain ⟨y, rfl⟩ := Hr2.out.sm (by omega)
        have hc : ∀ w1, Keep (fun _ => False) wr w1 → w1.cell? (x.add k) = some (.int .i64 (vs.getD k 0)) := fun w1 hk => hk.cellx (hx.cellx (Hr.out.cl x rfl k hlt)) (fun h => h)
        have hd : ∀ w1, Keep (fun _ => False) wr w1 → w1.cell? (y.add k) = some (.int .i64 (us.getD k 0)) := fun w1 hk => hk.cellx (hx.cellx (Hr2.out.cl y rfl k hlt)) (fun h => h)
        have Heq : Hid (vs.getD k 0 ≠ us.getD k 0 → decide (vs = us) = false) := hid fun h => decide_eq_false fun e => h (by rw [e])
        obtain ⟨p, hp⟩ : ∃ p, p = vs.getD k 0 := ⟨_, rfl⟩
        obtain ⟨q, hq⟩ : ∃ q, q = us.getD k 0 := ⟨_, rfl⟩
        rw [← hp] at hc Heq
        rw [← hq] at hd Heq
        have Hp := hid hp
        have Hq := hid hq
        clear hp hq
        by_cases hpq : p = q
        · subst hpq
          go_wp2
          refine wp_flowT (fun _ => False) (by kernel_rfl) (by kernel_rfl) ?_
          repeat (apply FlowT.d; (intro w1 hk; unfold does; go_simp; (try go_ints); (first | exact DetR.mk | (simp only [↓IntWalk.iteOmega, Oper.doesUpon_value]; exact DetR.mk) | (simp only [↓IntWalk.iteOmega]; go_simp; (try go_ints); exact DetR.mk))); simp only [Act.put, qS0, qS1, qS2])
          refine FlowT.fin fun w1 hxx hk => ?_
          have hxx2 := hx.trans hxx
          clear hk hc hd hx hxx Heq
          go_wp2
          go_roundw
          case rel => exact ⟨k + 1, by go_num, by omega, fun j hj => by
            by_cases hjk : j = k
            · subst hjk; rw [← Hp.out, ← Hq.out]
            · exact Hne.out j (by omega), hxx2⟩
          case measure => simp [intOf]; omega
        · have Hpq := hid (Heq.out hpq)
          clear Heq
          go_wp2
          refine wp_flowT (fun _ => False) (by kernel_rfl) (by kernel_rfl) ?_
          repeat (apply FlowT.d; (intro w1 hk; unfold does; go_simp; (try go_ints); (first | exact DetR.mk | (simp only [↓IntWalk.iteOmega, Oper.doesUpon_value]; exact DetR.mk) | (simp only [↓IntWalk.iteOmega]; go_simp; (try go_ints); exact DetR.mk))); simp only [Act.put, qS0, qS1, qS2])
          refine FlowT.fin fun w1 hxx hk => ?_
          have hxx2 := hx.trans hxx
          clear hk hc hd hx hxx
          go_wp2
          go_ret
          exact ⟨ret_bool Hpq.out.symm, hxx2⟩
      · obtain rfl : k = n := by omega
        have hyes : decide (vs = us) = true := decide_eq_true (List.ext_getElem (by rw [Hr.out.ln, Hr2.out.ln]) fun i h1 h2 => by
          have := Hne.out i (by have := Hr.out.ln; omega)
          simpa [List.getD_eq_getElem?_getD, List.getElem?_eq_getElem h1, List.getElem?_eq_getElem h2] using this)
        have Hyes := hid hyes
        clear hyes
        go_wp2
        go_ret
        exact ⟨ret_bool Hyes.out.symm, hx⟩
  · have Hno := hid (decide_eq_false (p := vs = us) fun e => hnm (by rw [← Hr.out.ln, ← Hr2.out.ln, e]))
    have hi : ¬ (n : Int) = (m : Int) := by omega
    go_enter Tryz.func41, Tryz.ntmps41
    go_wp2
    go_ret
    exact ⟨ret_bool Hno.out.symm, Ext.refl _⟩
end Go.Proofs.YtbagppdibncfdaaGreatDoor
namespace Go.Proofs.YtbagppdibncfdaaGreatDoor
open Go Go.RowKit Go.Shelf Go.Maps Go.Sort
def strSize (o : Option Value) : Nat := match o with | some (.string b) => b.size | _ => 0
theorem bs_list (b : ByteArray) : b.data.toList.length = b.size := by rw [Array.length_toList]; rfl
theorem cut_at_ext {c : UInt8} {t : ByteArray} {i : Nat} (h : Lib.indexByte t.data.toList c = (i : Int)) : i < t.size ∧ cutc c t.data.toList = (t.extract 0 i).data.toList :: cutc c (t.extract (i + 1) t.size).data.toList ∧ (t.extract (i + 1) t.size).size = t.size - (i + 1) := by
  have h1 := (index_some h).1
  rw [bs_list] at h1
  refine ⟨h1, ?_, by simp⟩
  rw [cutc_at h, Lib.extract_data, Lib.extract_data]
  simp only [List.drop_zero, Nat.sub_zero]
  congr 2
  rw [List.take_of_length_le]
  rw [List.length_drop, bs_list]
  exact Nat.le_refl _
set_option maxRecDepth 100000 in
set_option maxHeartbeats 2000000 in
theorem splitc_in (n : Nat) (hn : 1 ≤ n) (l Bs Bp Bv : Nat) (c : UInt8) (s : ByteArray) (hs : s.size ≤ 1000000) (J : Nat → ByteArray → World → Prop) (Jx : World → Prop)
    (hJ : ∀ k t V, J k t V → V.cell? ⟨Bs, 0, none⟩ = some (.string t) ∧ V.frozen? ⟨Bs, 0, none⟩ = false ∧ V.cell? ⟨Bp, 0, none⟩ = some (.string ⟨#[c]⟩) ∧ V.cell? ⟨Bv, 0, none⟩ = some (.int .i64 0))
    (hset : ∀ k t t' V, J k t V → J k t' (V.setCell ⟨Bs, 0, none⟩ (.string t')))
    (hY : ∀ k t (p : ByteArray) V, J k t V → (cutc c s.data.toList)[k]? = some p.data.toList → YieldAt Fence.wide (n - 1) Tryz.prog l #[.string p] V fun e V' => (e = .returned (.bool true) ∧ J (k + 1) t V') ∨ (e = .returned (.bool false) ∧ Jx V'))
    (W : World) (h0 : J 0 s W) :
    CallsIn Fence.wide n Tryz.prog 177 #[.func (.yield l) #[] #[], .pointer (some ⟨Bp, 0, none⟩), .pointer (some ⟨Bs, 0, none⟩), .pointer (some ⟨Bv, 0, none⟩)] W fun e W' => (∃ v, e = .returned v) ∧ ((∃ t, J (cutc c s.data.toList).length t W') ∨ Jx W') := by
  have hro : Fence.wide.round = none := rfl
  refine callsIn_of_wp Tryz.func177 rfl trivial ?_ hro
  simp only [Tryz.ntmps177, List.size_toArray, List.length_cons, List.length_nil, Nat.reduceAdd, Nat.reduceSub, Array.replicate_succ, Array.replicate_zero, List.push_toArray, List.append_toArray, List.nil_append, List.cons_append]
  obtain ⟨c1, c2, c3, c4⟩ := hJ 0 s W h0
  gi_wp2
  clear c1 c2 c3 c4
  gi_loopw [7, 8] (fun _ _ wr => ∃ (k : Nat) (t : ByteArray), k < (cutc c s.data.toList).length ∧ (cutc c s.data.toList).drop k = cutc c t.data.toList ∧ t.size ≤ 1000000 ∧ J k t wr)
    (fun _ _ wr => strSize (wr.cell? ⟨Bs, 0, none⟩))
  case atStart => exact ⟨0, s, List.length_pos_iff.2 (cutc_ne c _), rfl, hs, h0⟩
  case round =>
    obtain ⟨k, t, hk, hd, ht, hj⟩ := hrel
    obtain ⟨c1, c2, c3, c4⟩ := hJ k t wr hj
    have HI := hid (Tryz.strings_Index_one t c wr)
    have hge := Lib.indexByte_ge t.data.toList c
    obtain ⟨x, hx⟩ : ∃ x, x = Lib.indexByte t.data.toList c := ⟨_, rfl⟩
    rw [← hx] at HI hge
    rcases Int.lt_or_le x 0 with hneg | hpos
    · obtain rfl : x = -1 := by omega
      rw [cutc_none hx.symm] at hd
      have hlast : (cutc c s.data.toList)[k]? = some t.data.toList ∧ k + 1 = (cutc c s.data.toList).length := by
        have h1 := congrArg (·[0]?) hd
        have h2 := congrArg List.length hd
        simp only [List.getElem?_drop, Nat.add_zero, List.getElem?_cons_zero, List.length_drop, List.length_singleton] at h1 h2
        exact ⟨h1, by omega⟩
      obtain ⟨fn, tmps, assign, body, hy, hR⟩ := hY k t t wr hj hlast.1
      have Hl := hid hlast.2
      clear hd hlast hx
      gi_wp2_with (refine ⟨trivial, ?_⟩; gi_at_call 179; refine (callsIn_wide.2 HI.out).mono ?_; rintro e w' ⟨rfl, rfl⟩)
      refine hR.mono ?_
      rintro e W3 (⟨rfl, hJ3⟩ | ⟨rfl, hx3⟩)
      · gi_wp2
        go_end0
        exact ⟨⟨_, rfl⟩, .inl ⟨t, by rw [← Hl.out]; exact hJ3⟩⟩
      · gi_wp2
        go_end0
        exact ⟨⟨_, rfl⟩, .inr hx3⟩
    · obtain ⟨i, rfl⟩ : ∃ i : Nat, x = i := ⟨x.toNat, by omega⟩
      obtain ⟨hi, he, hz⟩ := cut_at_ext hx.symm
      rw [he] at hd
      have hthis : (cutc c s.data.toList)[k]? = some (t.extract 0 i).data.toList := by
        have h1 := congrArg (·[0]?) hd
        simpa only [List.getElem?_drop, Nat.add_zero, List.getElem?_cons_zero] using h1
      have hrest : (cutc c s.data.toList).drop (k + 1) = cutc c (t.extract (i + 1) t.size).data.toList := by
        have h1 := congrArg List.tail hd
        simpa only [List.tail_drop, List.tail_cons] using h1
      have hk1 : k + 1 < (cutc c s.data.toList).length := by
        have h1 := congrArg List.length hrest
        have h2 := List.length_pos_iff.2 (cutc_ne c (t.extract (i + 1) t.size).data.toList)
        rw [List.length_drop] at h1
        omega
      obtain ⟨fn, tmps, assign, body, hy, hR⟩ := hY k t (t.extract 0 i) wr hj hthis
      have Hr := hid hrest
      have Hz := hid hz
      have Hk := hid hk1
      clear hd hthis hrest hz he hx hk1
      gi_wp2_with (refine ⟨trivial, ?_⟩; gi_at_call 179; refine (callsIn_wide.2 HI.out).mono ?_; rintro e w' ⟨rfl, rfl⟩)
      refine hR.mono ?_
      rintro e W3 (⟨rfl, hJ3⟩ | ⟨rfl, hx3⟩)
      · obtain ⟨d1, d2, d3, d4⟩ := hJ (k + 1) t W3 hJ3
        gi_wp2
        go_roundw
        case rel => exact ⟨k + 1, _, Hk.out, Hr.out, by have := Hz.out; omega, hset _ _ _ _ hJ3⟩
        case measure =>
          rw [World.cell?_setCell_same' _ _ _ (by rw [d1]; rfl), c1]
          show (t.extract (i + 1) t.size).size < t.size
          rw [Hz.out]
          omega
      · gi_wp2
        refine bodyPost_ret (results_none rfl _ _ _) rfl ?_
        exact ⟨⟨_, rfl⟩, .inr hx3⟩
set_option maxRecDepth 100000 in
theorem splitseq_any (s p : ByteArray) (w : World) :
    Calls Tryz.prog 93 #[.string s, .string p] w fun e w' => e = .returned (.func (.func 177) #[] #[.pointer (some ⟨w.heap.size + 1, 0, none⟩), .pointer (some ⟨w.heap.size, 0, none⟩), .pointer (some ⟨w.heap.size + 2, 0, none⟩)]) ∧
      w' = ((w.alloc (.cells #[.string s] 9)).alloc (.cells #[.string p] 9)).alloc (.cells #[.int .i64 0] 3) := by
  go_enter Tryz.func93, Tryz.ntmps93
  go_wp2
  exact bodyPost_ret (results_tmp rfl _ _ _) rfl ⟨rfl, rfl⟩
def roundQ {κ : Type} (I : κ → World → Prop) (Ix : World → Prop) (y : κ) (Wb : World) : Exit → Act → World → Prop
  | .normal, _, W' => KeepsOthers Wb W' ∧ I y W'
  | .ret, _, W' => KeepsOthers Wb W' ∧ Ix W'
  | _, _, _ => False
set_option maxHeartbeats 1000000 in
theorem range_mine {κ : Type} {g : Operand} {ps : Array Tmp} {assign body : Code} {Q : Exit → Act → World → Prop} {a : Act} {w : World} {n : Nat} {P : Program}
    (h1 : 1 ≤ n) {gf : Nat} {lb : Array Value} (hg : a.eval g = .func (.func gf) #[] lb) (eg : ∀ args w, (callFunc gf args).run P w = .ok (.enter gf args) w) (hps : ps.size = 1)
    (I : κ → World → Prop) (Ix : World → Prop) (Step : κ → Value → κ → Prop) (Fin : κ → Prop) (x0 : κ)
    (hI : ∀ x W l o o', I x W → W.heap[l]? = some o → o.isCells = false → w.heap.size ≤ l → I x (W.putObj l o'))
    (hIa : ∀ x W o, I x W → I x (W.alloc o))
    (hIx : ∀ W l o o', Ix W → W.heap[l]? = some o → o.isCells = false → w.heap.size ≤ l → Ix (W.putObj l o'))
    (h0 : I x0 w)
    (hseq : ∀ (l : Nat) (J : κ → World → Prop) (Jx : World → Prop) (W : World), (∀ x V, J x V → I x V) → (∀ x y V p u, J x V → I y (V.setCell p u) → J y (V.setCell p u)) →
      (∀ x v y V, Step x v y → J x V → YieldAt Fence.wide (n - 1 - 1) P l #[v] V fun e V' => (e = .returned (.bool true) ∧ J y V') ∨ (e = .returned (.bool false) ∧ Jx V')) → J x0 W →
      CallsIn Fence.wide (n - 1) P gf (#[.func (.yield l) #[] #[]] ++ lb) W fun e W' => (∃ v, e = .returned v) ∧ ((∃ z, Fin z ∧ J z W') ∨ Jx W'))
    (hround : ∀ (l : Nat) x v y (W : World), Step x v y → I x W → assign.wpIn (Fence.wide.inRound l) (n - 1 - 1) P (Exit.then (fun a₁ w₁ => w₁ = W ∧ ∀ Wb, I x Wb → body.wpIn (Fence.wide.inRound l) (n - 1 - 1) P (roundQ I Ix y Wb) a₁ Wb) (fun _ _ _ => False)) { tmps := (ps.zip #[v]).foldl (fun t (p, v) => t.setIfInBounds p v) a.tmps, defers := [] } W)
    (hdone : ∀ (D : Nat) z (W : World), w.heap.size ≤ D → Fin z → I z W → W.heap[D]? = some (.deferred (some [])) → Q .normal { a with defers := { target := .collected D, args := #[] } :: a.defers } W)
    (hstop : ∀ (D : Nat) (W : World), w.heap.size ≤ D → Ix W → W.heap[D]? = some (.deferred (some [])) → Code.ret.wpIn Fence.wide n P Q { a with defers := { target := .collected D, args := #[] } :: a.defers } W) :
    (Code.rangeFunc g ps assign body).wpIn Fence.wide n P Q a w := by
  have hro : Fence.wide.round = none := rfl
  refine wpIn_rangeFunc ?_
  intro fn hfn
  rw [hro]
  obtain ⟨rec, hrec⟩ : ∃ rec : LoopState → Option Code → Loop, rec = fun st pe => { state := st, pending := pe, fn, tmps := a.tmps, params := ps, assign, body, defers := w.heap.size } := ⟨_, rfl⟩
  obtain ⟨W1, hW1⟩ : ∃ W1, (w.alloc (.deferred (some []))).alloc (.loop (rec .ready none)) = W1 := ⟨_, rfl⟩
  have hL1 : W1.heap[w.heap.size + 1]? = some (.loop (rec .ready none)) := by
    rw [← hW1]; have := World.alloc_heap_new (w.alloc (.deferred (some []))) (.loop (rec .ready none)); rwa [World.size_alloc] at this
  have hK1 : W1.heap[w.heap.size]? = some (.deferred (some [])) := by
    rw [← hW1]; exact (Below.heap_alloc _ _ _ (by simp)).trans (World.alloc_heap_new w _)
  have hI1 : I x0 W1 := by rw [← hW1]; exact hIa _ _ _ (hIa _ _ _ h0)
  refine ⟨w.heap.size + 1, [{ target := .collected w.heap.size, args := #[] }], W1, { target := .fn (.func gf) lb, args := #[.func (.yield (w.heap.size + 1)) #[] #[]] }, W1, gf,
    #[.func (.yield (w.heap.size + 1)) #[] #[]] ++ lb, W1, ?_, ?_, ?_, ?_, fun _ => h1, ?_⟩
  · rw [← hW1, hrec]; exact run_enterLoop_outer _ _ _ _ _
  · simp only [resolve, hg]
    simp [go_sem]
  · intro f' hf'; trivial
  · simp [invoke, go_sem, eg]
  · refine (hseq (w.heap.size + 1)
      (fun x W => I x W ∧ W.heap[w.heap.size + 1]? = some (.loop (rec .ready none)) ∧ W.heap[w.heap.size]? = some (.deferred (some [])))
      (fun W => Ix W ∧ W.heap[w.heap.size + 1]? = some (.loop (rec .done (some .ret))) ∧ W.heap[w.heap.size]? = some (.deferred (some [])))
      W1 (fun x V h => h.1)
      (fun x y V p u h hi => ⟨hi, (KeepsOthers.setCell V p u).same _ _ h.2.1 rfl, (KeepsOthers.setCell V p u).same _ _ h.2.2 rfl⟩)
      ?_ ⟨hI1, hL1, hK1⟩).mono ?_
    · rintro x v y W hs ⟨hi, hl, hk⟩
      have hlt : w.heap.size + 1 < W.heap.size := (Array.getElem?_eq_some_iff.1 hl).1
      have hy := run_yield (P := P) (args := #[v]) hl (by rw [hrec]; exact hps.symm)
      rw [hrec] at hy
      refine ⟨fn, _, assign, body, hy, roundIn_of_wpIn hfn ?_⟩
      refine wpIn_mono (hround _ x v y W hs hi) ?_
      intro e a1 w1 hp
      cases e with
      | normal =>
        obtain ⟨rfl, hb⟩ := hp
        refine ⟨_, run_beginRound hl (by rw [hrec]), ?_⟩
        have hl2 : (w1.putObj (w.heap.size + 1) (.loop { rec .ready none with state := .busy })).heap[w.heap.size + 1]? = some (.loop { rec .ready none with state := .busy }) := World.putObj_heap_same hlt
        have hk2 : (w1.putObj (w.heap.size + 1) (.loop { rec .ready none with state := .busy })).heap[w.heap.size]? = some (.deferred (some [])) := (World.putObj_heap_other (by omega)).trans hk
        refine wpIn_mono (hb _ (hI _ _ _ _ _ hi hl rfl (by omega))) ?_
        have fin : ∀ (jump : Option Code) (W3 : World), KeepsOthers (w1.putObj (w.heap.size + 1) (.loop { rec .ready none with state := .busy })) W3 →
            (Instr.endRound (w.heap.size + 1) jump).run P W3 = .ok (.bool jump.isNone) (W3.putObj (w.heap.size + 1) (.loop (rec (if jump.isNone then .ready else .done) jump))) ∧
            W3.heap[w.heap.size + 1]? = some (.loop { rec .ready none with state := .busy }) ∧
            (W3.putObj (w.heap.size + 1) (.loop (rec (if jump.isNone then .ready else .done) jump))).heap[w.heap.size + 1]? = some (.loop (rec (if jump.isNone then .ready else .done) jump)) ∧
            (W3.putObj (w.heap.size + 1) (.loop (rec (if jump.isNone then .ready else .done) jump))).heap[w.heap.size]? = some (.deferred (some [])) := fun jump W3 hk3 => by
          have hl3 := hk3.same _ _ hl2 rfl
          have := run_endRound (P := P) jump hl3
          rw [hrec] at this ⊢
          exact ⟨this, by rw [hrec] at hl3; exact hl3, World.putObj_heap_same (Array.getElem?_eq_some_iff.1 hl3).1, (World.putObj_heap_other (by omega)).trans (hk3.same _ _ hk2 rfl)⟩
        rintro e a3 W3 hp
        cases e with
        | normal =>
          obtain ⟨hk3, hi3⟩ := hp
          obtain ⟨hr, hl3, hl4, hk4⟩ := fin none W3 hk3
          exact ⟨_, _, hr, .inl ⟨rfl, hI _ _ _ _ _ hi3 hl3 rfl (by omega), hl4, hk4⟩⟩
        | ret =>
          obtain ⟨hk3, hi3⟩ := hp
          obtain ⟨hr, hl3, hl4, hk4⟩ := fin (some .ret) W3 hk3
          exact ⟨_, _, hr, .inr ⟨rfl, hIx _ _ _ _ hi3 hl3 rfl (by omega), hl4, hk4⟩⟩
        | exit id => exact hp.elim
        | goto t => exact hp.elim
        | panic ch => exact hp.elim
        | outgrown => exact hp.elim
      | ret => exact hp.elim
      | exit id => exact hp.elim
      | goto t => exact hp.elim
      | panic ch => exact hp.elim
      | outgrown => exact hp.elim
    · rintro e W2 ⟨⟨v, rfl⟩, (⟨z, hS, hi, hl, hk⟩ | ⟨hi, hl, hk⟩)⟩
      · exact ⟨none, _, by have := run_endLoop (P := P) hl (by rw [hrec]; simp); rw [hrec] at this; exact this, hdone _ z _ (Nat.le_refl _) hS (hI _ _ _ _ _ hi hl rfl (by omega)) ((World.putObj_heap_other (by omega)).trans hk)⟩
      · exact ⟨some .ret, _, by have := run_endLoop (P := P) hl (by rw [hrec]; simp); rw [hrec] at this; exact this, hstop _ _ (Nat.le_refl _) (hIx _ _ _ _ hi hl rfl (by omega)) ((World.putObj_heap_other (by omega)).trans hk)⟩
theorem region3 {F : Fence} {n : Nat} {P : Program} {ops : Array Oper} {Q : Exit → Act → World → Prop} {id : Nat} {a : Act} {w : World} (hm : P.follows .mixedOrders = true) (hs : ops.size = 3)
    (r0 : Region.ready .any ops #[false, false, false] = [0, 1]) (r1 : Region.ready .any ops #[true, false, false] = [1]) (r2 : Region.ready .any ops #[false, true, false] = [0]) (r3 : Region.ready .any ops #[true, true, false] = [2]) (r4 : Region.ready .any ops #[true, true, true] = [])
    (h1 : wpOpIn F n P ops Q 0 (fun a w => wpOpIn F n P ops Q 1 (fun a w => wpOpIn F n P ops Q 2 (fun a w => Q .normal a w) a w) a w) a w.drew)
    (h2 : wpOpIn F n P ops Q 1 (fun a w => wpOpIn F n P ops Q 0 (fun a w => wpOpIn F n P ops Q 2 (fun a w => Q .normal a w) a w) a w) a w.drew) : (Code.region id ops true).wpIn F n P Q a w := by
  refine wpIn_region_any hm ?_
  rw [hs]
  have e : Array.replicate 3 false = #[false, false, false] := rfl
  rw [e]
  have last : ∀ a w, wpOpIn F n P ops Q 2 (fun a w => Q .normal a w) a w → wpAnyIn F n P .any ops Q 1 #[true, true, false] a w := fun a w h => by
    unfold wpAnyIn
    rw [r3]
    refine ⟨fun h => (by cases h), fun i hi => ?_⟩
    obtain rfl := List.mem_singleton.1 hi
    refine wpOpIn_mono (fun a w h => ?_) h
    unfold wpAnyIn
    exact ⟨r4, h⟩
  unfold wpAnyIn
  rw [r0]
  refine ⟨fun h => (by cases h), fun i hi => ?_⟩
  have hi : i = 0 ∨ i = 1 := by simpa using hi
  rcases hi with rfl | rfl
  · refine wpOpIn_mono (fun a w h => ?_) h1
    unfold wpAnyIn
    show (Region.ready .any ops #[true, false, false] = [] → _) ∧ ∀ i ∈ Region.ready .any ops #[true, false, false], _
    rw [r1]
    refine ⟨fun h => (by cases h), fun i hi => ?_⟩
    obtain rfl := List.mem_singleton.1 hi
    exact wpOpIn_mono (fun a w h => last a w h) h
  · refine wpOpIn_mono (fun a w h => ?_) h2
    unfold wpAnyIn
    show (Region.ready .any ops #[false, true, false] = [] → _) ∧ ∀ i ∈ Region.ready .any ops #[false, true, false], _
    rw [r2]
    refine ⟨fun h => (by cases h), fun i hi => ?_⟩
    obtain rfl := List.mem_singleton.1 hi
    exact wpOpIn_mono (fun a w h => last a w h) h
end Go.Proofs.YtbagppdibncfdaaGreatDoor
