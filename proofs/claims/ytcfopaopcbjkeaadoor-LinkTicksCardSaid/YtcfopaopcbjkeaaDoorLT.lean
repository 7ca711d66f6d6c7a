
/- LinkTicks, plainly. -/
import Derived.Test.YtcfopaopcbjkeaaDoorLM
namespace Go.Proofs.YtcfopaopcbjkeaaDoor
set_option linter.unusedSimpArgs false
set_option linter.unusedVariables false

def tf (j : Nat) : Fr := ⟨101, 5, 0, (j : Int), [(j : Int), (j : Int)]⟩
def tk : Nat → Snd
  | 0 => Snd.new 5 0
  | i + 1 => (tk i).sent 101 [(i : Int), (i : Int)]
theorem tk_eq (i : Nat) : tk i = ⟨5, 0, (i : Int), 0, (List.range i).map fun j => (tf j, (0 : Int))⟩ := by
  induction i with
  | zero => rfl
  | succ i ih =>
    show (tk i).sent 101 [(i : Int), (i : Int)] = _
    rw [ih]
    simp only [Snd.sent, Snd.frame, List.range_succ, List.map_append, List.map_cons, List.map_nil, tf]
    rfl
theorem tf_code (j : Nat) (hj : j ≤ 1000000) : (tf j).code = 0 := by
  have h1 : inB (j : Int) 2147483648 = true := by simp [inB]; omega
  have h2 : anyFar [(j : Int), (j : Int)] = false := by
    simp only [anyFar, List.any_cons, List.any_nil, farB]
    simp
    omega
  unfold Fr.code tf
  simp only
  rw [h1, h2]
  rfl
theorem tk_err (i : Nat) (hi : i < 200) : (tk i).err 101 [(i : Int), (i : Int)] = 0 := by
  have hc : ((tk i).frame 101 [(i : Int), (i : Int)]).code = 0 := by
    rw [tk_eq]
    exact tf_code i (by omega)
  have hl : (tk i).l.length = i := by rw [tk_eq]; simp
  unfold Snd.err
  rw [if_neg (fun e => e hc), if_neg (by decide), if_neg (by omega)]
theorem tk_ok (i : Nat) (hi : i ≤ 200) : (tk i).Ok i := by
  rw [tk_eq]
  exact ⟨by simp only; omega, by simp only; omega, fun k hk => by
    obtain ⟨j, _, rfl⟩ := List.mem_map.1 hk
    simp, by simp; exact hi⟩
theorem range_filter (a : Int) (m : Nat) : (List.range m).filter (fun j : Nat => decide (a ≤ (j : Int))) = List.range' a.toNat (m - a.toNat) := by
  induction m with
  | zero => simp
  | succ m ih =>
    rw [List.range_succ, List.filter_append, ih]
    by_cases h : a ≤ (m : Int)
    · have h1 : m + 1 - a.toNat = (m - a.toNat) + 1 := by omega
      rw [h1, List.range'_1_concat]
      simp [h]
    · have h1 : m + 1 - a.toNat = 0 := by omega
      have h2 : m - a.toNat = 0 := by omega
      rw [h1, h2]
      simp [h]
/-- After so many ticks: what is left, and when it was sent last. -/
def tks (many a left k : Nat) : Snd := ⟨5, 0, (many : Int), (k : Int), (List.range' a left).map fun j => (tf j, ((3 * (k / 3) : Nat) : Int))⟩
theorem tk_acked (many : Nat) (acked : Int) : (tk many).acked acked = tks many acked.toNat (many - acked.toNat) 0 := by
  rw [tk_eq]
  unfold Snd.acked tks
  simp only [List.filter_map, Snd.mk.injEq, true_and]
  rw [← range_filter]
  exact ⟨rfl, rfl⟩
theorem tks_tick (many a left k : Nat) : (tks many a left k).tick = tks many a left (k + 1) := by
  have hl : (tks many a left k).l.map (tks many a left k).stamp = (tks many a left (k + 1)).l := by
    show ((List.range' a left).map fun j => (tf j, ((3 * (k / 3) : Nat) : Int))).map (tks many a left k).stamp = (List.range' a left).map fun j => (tf j, ((3 * ((k + 1) / 3) : Nat) : Int))
    rw [List.map_map]
    refine List.map_congr_left fun j _ => ?_
    show (tks many a left k).stamp (tf j, ((3 * (k / 3) : Nat) : Int)) = _
    unfold Snd.stamp
    have hL : (tks many a left k).late (tf j, ((3 * (k / 3) : Nat) : Int)) = decide ((k + 1) % 3 = 0) := by
      show decide ((k : Int) + 1 - ((3 * (k / 3) : Nat) : Int) = 3) = _
      by_cases h : (k + 1) % 3 = 0
      · rw [decide_eq_true h]; exact decide_eq_true (by omega)
      · rw [decide_eq_false h]; exact decide_eq_false (by omega)
    rw [hL]
    by_cases h : (k + 1) % 3 = 0
    · rw [if_pos (decide_eq_true h)]
      refine Prod.ext rfl ?_
      show (k : Int) + 1 = _
      omega
    · rw [if_neg (by simp [h])]
      refine Prod.ext rfl ?_
      show ((3 * (k / 3) : Nat) : Int) = _
      omega
  unfold Snd.tick
  rw [hl]
  show Snd.mk 5 0 (many : Int) ((k : Int) + 1) _ = Snd.mk 5 0 (many : Int) ((k + 1 : Nat) : Int) _
  rw [show ((k + 1 : Nat) : Int) = (k : Int) + 1 by omega]
  rfl
theorem tks_again (many a left k : Nat) : (tks many a left k).again = if (k + 1) % 3 = 0 then (List.range' a left).map tf else [] := by
  unfold Snd.again
  by_cases h : (k + 1) % 3 = 0
  · rw [if_pos h, List.filter_eq_self.2 fun x hx => ?_]
    · simp [tks, Function.comp]
    · simp only [tks] at hx
      obtain ⟨j, _, rfl⟩ := List.mem_map.1 hx
      exact decide_eq_true (show (k : Int) + 1 - ((3 * (k / 3) : Nat) : Int) = 3 by omega)
  · rw [if_neg h, List.filter_eq_nil_iff.2 fun x hx => ?_]
    · rfl
    · simp only [tks] at hx
      obtain ⟨j, _, rfl⟩ := List.mem_map.1 hx
      exact fun e => by
        have := of_decide_eq_true e
        have h2 : (k : Int) + 1 - ((3 * (k / 3) : Nat) : Int) = 3 := this
        omega
theorem tks_ok (many a left k : Nat) (hl : left ≤ 200) (hk : k ≤ 1000) (hm : many ≤ 1000) : (tks many a left k).Ok 1000 :=
  ⟨by simp only [tks]; omega, by simp only [tks]; omega, fun x hx => by
    simp only [tks] at hx ⊢
    obtain ⟨j, _, rfl⟩ := List.mem_map.1 hx
    simp only
    omega, by simp [tks]; exact hl⟩
theorem tks_len (many a left k : Nat) : (tks many a left k).l.length = left := by simp [tks]
theorem tks_nums (many a left k : Nat) : ∀ x ∈ (tks many a left k).l, x.1.nums.length ≤ 1000 := fun x hx => by
  simp only [tks] at hx
  obtain ⟨j, _, rfl⟩ := List.mem_map.1 hx
  simp [tf]
end Go.Proofs.YtcfopaopcbjkeaaDoor
