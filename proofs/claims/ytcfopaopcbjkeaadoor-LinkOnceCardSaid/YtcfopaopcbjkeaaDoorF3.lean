
/- The frame: what is looked for in a row; the reference's number. -/
import Derived.Test.YtcfopaopcbjkeaaDoorF2
import Derived.Test.YtcfopaopcbjkeaaDoorIn
namespace Go.Proofs.YtcfopaopcbjkeaaDoor
set_option linter.unusedSimpArgs false
set_option linter.unusedVariables false
open Go Go.RowKit

def numK (s : ByteArray) : Nat → Nat
  | 0 => 0
  | k + 1 => 256 * numK s k + (at8 s k).toNat
theorem numK_four (s : ByteArray) : numK s 4 = four s 0 := by
  simp only [numK, four, num4, Nat.zero_add, Nat.mul_zero]; omega
theorem numK_lt (s : ByteArray) {k : Nat} (h : k < 4) : numK s k < 16777216 := by
  have h0 := byte_lt (at8 s 0)
  have h1 := byte_lt (at8 s 1)
  have h2 := byte_lt (at8 s 2)
  rcases (by omega : k = 0 ∨ k = 1 ∨ k = 2 ∨ k = 3) with rfl | rfl | rfl | rfl <;> simp only [numK] <;> omega

/-- What a place that was looked for tells. -/
def IdxR (p : Prop) (r : Int) : Prop := (-1 ≤ r ∧ r ≤ 9223372036854775807) ∧ (0 ≤ r ↔ p)
theorem IdxR.yes {p : Prop} {k : Nat} (hp : p) (hk : (k : Int) ≤ 9223372036854775807) : IdxR p (k : Int) := ⟨⟨by omega, hk⟩, fun _ => hp, fun _ => by omega⟩
theorem IdxR.no {p : Prop} (hp : ¬ p) : IdxR p (-1) := ⟨⟨by omega, by omega⟩, fun h => by omega, fun h => absurd h hp⟩

set_option maxRecDepth 100000 in
set_option maxHeartbeats 800000 in
theorem indexb_any (l : List UInt8) (b : UInt8) (g cap : Nat) (w : World) (hl : l.length ≤ 1000) (hb : ∀ k, (hk : k < l.length) → w.cell? ⟨g, k, none⟩ = some (.int .u8 (l[k].toNat : Int))) : Calls Tryd.prog 85 #[.slice (some ⟨g, 0, none⟩) l.length cap, .int .u8 (b.toNat : Int)] w fun e w' => ∃ r : Int, e = .returned (.int .i64 r) ∧ IdxR (b ∈ l) r ∧ w = w' := by
  have Hc : ∀ k, (hk : k < l.length) → Hid (w.cell? ⟨g, k, none⟩ = some (.int .u8 (l[k].toNat : Int))) := fun k hk => hid (hb k hk)
  clear hb
  go_enter Tryd.func85, Tryd.ntmps85
  go_wp2
  go_loop [8] (fun t8 => ∃ k : Nat, t8 = .int .i64 (k : Int) ∧ k ≤ l.length ∧ ∀ j, (h : j < l.length) → j < k → l[j] ≠ b) (fun t8 => l.length - (intOf t8).toNat)
  case atStart => exact ⟨0, rfl, Nat.zero_le _, fun j _ h => by omega⟩
  case round =>
    obtain ⟨k, rfl, hk, hne⟩ := hrel
    by_cases hlt : k < l.length
    · have hc := (Hc k hlt).out
      have Hne := hid hne
      clear hne
      by_cases he : l[k] = b
      · have hin := hid (IdxR.yes (k := k) (show b ∈ l by rw [← he]; exact List.getElem_mem hlt) (by omega))
        rw [he] at hc
        have He := hid he
        clear he
        go_wp2
        go_ret
        exact ⟨(k : Int), rfl, hin.out, rfl⟩
      · have hnn : ¬ ((b.toNat : Int) = (l[k].toNat : Int)) := fun e => he (UInt8.toNat_inj.1 (by omega))
        have He := hid he
        clear he
        go_wp2
        refine ⟨⟨k + 1, by go_num, by omega, fun j h hj => ?_⟩, by simp [intOf]; omega⟩
        by_cases hjk : j = k
        · subst hjk; exact He.out
        · exact Hne.out j h (by omega)
    · obtain rfl : k = l.length := by omega
      have hnot : ¬ b ∈ l := fun hm => by
        obtain ⟨j, hj, e⟩ := List.mem_iff_getElem.1 hm
        exact hne j hj hj e
      have hno := hid (IdxR.no hnot)
      clear hne hnot
      go_wp2
      go_ret
      exact ⟨(-1 : Int), rfl, hno.out, rfl⟩

set_option maxRecDepth 100000 in
set_option maxHeartbeats 800000 in
theorem containsb_any (l : List UInt8) (b : UInt8) (g cap : Nat) (w : World) (hl : l.length ≤ 1000) (hb : ∀ k, (hk : k < l.length) → w.cell? ⟨g, k, none⟩ = some (.int .u8 (l[k].toNat : Int))) : Calls Tryd.prog 73 #[.slice (some ⟨g, 0, none⟩) l.length cap, .int .u8 (b.toNat : Int)] w fun e w' => e = .returned (.bool (decide (b ∈ l))) ∧ w = w' := by
  have H := hid (indexb_any l b g cap w hl hb)
  clear hb
  go_enter Tryd.func73, Tryd.ntmps73
  go_wp2_with fail
  refine H.out.mono ?_
  intro e w1 hx
  obtain ⟨r, rfl, hiff, rfl⟩ := hx
  have hr := hiff.1
  have Hiff := hid hiff.2
  clear hiff H
  go_wp2
  go_ret
  refine ⟨?_, rfl⟩
  exact congrArg (fun n => Ending.returned (Value.bool n)) (decide_eq_decide.2 Hiff.out)

/-- Beyond the numbers that a frame may hold. -/
def farB (n : Int) : Bool := !(decide (0 ≤ n) && decide (n ≤ 2147483648))
def anyFar (vs : List Int) : Bool := vs.any farB
set_option maxRecDepth 100000 in
set_option maxHeartbeats 800000 in
theorem check1_any (n : Int) (w : World) : Calls Tryd.prog 72 #[.int .i64 n] w fun e w' => e = .returned (.bool (farB n)) ∧ w = w' := by
  have H := hid (within_any n 2147483648 w)
  go_enter Tryd.func72, Tryd.ntmps72
  go_wp2_with fail
  refine H.out.mono ?_
  intro e w1 hx
  obtain ⟨rfl, rfl⟩ := hx
  clear H
  go_wp2
  go_ret
  refine ⟨?_, rfl⟩
  refine congrArg (fun n => Ending.returned (Value.bool n)) ?_
  simp [farB]

set_option maxRecDepth 100000 in
set_option maxHeartbeats 800000 in
theorem indexfi_any (a : Option Addr) (len cap : Nat) (vs : List Int) (w : World) (hr : Ints w a len vs) (hl : (len : Int) ≤ 9223372036854775807) : Calls Tryd.prog 65 #[.slice a len cap, .func (.func 72) #[] #[]] w fun e w' => ∃ r : Int, e = .returned (.int .i64 r) ∧ IdxR (anyFar vs = true) r ∧ w = w' := by
  go_enter Tryd.func65, Tryd.ntmps65
  go_wp2
  have Hr := hid hr
  clear hr
  go_loop [8] (fun t8 => ∃ k : Nat, t8 = .int .i64 (k : Int) ∧ k ≤ len ∧ ∀ j, j < k → farB (vs.getD j 0) = false) (fun t8 => len - (intOf t8).toNat)
  case atStart => exact ⟨0, rfl, Nat.zero_le _, fun j h => by omega⟩
  case round =>
    obtain ⟨k, rfl, hk, hne⟩ := hrel
    have Hne := hid hne
    clear hne
    by_cases hlt : k < len
    · obtain ⟨x, rfl⟩ := Hr.out.sm (by omega)
      have hc := Hr.out.cl x rfl k hlt
      have H := hid (check1_any (vs.getD k 0) w)
      have hln := Hr.out.ln
      have hmem : vs.getD k 0 ∈ vs := by
        rw [List.getD_eq_getElem?_getD, List.getElem?_eq_getElem (by omega)]
        exact List.getElem_mem _
      obtain ⟨v, hv⟩ : ∃ v, v = vs.getD k 0 := ⟨_, rfl⟩
      rw [← hv] at hc H hmem
      have Hv := hid hv
      clear hv hln
      cases hf : farB v with
      | true =>
        have Hin := hid (IdxR.yes (k := k) (show anyFar vs = true from List.any_eq_true.2 ⟨v, hmem, hf⟩) (by omega))
        rw [hf] at H
        clear hf hmem
        go_wp2_with fail
        refine H.out.mono ?_
        intro e w1 hx
        obtain ⟨rfl, rfl⟩ := hx
        go_wp2
        go_ret
        exact ⟨(k : Int), rfl, Hin.out, rfl⟩
      | false =>
        have Hf := hid hf
        rw [hf] at H
        clear hf hmem
        go_wp2_with fail
        refine H.out.mono ?_
        intro e w1 hx
        obtain ⟨rfl, rfl⟩ := hx
        go_wp2
        refine ⟨⟨k + 1, by go_num, by omega, fun j hj => ?_⟩, by simp [intOf]; omega⟩
        by_cases hjk : j = k
        · subst hjk; rw [← Hv.out]; exact Hf.out
        · exact Hne.out j (by omega)
    · obtain rfl : k = len := by omega
      have hnot : ¬ anyFar vs = true := fun hm => by
        obtain ⟨v, hv, e⟩ := List.any_eq_true.1 hm
        obtain ⟨j, hj, e2⟩ := List.mem_iff_getElem.1 hv
        have h1 := Hne.out j (by have := Hr.out.ln; omega)
        rw [List.getD_eq_getElem?_getD, List.getElem?_eq_getElem hj] at h1
        simp only [Option.getD_some] at h1
        rw [e2, e] at h1
        cases h1
      have Hnot := hid (IdxR.no hnot)
      clear hnot
      go_wp2
      go_ret
      exact ⟨(-1 : Int), rfl, Hnot.out, rfl⟩

set_option maxRecDepth 100000 in
set_option maxHeartbeats 800000 in
theorem containsfi_any (a : Option Addr) (len cap : Nat) (vs : List Int) (w : World) (hr : Ints w a len vs) (hl : (len : Int) ≤ 9223372036854775807) : Calls Tryd.prog 71 #[.slice a len cap, .func (.func 72) #[] #[]] w fun e w' => e = .returned (.bool (anyFar vs)) ∧ w = w' := by
  have H := hid (indexfi_any a len cap vs w hr hl)
  clear hr
  go_enter Tryd.func71, Tryd.ntmps71
  go_wp2_with fail
  refine H.out.mono ?_
  intro e w1 hx
  obtain ⟨r, rfl, hiff, rfl⟩ := hx
  have hr := hiff.1
  have Hiff := hid hiff.2
  clear hiff H
  go_wp2
  go_ret
  refine ⟨?_, rfl⟩
  refine congrArg (fun n => Ending.returned (Value.bool n)) ?_
  have h1 := Hiff.out
  cases hv : anyFar vs with
  | true => rw [hv] at h1; simpa using h1
  | false => rw [hv] at h1; simpa using h1
end Go.Proofs.YtcfopaopcbjkeaaDoor
