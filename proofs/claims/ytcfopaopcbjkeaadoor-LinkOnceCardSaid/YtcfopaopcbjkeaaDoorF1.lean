
/- The frame: its sum is walked; the sum of the other road. -/
import Derived.Test.YtcfopaopcbjkeaaDoorBase
import Derived.Test.YtcfopaopcbjkeaaDoorFM
import Derived.Test.YtcfopaopcbjkeaaDoorProg
import Derived.Laws.BitsAllLaws
namespace Go.Proofs.YtcfopaopcbjkeaaDoor
set_option linter.unusedSimpArgs false
set_option linter.unusedVariables false
open Go Go.RowKit

theorem i64_xor_nat (a b : Nat) (ha : a < 9223372036854775808) (hb : b < 9223372036854775808) : bits .xor .i64 (a : Int) (b : Int) = ((a ^^^ b : Nat) : Int) := by
  have hx : a ^^^ b < 2 ^ 63 := Nat.xor_lt_two_pow (by omega) (by omega)
  show IntKind.i64.wrap ((BitVec.ofInt 64 (a : Int) ^^^ BitVec.ofInt 64 (b : Int)).toNat : Int) = _
  rw [BitVec.toNat_xor, ofInt_u64 a (by omega), ofInt_u64 b (by omega)]
  generalize a ^^^ b = x at *
  simp only [IntKind.wrap, IntKind.bits, IntKind.signed]
  simp
  omega

set_option maxRecDepth 100000 in
set_option maxHeartbeats 1600000 in
theorem refcrc_any (s : ByteArray) (w : World) (hs : s.size ≤ 1000000) : Calls Tryd.prog 62 #[.string s] w fun e w' => e = .returned (.int .i64 (crc s.data.toList : Int)) ∧ w = w' := by
  go_enter Tryd.func62, Tryd.ntmps62
  go_wp2
  go_loop [3, 4] (fun t3 t4 => ∃ k : Nat, k ≤ s.size ∧ t4 = .int .i64 (k : Int) ∧ t3 = .int .i64 (crcGo 4294967295 (s.data.toList.take k) : Int)) (fun _ t4 => s.size - (intOf t4).toNat)
  case atStart => exact ⟨0, Nat.zero_le _, rfl, rfl⟩
  case round =>
    obtain ⟨k, hk, rfl, rfl⟩ := hrel
    have hlt32 := crcGo_lt (c := 4294967295) (by omega) (s.data.toList.take k)
    by_cases hlt : k < s.size
    · have hlen : k < s.data.toList.length := by simpa using hlt
      have hstep := hid (crcGo_take_succ 4294967295 s.data.toList k hlen)
      generalize crcGo 4294967295 (s.data.toList.take k) = c at *
      have hb : s[k].toNat < 256 := byte_lt _
      have hsk : s.data.toList[k] = s[k] := rfl
      rw [hsk, ← refBits_8] at hstep
      go_wp2
      go_loop [3, 5] (fun t3 t5 => ∃ j : Nat, j ≤ 8 ∧ t5 = .int .i64 (j : Int) ∧ t3 = .int .i64 (refBits c s[k].toNat j : Int)) (fun _ t5 => 8 - (intOf t5).toNat)
      case atStart => exact ⟨0, Nat.zero_le _, rfl, rfl⟩
      case round =>
        obtain ⟨j, hj, rfl, rfl⟩ := hrel
        have hc3 := refBits_lt (b := s[k].toNat) hlt32 j
        by_cases hj8 : j < 8
        · have hnx : refBits c s[k].toNat (j + 1) = refBit (refBits c s[k].toNat j) (s[k].toNat / 2 ^ j) := rfl
          generalize refBits c s[k].toNat j = d at *
          have hxb : s[k].toNat / 2 ^ j < 256 := Nat.lt_of_le_of_lt (Nat.div_le_self _ _) hb
          have hxc : (s[k].toNat : Int) / 2 ^ j = ((s[k].toNat / 2 ^ j : Nat) : Int) := by simp
          have Hxc := hid hxc
          clear hxc
          have e2 : ((d / 2 : Nat) : Int) = (d : Int) / 2 := by omega
          have H1 := hid (i64_xor_nat d (s[k].toNat / 2 ^ j) (by omega) (by omega))
          have H2 : Hid (bits .xor .i64 ((d / 2 : Nat) : Int) 3988292384 = _) := hid (i64_xor_nat (d / 2) 3988292384 (by omega) (by omega))
          have Hnx := hid hnx
          have He := hid e2
          clear hnx e2
          go_wp2
          · rename_i ht
            refine ⟨⟨j + 1, by omega, by go_num, ?_⟩, by simp [intOf]; omega⟩
            rw [Hxc.out, H1.out] at ht
            rw [← He.out, H2.out, Hnx.out]
            unfold refBit
            generalize d ^^^ (s[k].toNat / 2 ^ j) = y at *
            have hy : y % 2 = 1 := by
              have := eq_of_beq ht
              have h3 := Int.tmod_eq_emod_of_nonneg (b := 2) (Int.natCast_nonneg y)
              omega
            rw [if_pos hy]
          · rename_i ht
            refine ⟨⟨j + 1, by omega, by go_num, ?_⟩, by simp [intOf]; omega⟩
            rw [Hxc.out, H1.out] at ht
            rw [← He.out, Hnx.out]
            unfold refBit
            generalize d ^^^ (s[k].toNat / 2 ^ j) = y at *
            have hy : ¬ y % 2 = 1 := by
              intro hy
              have h3 := Int.tmod_eq_emod_of_nonneg (b := 2) (Int.natCast_nonneg y)
              have h2 : ((y : Int).tmod 2) = 1 := by omega
              rw [h2] at ht
              cases ht
            rw [if_neg hy]
        · obtain rfl : j = 8 := by omega
          rw [← hstep.out]
          clear hstep
          go_wp2
          exact ⟨⟨k + 1, by omega, by go_num, rfl⟩, by simp [intOf]; omega⟩
    · obtain rfl : k = s.size := by omega
      have hfull : s.data.toList.take s.size = s.data.toList := List.take_of_length_le (by simp)
      rw [hfull] at hlt32 ⊢
      have Hx : Hid (bits .xor .i64 (crcGo 4294967295 s.data.toList : Int) 4294967295 = _) := hid (i64_xor_nat (crcGo 4294967295 s.data.toList) 4294967295 (by omega) (by omega))
      go_wp2
      go_ret
      refine ⟨?_, rfl⟩
      show Ending.returned (Value.int .i64 (bits .xor .i64 _ 4294967295)) = _
      rw [Hx.out]
      rfl
end Go.Proofs.YtcfopaopcbjkeaaDoor
