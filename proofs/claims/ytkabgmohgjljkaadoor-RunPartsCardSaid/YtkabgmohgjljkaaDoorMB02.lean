/- Texts of one proof, put together: F1 F2 In F3. -/
import Derived.Test.YtkabgmohgjljkaaDoorMB01
import Derived.Test.YtkabgmohgjljkaaDoorProg
import Derived.Laws.BitsAllLaws
import Derived.Laws.IdiomStrings
import Derived.Laws.Concat
import Derived.OpenShut

/- The frame: its sum is walked; the sum of the other road. -/
namespace Go.Proofs.YtkabgmohgjljkaaDoor
set_option linter.unusedSimpArgs false
set_option linter.unusedVariables false
open Go Go.RowKit

theorem i64_xor_nat (a b : Nat) (ha : a < 9223372036854775808) (hb : b < 9223372036854775808) : bits .xor .i64 (a : Int) (b : Int) = ((a ^^^ b : Nat) : Int) := by
  have hx : a ^^^ b < 2 ^ 63 := Nat.xor_lt_two_pow (by omega) (by omega)
  show IntKind.i64.wrap ((BitVec.ofInt 64 (a : Int) ^^^ BitVec.ofInt 64 (b : Int)).toNat : Int) = _
  rw [BitVec.toNat_xor, ofInt_u64 a (by omega), ofInt_u64 b (by omega)]
  generalize a ^^^ b = x at *
  simp only [IntKind.wrap, IntKind.bits, IntKind.signed]
  simp
  omega

set_option maxRecDepth 100000 in
set_option maxHeartbeats 1600000 in
theorem refcrc_any (s : ByteArray) (w : World) (hs : s.size ≤ 1000000) : Calls Tryd.prog 40 #[.string s] w fun e w' => e = .returned (.int .i64 (crc s.data.toList : Int)) ∧ w = w' := by
  go_enter Tryd.func40, Tryd.ntmps40
  go_wp2
  go_loop [3, 4] (fun t3 t4 => ∃ k : Nat, k ≤ s.size ∧ t4 = .int .i64 (k : Int) ∧ t3 = .int .i64 (crcGo 4294967295 (s.data.toList.take k) : Int)) (fun _ t4 => s.size - (intOf t4).toNat)
  case atStart => exact ⟨0, Nat.zero_le _, rfl, rfl⟩
  case round =>
    obtain ⟨k, hk, rfl, rfl⟩ := hrel
    have hlt32 := crcGo_lt (c := 4294967295) (by omega) (s.data.toList.take k)
    by_cases hlt : k < s.size
    · have hlen : k < s.data.toList.length := by simpa using hlt
      have hstep := hid (crcGo_take_succ 4294967295 s.data.toList k hlen)
      generalize crcGo 4294967295 (s.data.toList.take k) = c at *
      have hb : s[k].toNat < 256 := byte_lt _
      have hsk : s.data.toList[k] = s[k] := rfl
      rw [hsk, ← refBits_8] at hstep
      go_wp2
      go_loop [3, 5] (fun t3 t5 => ∃ j : Nat, j ≤ 8 ∧ t5 = .int .i64 (j : Int) ∧ t3 = .int .i64 (refBits c s[k].toNat j : Int)) (fun _ t5 => 8 - (intOf t5).toNat)
      case atStart => exact ⟨0, Nat.zero_le _, rfl, rfl⟩
      case round =>
        obtain ⟨j, hj, rfl, rfl⟩ := hrel
        have hc3 := refBits_lt (b := s[k].toNat) hlt32 j
        by_cases hj8 : j < 8
        · have hnx : refBits c s[k].toNat (j + 1) = refBit (refBits c s[k].toNat j) (s[k].toNat / 2 ^ j) := rfl
          generalize refBits c s[k].toNat j = d at *
          have hxb : s[k].toNat / 2 ^ j < 256 := Nat.lt_of_le_of_lt (Nat.div_le_self _ _) hb
          have hxc : (s[k].toNat : Int) / 2 ^ j = ((s[k].toNat / 2 ^ j : Nat) : Int) := by simp
          have Hxc := hid hxc
          clear hxc
          have e2 : ((d / 2 : Nat) : Int) = (d : Int) / 2 := by omega
          have H1 := hid (i64_xor_nat d (s[k].toNat / 2 ^ j) (by omega) (by omega))
          have H2 : Hid (bits .xor .i64 ((d / 2 : Nat) : Int) 3988292384 = _) := hid (i64_xor_nat (d / 2) 3988292384 (by omega) (by omega))
          have Hnx := hid hnx
          have He := hid e2
          clear hnx e2
          go_wp2
          · rename_i ht
            refine ⟨⟨j + 1, by omega, by go_num, ?_⟩, by simp [intOf]; omega⟩
            rw [Hxc.out, H1.out] at ht
            rw [← He.out, H2.out, Hnx.out]
            unfold refBit
            generalize d ^^^ (s[k].toNat / 2 ^ j) = y at *
            have hy : y % 2 = 1 := by
              have := eq_of_beq ht
              have h3 := Int.tmod_eq_emod_of_nonneg (b := 2) (Int.natCast_nonneg y)
              omega
            rw [if_pos hy]
          · rename_i ht
            refine ⟨⟨j + 1, by omega, by go_num, ?_⟩, by simp [intOf]; omega⟩
            rw [Hxc.out, H1.out] at ht
            rw [← He.out, Hnx.out]
            unfold refBit
            generalize d ^^^ (s[k].toNat / 2 ^ j) = y at *
            have hy : ¬ y % 2 = 1 := by
              intro hy
              have h3 := Int.tmod_eq_emod_of_nonneg (b := 2) (Int.natCast_nonneg y)
              have h2 : ((y : Int).tmod 2) = 1 := by omega
              rw [h2] at ht
              cases ht
            rw [if_neg hy]
        · obtain rfl : j = 8 := by omega
          rw [← hstep.out]
          clear hstep
          go_wp2
          exact ⟨⟨k + 1, by omega, by go_num, rfl⟩, by simp [intOf]; omega⟩
    · obtain rfl : k = s.size := by omega
      have hfull : s.data.toList.take s.size = s.data.toList := List.take_of_length_le (by simp)
      rw [hfull] at hlt32 ⊢
      have Hx : Hid (bits .xor .i64 (crcGo 4294967295 s.data.toList : Int) 4294967295 = _) := hid (i64_xor_nat (crcGo 4294967295 s.data.toList) 4294967295 (by omega) (by omega))
      go_wp2
      go_ret
      refine ⟨?_, rfl⟩
      show Ending.returned (Value.int .i64 (bits .xor .i64 _ 4294967295)) = _
      rw [Hx.out]
      rfl
end Go.Proofs.YtkabgmohgjljkaaDoor


/- The frame: its small functions are walked. -/
namespace Go.Proofs.YtkabgmohgjljkaaDoor
set_option linter.unusedSimpArgs false
set_option linter.unusedVariables false
open Go Go.RowKit

set_option maxRecDepth 100000 in
set_option maxHeartbeats 400000 in
theorem within_any (n m : Int) (w : World) : Calls Tryd.prog 52 #[.int .i64 n, .int .i64 m] w fun e w' => e = .returned (.bool (decide (0 ≤ n) && decide (n ≤ m))) ∧ w = w' := by
  by_cases h1 : 0 ≤ n
  · go_enter Tryd.func52, Tryd.ntmps52
    go_wp2
    go_ret
    simp [h1]
  · go_enter Tryd.func52, Tryd.ntmps52
    go_wp2
    go_ret
    simp; omega

/-- A row of bytes. -/
def bcells (l : List UInt8) : List Value := l.map fun b => Value.int .u8 (b.toNat : Int)
def high4 (n : Nat) : List UInt8 := [UInt8.ofNat (n / 16777216), UInt8.ofNat (n / 65536), UInt8.ofNat (n / 256), UInt8.ofNat n]
def low4 (n : Nat) : List UInt8 := [UInt8.ofNat n, UInt8.ofNat (n / 256), UInt8.ofNat (n / 65536), UInt8.ofNat (n / 16777216)]
theorem byte_cell (k : Nat) : Value.int .u8 ((UInt8.ofNat k).toNat : Int) = Value.int .u8 ((k : Int) % 256) := by
  congr 1
theorem high4_cells (n : Nat) (hn : n ≤ 4294967295) : (bcells (high4 n)).toArray = #[Value.int .u8 ((n : Int) / 16777216), Value.int .u8 ((n : Int) / 65536 % 256), Value.int .u8 ((n : Int) / 256 % 256), Value.int .u8 ((n : Int) % 256)] := by
  have h : ((n : Int) / 16777216) = ((n / 16777216 : Nat) : Int) % 256 := by omega
  simp only [bcells, high4, List.map_cons, List.map_nil, byte_cell]
  rw [h]
  rfl
theorem low4_cells (n : Nat) (hn : n ≤ 4294967295) : (bcells (low4 n)).toArray = #[Value.int .u8 ((n : Int) % 256), Value.int .u8 ((n : Int) / 256 % 256), Value.int .u8 ((n : Int) / 65536 % 256), Value.int .u8 ((n : Int) / 16777216)] := by
  have h : ((n : Int) / 16777216) = ((n / 16777216 : Nat) : Int) % 256 := by omega
  simp only [bcells, low4, List.map_cons, List.map_nil, byte_cell]
  rw [h]
  rfl

/-- Bytes of one block, read as a text. -/
theorem run_text_of (w : World) (g cap : Nat) (l : List UInt8) (c : Array Value) (hb : Blk w g c 5) (hc : ∀ j, j < l.length → c[j]? = (bcells l)[j]?) :
    (convert 126 9 (.slice (some ⟨g, 0, none⟩) l.length cap)).run Tryd.prog w = .ok (.string ⟨l.toArray⟩) w := by
  refine run_convert_bytes_back w 126 9 5 ⟨g, 0, none⟩ cap l Tryd.underlying126 Tryd.underlying5 Tryd.underlying9 fun j hj => ?_
  rw [show (⟨g, 0, none⟩ : Addr).add j = ⟨g, j, none⟩ from by by_cases h0 : j = 0 <;> simp [Addr.add, h0], hb.cell j, hc j hj]
  simp [bcells, hj]

set_option maxRecDepth 100000 in
set_option maxHeartbeats 400000 in
theorem byte_any (n : Nat) (w : World) (hn : n ≤ 4294967295) : Calls Tryd.prog 37 #[.int .i64 (n : Int)] w fun e w' => e = .returned (.string ⟨#[UInt8.ofNat n]⟩) ∧ Ext w w' := by
  have hcv := run_text_of (w.alloc (.cells (bcells [UInt8.ofNat n]).toArray 5)) w.heap.size 1 [UInt8.ofNat n] (bcells [UInt8.ofNat n]).toArray (Blk.new _ _ _) (fun j hj => by simp)
  have hb : (bcells [UInt8.ofNat n]).toArray = #[Value.int .u8 ((n : Int) % 256)] := by
    simp only [bcells, List.map_cons, List.map_nil, byte_cell]
  rw [hb, show ([UInt8.ofNat n] : List UInt8).length = 1 from rfl] at hcv
  clear hb
  by_cases h : n < 256
  · have h2 : (n : Int) % 256 = n := by omega
    rw [h2] at hcv
    go_enter Tryd.func37, Tryd.ntmps37
    go_wp2
    go_ret
    exact ⟨rfl, (Ext.refl w).alloc _⟩
  · go_enter Tryd.func37, Tryd.ntmps37
    go_wp2
    go_ret
    exact ⟨rfl, (Ext.refl w).alloc _⟩

theorem byte_arg {k : Nat} {x : Int} (hx : (k : Int) = x) (hk : k ≤ 4294967295) (w : World) : Calls Tryd.prog 37 #[.int .i64 x] w fun e w' => e = .returned (.string ⟨#[UInt8.ofNat k]⟩) ∧ Ext w w' := by
  subst hx; exact byte_any k w hk
theorem ofNat_mod (k : Nat) : UInt8.ofNat (k % 256) = UInt8.ofNat k := by
  apply UInt8.toNat_inj.1
  simp [UInt8.toNat_ofNat']


set_option maxRecDepth 100000 in
set_option maxHeartbeats 800000 in
theorem refhigh_any (n : Nat) (hn : n ≤ 4294967295) (w : World) : Calls Tryd.prog 38 #[.int .i64 (n : Int)] w fun e w' => e = .returned (.string ⟨(high4 n).toArray⟩) ∧ Ext w w' := by
  have B1 := fun w => hid (byte_arg (x := (n : Int) / 16777216) (k := n / 16777216) (by omega) (by omega) w)
  have B2 := fun w => hid (byte_arg (x := (n : Int) / 65536 % 256) (k := n / 65536 % 256) (by omega) (by omega) w)
  have B3 := fun w => hid (byte_arg (x := (n : Int) / 256 % 256) (k := n / 256 % 256) (by omega) (by omega) w)
  have B4 := fun w => hid (byte_arg (x := (n : Int) % 256) (k := n % 256) (by omega) (by omega) w)
  rw [ofNat_mod] at B2 B3 B4
  go_enter Tryd.func38, Tryd.ntmps38
  go_wp2_with fail
  refine (B1 _).out.mono ?_
  intro e w1 hx
  obtain ⟨rfl, x1⟩ := hx
  go_wp2_with fail
  refine (B2 _).out.mono ?_
  intro e w2 hx
  obtain ⟨rfl, x2⟩ := hx
  go_wp2_with fail
  refine (B3 _).out.mono ?_
  intro e w3 hx
  obtain ⟨rfl, x3⟩ := hx
  go_wp2_with fail
  refine (B4 _).out.mono ?_
  intro e w4 hx
  obtain ⟨rfl, x4⟩ := hx
  go_wp2
  go_ret
  refine ⟨?_, x1.trans (x2.trans (x3.trans x4))⟩
  show Ending.returned (Value.string _) = Ending.returned (Value.string _)
  (congr 2 <;> exact ByteArray.ext (by simp [high4]))

set_option maxRecDepth 100000 in
set_option maxHeartbeats 800000 in
theorem reflow_any (n : Nat) (hn : n ≤ 4294967295) (w : World) : Calls Tryd.prog 39 #[.int .i64 (n : Int)] w fun e w' => e = .returned (.string ⟨(low4 n).toArray⟩) ∧ Ext w w' := by
  have B4 := fun w => hid (byte_arg (x := (n : Int) / 16777216) (k := n / 16777216) (by omega) (by omega) w)
  have B3 := fun w => hid (byte_arg (x := (n : Int) / 65536 % 256) (k := n / 65536 % 256) (by omega) (by omega) w)
  have B2 := fun w => hid (byte_arg (x := (n : Int) / 256 % 256) (k := n / 256 % 256) (by omega) (by omega) w)
  have B1 := fun w => hid (byte_arg (x := (n : Int) % 256) (k := n % 256) (by omega) (by omega) w)
  rw [ofNat_mod] at B1 B2 B3
  go_enter Tryd.func39, Tryd.ntmps39
  go_wp2_with fail
  refine (B1 _).out.mono ?_
  intro e w1 hx
  obtain ⟨rfl, x1⟩ := hx
  go_wp2_with fail
  refine (B2 _).out.mono ?_
  intro e w2 hx
  obtain ⟨rfl, x2⟩ := hx
  go_wp2_with fail
  refine (B3 _).out.mono ?_
  intro e w3 hx
  obtain ⟨rfl, x3⟩ := hx
  go_wp2_with fail
  refine (B4 _).out.mono ?_
  intro e w4 hx
  obtain ⟨rfl, x4⟩ := hx
  go_wp2
  go_ret
  refine ⟨?_, x1.trans (x2.trans (x3.trans x4))⟩
  show Ending.returned (Value.string _) = Ending.returned (Value.string _)
  (congr 2 <;> exact ByteArray.ext (by simp [low4]))

/-- Four bytes, high first. -/
def num4 (a b c d : UInt8) : Nat := a.toNat * 16777216 + b.toNat * 65536 + c.toNat * 256 + d.toNat
def at8 (s : ByteArray) (i : Nat) : UInt8 := s.data.toList.getD i 0
def four (s : ByteArray) (i : Nat) : Nat := num4 (at8 s i) (at8 s (i + 1)) (at8 s (i + 2)) (at8 s (i + 3))
theorem at8_get (s : ByteArray) (i : Nat) (h : i < s.size) : s[i] = at8 s i := by
  unfold at8
  have h2 : i < s.data.toList.length := by simpa using h
  rw [List.getD_eq_getElem?_getD, List.getElem?_eq_getElem h2]
  rfl
theorem i64_or_nat (a b : Nat) (ha : a < 9223372036854775808) (hb : b < 9223372036854775808) : bits .or .i64 (a : Int) (b : Int) = ((a ||| b : Nat) : Int) := by
  have hx : a ||| b < 2 ^ 63 := Nat.or_lt_two_pow (by omega) (by omega)
  show IntKind.i64.wrap ((BitVec.ofInt 64 (a : Int) ||| BitVec.ofInt 64 (b : Int)).toNat : Int) = _
  rw [BitVec.toNat_or, ofInt_u64 a (by omega), ofInt_u64 b (by omega)]
  generalize a ||| b = x at *
  simp only [IntKind.wrap, IntKind.bits, IntKind.signed]
  simp
  omega
theorem or4 (a b c d : UInt8) : bits .or .i64 (bits .or .i64 (bits .or .i64 ((a.toNat : Int) * 16777216) ((b.toNat : Int) * 65536)) ((c.toNat : Int) * 256)) (d.toNat : Int) = (num4 a b c d : Int) := by
  have h0 := byte_lt a
  have h1 := byte_lt b
  have h2 := byte_lt c
  have h3 := byte_lt d
  unfold num4
  generalize a.toNat = a at *
  generalize b.toNat = b at *
  generalize c.toNat = c at *
  generalize d.toNat = d at *
  rw [show (a : Int) * 16777216 = ((a * 16777216 : Nat) : Int) by simp, show (b : Int) * 65536 = ((b * 65536 : Nat) : Int) by simp, show (c : Int) * 256 = ((c * 256 : Nat) : Int) by simp]
  rw [i64_or_nat _ _ (by omega) (by omega), nat_join 24 _ _ (by omega) (by omega), i64_or_nat _ _ (by omega) (by omega), nat_join 16 _ _ (by omega) (by omega), i64_or_nat _ _ (by omega) (by omega), nat_join 8 _ _ (by omega) (by omega)]

end Go.Proofs.YtkabgmohgjljkaaDoor


/- A slice of ints that came in. -/
namespace Go.Proofs.YtkabgmohgjljkaaDoor
set_option linter.unusedSimpArgs false
set_option linter.unusedVariables false
open Go Go.RowKit

/-- A slice of ints that came in: its numbers are vs. -/
structure Ints (w : World) (a : Option Addr) (len : Nat) (vs : List Int) : Prop where
  ln : vs.length = len
  sm : 0 < len → ∃ x, a = some x
  cl : ∀ x, a = some x → ∀ i, i < len → w.cell? (x.add i) = some (.int .i64 (vs.getD i 0))
  hi : ∀ i, vs.getD i 0 ≤ 9223372036854775807
theorem cell_lt {w : World} {x : Addr} {v : Value} (h : w.cell? x = some v) : x.block < w.heap.size := by
  rcases Nat.lt_or_ge x.block w.heap.size with h4 | h4
  · exact h4
  · simp [World.cell?, Array.getElem?_eq_none h4] at h
theorem add_block (x : Addr) (i : Nat) : (x.add i).block = x.block := by unfold Addr.add; split <;> rfl
theorem Ext.cellx {w w' : World} (h : Ext w w') {x : Addr} {v : Value} (hc : w.cell? x = some v) : w'.cell? x = some v := by
  have hb := h.block x.block (cell_lt hc)
  unfold World.cell? at *
  rw [hb]
  exact hc

/-- What a slice of ints that came in is. -/
theorem ints_of {H : Type} {enc : TypeId × Value → H} {P : Program} {w : World} {base : Nat} {sp : Nat → Bool} {held : Bool} {t e : TypeId} {d : DataW H} {p : List MemPlace} {a : Option Addr} {len cap : Nat}
    (ht : P.underlying t = some (.slice e)) (he : P.underlying e = some (.int .i64)) (hz : P.cellsOf e = 1)
    (h : DataW.Trod enc P w base sp held t (Value.slice a len cap) d p) : ∃ vs, Ints w a len vs ∧ (len : Int) ≤ 9223372036854775807 := by
  obtain ⟨fuel, hf⟩ := h
  rcases ChangeShapes.open_ints ht he hz hf with ⟨hcs, _⟩ | ⟨x, l, c, zs, hcs, _, hl, hm, hz, _, hcell, hwz⟩
  · simp [Value.cells] at hcs
    obtain ⟨rfl, rfl, rfl⟩ := hcs
    exact ⟨[], ⟨rfl, fun h => by omega, fun x hx => (by cases hx), fun i => by simp⟩, by omega⟩
  · simp [Value.cells] at hcs
    obtain ⟨rfl, rfl, rfl⟩ := hcs
    have hz' : len ≤ zs.length := by rw [hz]; split <;> omega
    have hml : maxLen ≤ 9223372036854775807 := by unfold maxLen; decide
    refine ⟨zs.take len, ⟨by simp; omega, fun _ => ⟨_, rfl⟩, fun y hy i hi => ?_, fun i => ?_⟩, by omega⟩
    · obtain rfl := Option.some.inj hy
      have := hcell i (by omega)
      rw [this]
      congr 2
      simp [List.getD_eq_getElem?_getD, List.getElem?_take, hi]
    · rcases Nat.lt_or_ge i (zs.take len).length with h1 | h1
      · have hmem : (zs.take len).getD i 0 ∈ zs := by
          have : (zs.take len).getD i 0 = (zs.take len)[i] := by simp [List.getD_eq_getElem?_getD, List.getElem?_eq_getElem h1]
          rw [this]
          exact List.mem_of_mem_take (List.getElem_mem h1)
        exact (bounds_i64 (hwz _ hmem)).2
      · simp [List.getD_eq_getElem?_getD, List.getElem?_eq_none h1]
end Go.Proofs.YtkabgmohgjljkaaDoor


/- The frame: what is looked for in a row; the reference's number. -/
namespace Go.Proofs.YtkabgmohgjljkaaDoor
set_option linter.unusedSimpArgs false
set_option linter.unusedVariables false
open Go Go.RowKit

def numK (s : ByteArray) : Nat → Nat
  | 0 => 0
  | k + 1 => 256 * numK s k + (at8 s k).toNat
theorem numK_four (s : ByteArray) : numK s 4 = four s 0 := by
  simp only [numK, four, num4, Nat.zero_add, Nat.mul_zero]; omega
theorem numK_lt (s : ByteArray) {k : Nat} (h : k < 4) : numK s k < 16777216 := by
  have h0 := byte_lt (at8 s 0)
  have h1 := byte_lt (at8 s 1)
  have h2 := byte_lt (at8 s 2)
  rcases (by omega : k = 0 ∨ k = 1 ∨ k = 2 ∨ k = 3) with rfl | rfl | rfl | rfl <;> simp only [numK] <;> omega

/-- What a place that was looked for tells. -/
def IdxR (p : Prop) (r : Int) : Prop := (-1 ≤ r ∧ r ≤ 9223372036854775807) ∧ (0 ≤ r ↔ p)
theorem IdxR.yes {p : Prop} {k : Nat} (hp : p) (hk : (k : Int) ≤ 9223372036854775807) : IdxR p (k : Int) := ⟨⟨by omega, hk⟩, fun _ => hp, fun _ => by omega⟩
theorem IdxR.no {p : Prop} (hp : ¬ p) : IdxR p (-1) := ⟨⟨by omega, by omega⟩, fun h => by omega, fun h => absurd h hp⟩

set_option maxRecDepth 100000 in
set_option maxHeartbeats 800000 in
theorem indexb_any (l : List UInt8) (b : UInt8) (g cap : Nat) (w : World) (hl : l.length ≤ 1000) (hb : ∀ k, (hk : k < l.length) → w.cell? ⟨g, k, none⟩ = some (.int .u8 (l[k].toNat : Int))) : Calls Tryd.prog 69 #[.slice (some ⟨g, 0, none⟩) l.length cap, .int .u8 (b.toNat : Int)] w fun e w' => ∃ r : Int, e = .returned (.int .i64 r) ∧ IdxR (b ∈ l) r ∧ w = w' := by
  have Hc : ∀ k, (hk : k < l.length) → Hid (w.cell? ⟨g, k, none⟩ = some (.int .u8 (l[k].toNat : Int))) := fun k hk => hid (hb k hk)
  clear hb
  go_enter Tryd.func69, Tryd.ntmps69
  go_wp2
  go_loop [8] (fun t8 => ∃ k : Nat, t8 = .int .i64 (k : Int) ∧ k ≤ l.length ∧ ∀ j, (h : j < l.length) → j < k → l[j] ≠ b) (fun t8 => l.length - (intOf t8).toNat)
  case atStart => exact ⟨0, rfl, Nat.zero_le _, fun j _ h => by omega⟩
  case round =>
    obtain ⟨k, rfl, hk, hne⟩ := hrel
    by_cases hlt : k < l.length
    · have hc := (Hc k hlt).out
      have Hne := hid hne
      clear hne
      by_cases he : l[k] = b
      · have hin := hid (IdxR.yes (k := k) (show b ∈ l by rw [← he]; exact List.getElem_mem hlt) (by omega))
        rw [he] at hc
        have He := hid he
        clear he
        go_wp2
        go_ret
        exact ⟨(k : Int), rfl, hin.out, rfl⟩
      · have hnn : ¬ ((b.toNat : Int) = (l[k].toNat : Int)) := fun e => he (UInt8.toNat_inj.1 (by omega))
        have He := hid he
        clear he
        go_wp2
        refine ⟨⟨k + 1, by go_num, by omega, fun j h hj => ?_⟩, by simp [intOf]; omega⟩
        by_cases hjk : j = k
        · subst hjk; exact He.out
        · exact Hne.out j h (by omega)
    · obtain rfl : k = l.length := by omega
      have hnot : ¬ b ∈ l := fun hm => by
        obtain ⟨j, hj, e⟩ := List.mem_iff_getElem.1 hm
        exact hne j hj hj e
      have hno := hid (IdxR.no hnot)
      clear hne hnot
      go_wp2
      go_ret
      exact ⟨(-1 : Int), rfl, hno.out, rfl⟩

set_option maxRecDepth 100000 in
set_option maxHeartbeats 800000 in
theorem containsb_any (l : List UInt8) (b : UInt8) (g cap : Nat) (w : World) (hl : l.length ≤ 1000) (hb : ∀ k, (hk : k < l.length) → w.cell? ⟨g, k, none⟩ = some (.int .u8 (l[k].toNat : Int))) : Calls Tryd.prog 55 #[.slice (some ⟨g, 0, none⟩) l.length cap, .int .u8 (b.toNat : Int)] w fun e w' => e = .returned (.bool (decide (b ∈ l))) ∧ w = w' := by
  have H := hid (indexb_any l b g cap w hl hb)
  clear hb
  go_enter Tryd.func55, Tryd.ntmps55
  go_wp2_with fail
  refine H.out.mono ?_
  intro e w1 hx
  obtain ⟨r, rfl, hiff, rfl⟩ := hx
  have hr := hiff.1
  have Hiff := hid hiff.2
  clear hiff H
  go_wp2
  go_ret
  refine ⟨?_, rfl⟩
  exact congrArg (fun n => Ending.returned (Value.bool n)) (decide_eq_decide.2 Hiff.out)

/-- Beyond the numbers that a frame may hold. -/
def farB (n : Int) : Bool := !(decide (0 ≤ n) && decide (n ≤ 2147483648))
def anyFar (vs : List Int) : Bool := vs.any farB
set_option maxRecDepth 100000 in
set_option maxHeartbeats 800000 in
theorem check1_any (n : Int) (w : World) : Calls Tryd.prog 54 #[.int .i64 n] w fun e w' => e = .returned (.bool (farB n)) ∧ w = w' := by
  have H := hid (within_any n 2147483648 w)
  go_enter Tryd.func54, Tryd.ntmps54
  go_wp2_with fail
  refine H.out.mono ?_
  intro e w1 hx
  obtain ⟨rfl, rfl⟩ := hx
  clear H
  go_wp2
  go_ret
  refine ⟨?_, rfl⟩
  refine congrArg (fun n => Ending.returned (Value.bool n)) ?_
  simp [farB]

set_option maxRecDepth 100000 in
set_option maxHeartbeats 800000 in
theorem indexfi_any (a : Option Addr) (len cap : Nat) (vs : List Int) (w : World) (hr : Ints w a len vs) (hl : (len : Int) ≤ 9223372036854775807) : Calls Tryd.prog 45 #[.slice a len cap, .func (.func 54) #[] #[]] w fun e w' => ∃ r : Int, e = .returned (.int .i64 r) ∧ IdxR (anyFar vs = true) r ∧ w = w' := by
  go_enter Tryd.func45, Tryd.ntmps45
  go_wp2
  have Hr := hid hr
  clear hr
  go_loop [8] (fun t8 => ∃ k : Nat, t8 = .int .i64 (k : Int) ∧ k ≤ len ∧ ∀ j, j < k → farB (vs.getD j 0) = false) (fun t8 => len - (intOf t8).toNat)
  case atStart => exact ⟨0, rfl, Nat.zero_le _, fun j h => by omega⟩
  case round =>
    obtain ⟨k, rfl, hk, hne⟩ := hrel
    have Hne := hid hne
    clear hne
    by_cases hlt : k < len
    · obtain ⟨x, rfl⟩ := Hr.out.sm (by omega)
      have hc := Hr.out.cl x rfl k hlt
      have H := hid (check1_any (vs.getD k 0) w)
      have hln := Hr.out.ln
      have hmem : vs.getD k 0 ∈ vs := by
        rw [List.getD_eq_getElem?_getD, List.getElem?_eq_getElem (by omega)]
        exact List.getElem_mem _
      obtain ⟨v, hv⟩ : ∃ v, v = vs.getD k 0 := ⟨_, rfl⟩
      rw [← hv] at hc H hmem
      have Hv := hid hv
      clear hv hln
      cases hf : farB v with
      | true =>
        have Hin := hid (IdxR.yes (k := k) (show anyFar vs = true from List.any_eq_true.2 ⟨v, hmem, hf⟩) (by omega))
        rw [hf] at H
        clear hf hmem
        go_wp2_with fail
        refine H.out.mono ?_
        intro e w1 hx
        obtain ⟨rfl, rfl⟩ := hx
        go_wp2
        go_ret
        exact ⟨(k : Int), rfl, Hin.out, rfl⟩
      | false =>
        have Hf := hid hf
        rw [hf] at H
        clear hf hmem
        go_wp2_with fail
        refine H.out.mono ?_
        intro e w1 hx
        obtain ⟨rfl, rfl⟩ := hx
        go_wp2
        refine ⟨⟨k + 1, by go_num, by omega, fun j hj => ?_⟩, by simp [intOf]; omega⟩
        by_cases hjk : j = k
        · subst hjk; rw [← Hv.out]; exact Hf.out
        · exact Hne.out j (by omega)
    · obtain rfl : k = len := by omega
      have hnot : ¬ anyFar vs = true := fun hm => by
        obtain ⟨v, hv, e⟩ := List.any_eq_true.1 hm
        obtain ⟨j, hj, e2⟩ := List.mem_iff_getElem.1 hv
        have h1 := Hne.out j (by have := Hr.out.ln; omega)
        rw [List.getD_eq_getElem?_getD, List.getElem?_eq_getElem hj] at h1
        simp only [Option.getD_some] at h1
        rw [e2, e] at h1
        cases h1
      have Hnot := hid (IdxR.no hnot)
      clear hnot
      go_wp2
      go_ret
      exact ⟨(-1 : Int), rfl, Hnot.out, rfl⟩

set_option maxRecDepth 100000 in
set_option maxHeartbeats 800000 in
theorem containsfi_any (a : Option Addr) (len cap : Nat) (vs : List Int) (w : World) (hr : Ints w a len vs) (hl : (len : Int) ≤ 9223372036854775807) : Calls Tryd.prog 53 #[.slice a len cap, .func (.func 54) #[] #[]] w fun e w' => e = .returned (.bool (anyFar vs)) ∧ w = w' := by
  have H := hid (indexfi_any a len cap vs w hr hl)
  clear hr
  go_enter Tryd.func53, Tryd.ntmps53
  go_wp2_with fail
  refine H.out.mono ?_
  intro e w1 hx
  obtain ⟨r, rfl, hiff, rfl⟩ := hx
  have hr := hiff.1
  have Hiff := hid hiff.2
  clear hiff H
  go_wp2
  go_ret
  refine ⟨?_, rfl⟩
  refine congrArg (fun n => Ending.returned (Value.bool n)) ?_
  have h1 := Hiff.out
  cases hv : anyFar vs with
  | true => rw [hv] at h1; simpa using h1
  | false => rw [hv] at h1; simpa using h1
end Go.Proofs.YtkabgmohgjljkaaDoor
