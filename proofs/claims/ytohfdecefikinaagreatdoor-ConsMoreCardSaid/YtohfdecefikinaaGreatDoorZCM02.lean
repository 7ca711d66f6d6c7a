/- Texts of one proof, put together: F1 F2 In F3. -/
import Derived.Test.YtohfdecefikinaaGreatDoorZCM01
import Derived.Test.YtohfdecefikinaaGreatDoorProg
import Derived.Laws.BitsAllLaws
import Derived.Laws.IdiomStrings
import Derived.Laws.Concat
import Derived.OpenShut

/- The frame: its sum is walked; the sum of the other road. -/
namespace Go.Proofs.YtohfdecefikinaaGreatDoor
set_option linter.unusedSimpArgs false
set_option linter.unusedVariables false
open Go Go.RowKit

theorem i64_xor_nat (a b : Nat) (ha : a < 9223372036854775808) (hb : b < 9223372036854775808) : bits .xor .i64 (a : Int) (b : Int) = ((a ^^^ b : Nat) : Int) := by
  have hx : a ^^^ b < 2 ^ 63 := Nat.xor_lt_two_pow (by omega) (by omega)
  show IntKind.i64.wrap ((BitVec.ofInt 64 (a : Int) ^^^ BitVec.ofInt 64 (b : Int)).toNat : Int) = _
  rw [BitVec.toNat_xor, ofInt_u64 a (by omega), ofInt_u64 b (by omega)]
  generalize a ^^^ b = x at *
  simp only [IntKind.wrap, IntKind.bits, IntKind.signed]
  simp
  omega

end Go.Proofs.YtohfdecefikinaaGreatDoor


/- The frame: its small functions are walked. -/
namespace Go.Proofs.YtohfdecefikinaaGreatDoor
set_option linter.unusedSimpArgs false
set_option linter.unusedVariables false
open Go Go.RowKit

/-- A row of bytes. -/
def bcells (l : List UInt8) : List Value := l.map fun b => Value.int .u8 (b.toNat : Int)
def high4 (n : Nat) : List UInt8 := [UInt8.ofNat (n / 16777216), UInt8.ofNat (n / 65536), UInt8.ofNat (n / 256), UInt8.ofNat n]
def low4 (n : Nat) : List UInt8 := [UInt8.ofNat n, UInt8.ofNat (n / 256), UInt8.ofNat (n / 65536), UInt8.ofNat (n / 16777216)]
theorem byte_cell (k : Nat) : Value.int .u8 ((UInt8.ofNat k).toNat : Int) = Value.int .u8 ((k : Int) % 256) := by
  congr 1
theorem high4_cells (n : Nat) (hn : n ≤ 4294967295) : (bcells (high4 n)).toArray = #[Value.int .u8 ((n : Int) / 16777216), Value.int .u8 ((n : Int) / 65536 % 256), Value.int .u8 ((n : Int) / 256 % 256), Value.int .u8 ((n : Int) % 256)] := by
  have h : ((n : Int) / 16777216) = ((n / 16777216 : Nat) : Int) % 256 := by omega
  simp only [bcells, high4, List.map_cons, List.map_nil, byte_cell]
  rw [h]
  rfl
theorem low4_cells (n : Nat) (hn : n ≤ 4294967295) : (bcells (low4 n)).toArray = #[Value.int .u8 ((n : Int) % 256), Value.int .u8 ((n : Int) / 256 % 256), Value.int .u8 ((n : Int) / 65536 % 256), Value.int .u8 ((n : Int) / 16777216)] := by
  have h : ((n : Int) / 16777216) = ((n / 16777216 : Nat) : Int) % 256 := by omega
  simp only [bcells, low4, List.map_cons, List.map_nil, byte_cell]
  rw [h]
  rfl

theorem ofNat_mod (k : Nat) : UInt8.ofNat (k % 256) = UInt8.ofNat k := by
  apply UInt8.toNat_inj.1
  simp [UInt8.toNat_ofNat']


/-- Four bytes, high first. -/
def num4 (a b c d : UInt8) : Nat := a.toNat * 16777216 + b.toNat * 65536 + c.toNat * 256 + d.toNat
def at8 (s : ByteArray) (i : Nat) : UInt8 := s.data.toList.getD i 0
def four (s : ByteArray) (i : Nat) : Nat := num4 (at8 s i) (at8 s (i + 1)) (at8 s (i + 2)) (at8 s (i + 3))
theorem at8_get (s : ByteArray) (i : Nat) (h : i < s.size) : s[i] = at8 s i := by
  unfold at8
  have h2 : i < s.data.toList.length := by simpa using h
  rw [List.getD_eq_getElem?_getD, List.getElem?_eq_getElem h2]
  rfl
theorem i64_or_nat (a b : Nat) (ha : a < 9223372036854775808) (hb : b < 9223372036854775808) : bits .or .i64 (a : Int) (b : Int) = ((a ||| b : Nat) : Int) := by
  have hx : a ||| b < 2 ^ 63 := Nat.or_lt_two_pow (by omega) (by omega)
  show IntKind.i64.wrap ((BitVec.ofInt 64 (a : Int) ||| BitVec.ofInt 64 (b : Int)).toNat : Int) = _
  rw [BitVec.toNat_or, ofInt_u64 a (by omega), ofInt_u64 b (by omega)]
  generalize a ||| b = x at *
  simp only [IntKind.wrap, IntKind.bits, IntKind.signed]
  simp
  omega
theorem or4 (a b c d : UInt8) : bits .or .i64 (bits .or .i64 (bits .or .i64 ((a.toNat : Int) * 16777216) ((b.toNat : Int) * 65536)) ((c.toNat : Int) * 256)) (d.toNat : Int) = (num4 a b c d : Int) := by
  have h0 := byte_lt a
  have h1 := byte_lt b
  have h2 := byte_lt c
  have h3 := byte_lt d
  unfold num4
  generalize a.toNat = a at *
  generalize b.toNat = b at *
  generalize c.toNat = c at *
  generalize d.toNat = d at *
  rw [show (a : Int) * 16777216 = ((a * 16777216 : Nat) : Int) by simp, show (b : Int) * 65536 = ((b * 65536 : Nat) : Int) by simp, show (c : Int) * 256 = ((c * 256 : Nat) : Int) by simp]
  rw [i64_or_nat _ _ (by omega) (by omega), nat_join 24 _ _ (by omega) (by omega), i64_or_nat _ _ (by omega) (by omega), nat_join 16 _ _ (by omega) (by omega), i64_or_nat _ _ (by omega) (by omega), nat_join 8 _ _ (by omega) (by omega)]

end Go.Proofs.YtohfdecefikinaaGreatDoor


/- A slice of ints that came in. -/
namespace Go.Proofs.YtohfdecefikinaaGreatDoor
set_option linter.unusedSimpArgs false
set_option linter.unusedVariables false
open Go Go.RowKit

/-- A slice of ints that came in: its numbers are vs. -/
structure Ints (w : World) (a : Option Addr) (len : Nat) (vs : List Int) : Prop where
  ln : vs.length = len
  sm : 0 < len → ∃ x, a = some x
  cl : ∀ x, a = some x → ∀ i, i < len → w.cell? (x.add i) = some (.int .i64 (vs.getD i 0))
  hi : ∀ i, vs.getD i 0 ≤ 9223372036854775807
theorem cell_lt {w : World} {x : Addr} {v : Value} (h : w.cell? x = some v) : x.block < w.heap.size := by
  rcases Nat.lt_or_ge x.block w.heap.size with h4 | h4
  · exact h4
  · simp [World.cell?, Array.getElem?_eq_none h4] at h
theorem add_block (x : Addr) (i : Nat) : (x.add i).block = x.block := by unfold Addr.add; split <;> rfl
theorem Ext.cellx {w w' : World} (h : Ext w w') {x : Addr} {v : Value} (hc : w.cell? x = some v) : w'.cell? x = some v := by
  have hb := h.block x.block (cell_lt hc)
  unfold World.cell? at *
  rw [hb]
  exact hc

/-- What a slice of ints that came in is. -/
theorem ints_of {H : Type} {enc : TypeId × Value → H} {P : Program} {w : World} {base : Nat} {sp : Nat → Bool} {held : Bool} {t e : TypeId} {d : DataW H} {p : List MemPlace} {a : Option Addr} {len cap : Nat}
    (ht : P.underlying t = some (.slice e)) (he : P.underlying e = some (.int .i64)) (hz : P.cellsOf e = 1)
    (h : DataW.Trod enc P w base sp held t (Value.slice a len cap) d p) : ∃ vs, Ints w a len vs ∧ (len : Int) ≤ 9223372036854775807 := by
  obtain ⟨fuel, hf⟩ := h
  rcases ChangeShapes.open_ints ht he hz hf with ⟨hcs, _⟩ | ⟨x, l, c, zs, hcs, _, hl, hm, hz, _, hcell, hwz⟩
  · simp [Value.cells] at hcs
    obtain ⟨rfl, rfl, rfl⟩ := hcs
    exact ⟨[], ⟨rfl, fun h => by omega, fun x hx => (by cases hx), fun i => by simp⟩, by omega⟩
  · simp [Value.cells] at hcs
    obtain ⟨rfl, rfl, rfl⟩ := hcs
    have hz' : len ≤ zs.length := by rw [hz]; split <;> omega
    have hml : maxLen ≤ 9223372036854775807 := by unfold maxLen; decide
    refine ⟨zs.take len, ⟨by simp; omega, fun _ => ⟨_, rfl⟩, fun y hy i hi => ?_, fun i => ?_⟩, by omega⟩
    · obtain rfl := Option.some.inj hy
      have := hcell i (by omega)
      rw [this]
      congr 2
      simp [List.getD_eq_getElem?_getD, List.getElem?_take, hi]
    · rcases Nat.lt_or_ge i (zs.take len).length with h1 | h1
      · have hmem : (zs.take len).getD i 0 ∈ zs := by
          have : (zs.take len).getD i 0 = (zs.take len)[i] := by simp [List.getD_eq_getElem?_getD, List.getElem?_eq_getElem h1]
          rw [this]
          exact List.mem_of_mem_take (List.getElem_mem h1)
        exact (bounds_i64 (hwz _ hmem)).2
      · simp [List.getD_eq_getElem?_getD, List.getElem?_eq_none h1]
end Go.Proofs.YtohfdecefikinaaGreatDoor


/- The frame: what is looked for in a row; the reference's number. -/
namespace Go.Proofs.YtohfdecefikinaaGreatDoor
set_option linter.unusedSimpArgs false
set_option linter.unusedVariables false
open Go Go.RowKit

def numK (s : ByteArray) : Nat → Nat
  | 0 => 0
  | k + 1 => 256 * numK s k + (at8 s k).toNat
theorem numK_four (s : ByteArray) : numK s 4 = four s 0 := by
  simp only [numK, four, num4, Nat.zero_add, Nat.mul_zero]; omega
theorem numK_lt (s : ByteArray) {k : Nat} (h : k < 4) : numK s k < 16777216 := by
  have h0 := byte_lt (at8 s 0)
  have h1 := byte_lt (at8 s 1)
  have h2 := byte_lt (at8 s 2)
  rcases (by omega : k = 0 ∨ k = 1 ∨ k = 2 ∨ k = 3) with rfl | rfl | rfl | rfl <;> simp only [numK] <;> omega

/-- What a place that was looked for tells. -/
def IdxR (p : Prop) (r : Int) : Prop := (-1 ≤ r ∧ r ≤ 9223372036854775807) ∧ (0 ≤ r ↔ p)
theorem IdxR.yes {p : Prop} {k : Nat} (hp : p) (hk : (k : Int) ≤ 9223372036854775807) : IdxR p (k : Int) := ⟨⟨by omega, hk⟩, fun _ => hp, fun _ => by omega⟩
theorem IdxR.no {p : Prop} (hp : ¬ p) : IdxR p (-1) := ⟨⟨by omega, by omega⟩, fun h => by omega, fun h => absurd h hp⟩

/-- Beyond the numbers that a frame may hold. -/
def farB (n : Int) : Bool := !(decide (0 ≤ n) && decide (n ≤ 2147483648))
def anyFar (vs : List Int) : Bool := vs.any farB
end Go.Proofs.YtohfdecefikinaaGreatDoor
