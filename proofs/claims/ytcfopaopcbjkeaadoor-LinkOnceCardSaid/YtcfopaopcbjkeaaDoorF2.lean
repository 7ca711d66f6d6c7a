
/- The frame: its small functions are walked. -/
import Derived.Test.YtcfopaopcbjkeaaDoorF1
import Derived.Laws.IdiomStrings
import Derived.Laws.Concat
namespace Go.Proofs.YtcfopaopcbjkeaaDoor
set_option linter.unusedSimpArgs false
set_option linter.unusedVariables false
open Go Go.RowKit

set_option maxRecDepth 100000 in
set_option maxHeartbeats 400000 in
theorem within_any (n m : Int) (w : World) : Calls Tryd.prog 70 #[.int .i64 n, .int .i64 m] w fun e w' => e = .returned (.bool (decide (0 ≤ n) && decide (n ≤ m))) ∧ w = w' := by
  by_cases h1 : 0 ≤ n
  · go_enter Tryd.func70, Tryd.ntmps70
    go_wp2
    go_ret
    simp [h1]
  · go_enter Tryd.func70, Tryd.ntmps70
    go_wp2
    go_ret
    simp; omega

/-- A row of bytes. -/
def bcells (l : List UInt8) : List Value := l.map fun b => Value.int .u8 (b.toNat : Int)
def high4 (n : Nat) : List UInt8 := [UInt8.ofNat (n / 16777216), UInt8.ofNat (n / 65536), UInt8.ofNat (n / 256), UInt8.ofNat n]
def low4 (n : Nat) : List UInt8 := [UInt8.ofNat n, UInt8.ofNat (n / 256), UInt8.ofNat (n / 65536), UInt8.ofNat (n / 16777216)]
theorem byte_cell (k : Nat) : Value.int .u8 ((UInt8.ofNat k).toNat : Int) = Value.int .u8 ((k : Int) % 256) := by
  congr 1
theorem high4_cells (n : Nat) (hn : n ≤ 4294967295) : (bcells (high4 n)).toArray = #[Value.int .u8 ((n : Int) / 16777216), Value.int .u8 ((n : Int) / 65536 % 256), Value.int .u8 ((n : Int) / 256 % 256), Value.int .u8 ((n : Int) % 256)] := by
  have h : ((n : Int) / 16777216) = ((n / 16777216 : Nat) : Int) % 256 := by omega
  simp only [bcells, high4, List.map_cons, List.map_nil, byte_cell]
  rw [h]
  rfl
theorem low4_cells (n : Nat) (hn : n ≤ 4294967295) : (bcells (low4 n)).toArray = #[Value.int .u8 ((n : Int) % 256), Value.int .u8 ((n : Int) / 256 % 256), Value.int .u8 ((n : Int) / 65536 % 256), Value.int .u8 ((n : Int) / 16777216)] := by
  have h : ((n : Int) / 16777216) = ((n / 16777216 : Nat) : Int) % 256 := by omega
  simp only [bcells, low4, List.map_cons, List.map_nil, byte_cell]
  rw [h]
  rfl

/-- Bytes of one block, read as a text. -/
theorem run_text_of (w : World) (g cap : Nat) (l : List UInt8) (c : Array Value) (hb : Blk w g c 5) (hc : ∀ j, j < l.length → c[j]? = (bcells l)[j]?) :
    (convert 146 9 (.slice (some ⟨g, 0, none⟩) l.length cap)).run Tryd.prog w = .ok (.string ⟨l.toArray⟩) w := by
  refine run_convert_bytes_back w 146 9 5 ⟨g, 0, none⟩ cap l Tryd.underlying146 Tryd.underlying5 Tryd.underlying9 fun j hj => ?_
  rw [show (⟨g, 0, none⟩ : Addr).add j = ⟨g, j, none⟩ from by by_cases h0 : j = 0 <;> simp [Addr.add, h0], hb.cell j, hc j hj]
  simp [bcells, hj]

set_option maxRecDepth 100000 in
set_option maxHeartbeats 400000 in
theorem byte_any (n : Nat) (w : World) (hn : n ≤ 4294967295) : Calls Tryd.prog 59 #[.int .i64 (n : Int)] w fun e w' => e = .returned (.string ⟨#[UInt8.ofNat n]⟩) ∧ Ext w w' := by
  have hcv := run_text_of (w.alloc (.cells (bcells [UInt8.ofNat n]).toArray 5)) w.heap.size 1 [UInt8.ofNat n] (bcells [UInt8.ofNat n]).toArray (Blk.new _ _ _) (fun j hj => by simp)
  have hb : (bcells [UInt8.ofNat n]).toArray = #[Value.int .u8 ((n : Int) % 256)] := by
    simp only [bcells, List.map_cons, List.map_nil, byte_cell]
  rw [hb, show ([UInt8.ofNat n] : List UInt8).length = 1 from rfl] at hcv
  clear hb
  by_cases h : n < 256
  · have h2 : (n : Int) % 256 = n := by omega
    rw [h2] at hcv
    go_enter Tryd.func59, Tryd.ntmps59
    go_wp2
    go_ret
    exact ⟨rfl, (Ext.refl w).alloc _⟩
  · go_enter Tryd.func59, Tryd.ntmps59
    go_wp2
    go_ret
    exact ⟨rfl, (Ext.refl w).alloc _⟩

theorem byte_arg {k : Nat} {x : Int} (hx : (k : Int) = x) (hk : k ≤ 4294967295) (w : World) : Calls Tryd.prog 59 #[.int .i64 x] w fun e w' => e = .returned (.string ⟨#[UInt8.ofNat k]⟩) ∧ Ext w w' := by
  subst hx; exact byte_any k w hk
theorem ofNat_mod (k : Nat) : UInt8.ofNat (k % 256) = UInt8.ofNat k := by
  apply UInt8.toNat_inj.1
  simp [UInt8.toNat_ofNat']


set_option maxRecDepth 100000 in
set_option maxHeartbeats 800000 in
theorem refhigh_any (n : Nat) (hn : n ≤ 4294967295) (w : World) : Calls Tryd.prog 60 #[.int .i64 (n : Int)] w fun e w' => e = .returned (.string ⟨(high4 n).toArray⟩) ∧ Ext w w' := by
  have B1 := fun w => hid (byte_arg (x := (n : Int) / 16777216) (k := n / 16777216) (by omega) (by omega) w)
  have B2 := fun w => hid (byte_arg (x := (n : Int) / 65536 % 256) (k := n / 65536 % 256) (by omega) (by omega) w)
  have B3 := fun w => hid (byte_arg (x := (n : Int) / 256 % 256) (k := n / 256 % 256) (by omega) (by omega) w)
  have B4 := fun w => hid (byte_arg (x := (n : Int) % 256) (k := n % 256) (by omega) (by omega) w)
  rw [ofNat_mod] at B2 B3 B4
  go_enter Tryd.func60, Tryd.ntmps60
  go_wp2_with fail
  refine (B1 _).out.mono ?_
  intro e w1 hx
  obtain ⟨rfl, x1⟩ := hx
  go_wp2_with fail
  refine (B2 _).out.mono ?_
  intro e w2 hx
  obtain ⟨rfl, x2⟩ := hx
  go_wp2_with fail
  refine (B3 _).out.mono ?_
  intro e w3 hx
  obtain ⟨rfl, x3⟩ := hx
  go_wp2_with fail
  refine (B4 _).out.mono ?_
  intro e w4 hx
  obtain ⟨rfl, x4⟩ := hx
  go_wp2
  go_ret
  refine ⟨?_, x1.trans (x2.trans (x3.trans x4))⟩
  show Ending.returned (Value.string _) = Ending.returned (Value.string _)
  (congr 2 <;> exact ByteArray.ext (by simp [high4]))

set_option maxRecDepth 100000 in
set_option maxHeartbeats 800000 in
theorem reflow_any (n : Nat) (hn : n ≤ 4294967295) (w : World) : Calls Tryd.prog 61 #[.int .i64 (n : Int)] w fun e w' => e = .returned (.string ⟨(low4 n).toArray⟩) ∧ Ext w w' := by
  have B4 := fun w => hid (byte_arg (x := (n : Int) / 16777216) (k := n / 16777216) (by omega) (by omega) w)
  have B3 := fun w => hid (byte_arg (x := (n : Int) / 65536 % 256) (k := n / 65536 % 256) (by omega) (by omega) w)
  have B2 := fun w => hid (byte_arg (x := (n : Int) / 256 % 256) (k := n / 256 % 256) (by omega) (by omega) w)
  have B1 := fun w => hid (byte_arg (x := (n : Int) % 256) (k := n % 256) (by omega) (by omega) w)
  rw [ofNat_mod] at B1 B2 B3
  go_enter Tryd.func61, Tryd.ntmps61
  go_wp2_with fail
  refine (B1 _).out.mono ?_
  intro e w1 hx
  obtain ⟨rfl, x1⟩ := hx
  go_wp2_with fail
  refine (B2 _).out.mono ?_
  intro e w2 hx
  obtain ⟨rfl, x2⟩ := hx
  go_wp2_with fail
  refine (B3 _).out.mono ?_
  intro e w3 hx
  obtain ⟨rfl, x3⟩ := hx
  go_wp2_with fail
  refine (B4 _).out.mono ?_
  intro e w4 hx
  obtain ⟨rfl, x4⟩ := hx
  go_wp2
  go_ret
  refine ⟨?_, x1.trans (x2.trans (x3.trans x4))⟩
  show Ending.returned (Value.string _) = Ending.returned (Value.string _)
  (congr 2 <;> exact ByteArray.ext (by simp [low4]))

/-- Four bytes, high first. -/
def num4 (a b c d : UInt8) : Nat := a.toNat * 16777216 + b.toNat * 65536 + c.toNat * 256 + d.toNat
def at8 (s : ByteArray) (i : Nat) : UInt8 := s.data.toList.getD i 0
def four (s : ByteArray) (i : Nat) : Nat := num4 (at8 s i) (at8 s (i + 1)) (at8 s (i + 2)) (at8 s (i + 3))
theorem at8_get (s : ByteArray) (i : Nat) (h : i < s.size) : s[i] = at8 s i := by
  unfold at8
  have h2 : i < s.data.toList.length := by simpa using h
  rw [List.getD_eq_getElem?_getD, List.getElem?_eq_getElem h2]
  rfl
theorem i64_or_nat (a b : Nat) (ha : a < 9223372036854775808) (hb : b < 9223372036854775808) : bits .or .i64 (a : Int) (b : Int) = ((a ||| b : Nat) : Int) := by
  have hx : a ||| b < 2 ^ 63 := Nat.or_lt_two_pow (by omega) (by omega)
  show IntKind.i64.wrap ((BitVec.ofInt 64 (a : Int) ||| BitVec.ofInt 64 (b : Int)).toNat : Int) = _
  rw [BitVec.toNat_or, ofInt_u64 a (by omega), ofInt_u64 b (by omega)]
  generalize a ||| b = x at *
  simp only [IntKind.wrap, IntKind.bits, IntKind.signed]
  simp
  omega
theorem or4 (a b c d : UInt8) : bits .or .i64 (bits .or .i64 (bits .or .i64 ((a.toNat : Int) * 16777216) ((b.toNat : Int) * 65536)) ((c.toNat : Int) * 256)) (d.toNat : Int) = (num4 a b c d : Int) := by
  have h0 := byte_lt a
  have h1 := byte_lt b
  have h2 := byte_lt c
  have h3 := byte_lt d
  unfold num4
  generalize a.toNat = a at *
  generalize b.toNat = b at *
  generalize c.toNat = c at *
  generalize d.toNat = d at *
  rw [show (a : Int) * 16777216 = ((a * 16777216 : Nat) : Int) by simp, show (b : Int) * 65536 = ((b * 65536 : Nat) : Int) by simp, show (c : Int) * 256 = ((c * 256 : Nat) : Int) by simp]
  rw [i64_or_nat _ _ (by omega) (by omega), nat_join 24 _ _ (by omega) (by omega), i64_or_nat _ _ (by omega) (by omega), nat_join 16 _ _ (by omega) (by omega), i64_or_nat _ _ (by omega) (by omega), nat_join 8 _ _ (by omega) (by omega)]

end Go.Proofs.YtcfopaopcbjkeaaDoor
