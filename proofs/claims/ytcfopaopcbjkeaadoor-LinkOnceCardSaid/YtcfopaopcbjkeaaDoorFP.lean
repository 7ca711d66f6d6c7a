
/- The frame, plainly: its text tells it; a text is a frame's or none. -/
import Derived.Test.YtcfopaopcbjkeaaDoorF6
namespace Go.Proofs.YtcfopaopcbjkeaaDoor
set_option linter.unusedSimpArgs false
set_option linter.unusedVariables false
open Go Go.RowKit

theorem ofNat_inj {a b : Nat} (ha : a < 256) (hb : b < 256) (h : UInt8.ofNat a = UInt8.ofNat b) : a = b := by
  have := congrArg UInt8.toNat h
  simp only [UInt8.toNat_ofNat'] at this
  omega
theorem ofNat_byte (b : UInt8) : UInt8.ofNat b.toNat = b := by simp
theorem high4_inj {a b : Nat} (ha : a < 4294967296) (hb : b < 4294967296) (h : high4 a = high4 b) : a = b := by
  simp only [high4, List.cons.injEq, and_true] at h
  obtain ⟨h1, h2, h3, h4⟩ := h
  have g1 := congrArg UInt8.toNat h1
  have g2 := congrArg UInt8.toNat h2
  have g3 := congrArg UInt8.toNat h3
  have g4 := congrArg UInt8.toNat h4
  simp only [UInt8.toNat_ofNat'] at g1 g2 g3 g4
  omega
theorem high4_len (n : Nat) : (high4 n).length = 4 := rfl
theorem low4_len (n : Nat) : (low4 n).length = 4 := rfl
theorem num4_lt (a b c d : UInt8) : num4 a b c d < 4294967296 := by
  have h0 := byte_lt a
  have h1 := byte_lt b
  have h2 := byte_lt c
  have h3 := byte_lt d
  unfold num4; omega
theorem high4_num4 (a b c d : UInt8) : high4 (num4 a b c d) = [a, b, c, d] := by
  have h0 := byte_lt a
  have h1 := byte_lt b
  have h2 := byte_lt c
  have h3 := byte_lt d
  simp only [high4, num4, List.cons.injEq, and_true]
  refine ⟨?_, ?_, ?_, ?_⟩ <;> apply UInt8.toNat_inj.1 <;> simp only [UInt8.toNat_ofNat'] <;> omega
theorem num4_high4 (n : Nat) (hn : n < 4294967296) : num4 (UInt8.ofNat (n / 16777216)) (UInt8.ofNat (n / 65536)) (UInt8.ofNat (n / 256)) (UInt8.ofNat n) = n := by
  unfold num4
  simp only [UInt8.toNat_ofNat']
  omega
theorem text_7 (f : Fr) : f.text[7]? = some (UInt8.ofNat f.nums.length) := by
  simp [Fr.text, Fr.body, high4]

theorem flat_len (nums : List Int) : (nums.flatMap fun n => high4 n.toNat).length = 4 * nums.length := by
  induction nums with
  | nil => rfl
  | cons n l ih => simp only [List.flatMap_cons, List.length_append, ih, high4_len, List.length_cons]; omega
theorem Fr.body_len (f : Fr) : f.body.length = 8 + 4 * f.nums.length := by
  unfold Fr.body
  simp only [List.length_append, flat_len, high4_len, List.length_cons, List.length_nil]
theorem Fr.text_len (f : Fr) : f.text.length = 12 + 4 * f.nums.length := by
  unfold Fr.text
  rw [List.length_append, Fr.body_len, low4_len]; omega
theorem flat_inj : ∀ {l m : List Int}, (∀ n ∈ l, 0 ≤ n ∧ n ≤ 4294967295) → (∀ n ∈ m, 0 ≤ n ∧ n ≤ 4294967295) → l.length = m.length → (l.flatMap fun n => high4 n.toNat) = (m.flatMap fun n => high4 n.toNat) → l = m
  | [], [], _, _, _, _ => rfl
  | [], _ :: _, _, _, h, _ => by simp at h
  | _ :: _, [], _, _, h, _ => by simp at h
  | a :: l, b :: m, ha, hb, h, e => by
    simp only [List.flatMap_cons] at e
    obtain ⟨e1, e2⟩ := List.append_inj e (by rw [high4_len, high4_len])
    have h1 := ha a (by simp)
    have h2 := hb b (by simp)
    have h3 := high4_inj (by omega) (by omega) e1
    rw [flat_inj (fun n hn => ha n (by simp [hn])) (fun n hn => hb n (by simp [hn])) (by simpa using h) e2, show a = b by omega]
/-- All that a text can hold. -/
structure Fr.Fits (f : Fr) : Prop where
  fr : 0 ≤ f.fr ∧ f.fr ≤ 255
  to : 0 ≤ f.to ∧ f.to ≤ 255
  seq : 0 ≤ f.seq ∧ f.seq ≤ 4294967295
  nums : ∀ n ∈ f.nums, 0 ≤ n ∧ n ≤ 4294967295
theorem Fr.body_inj {f g : Fr} (hf : f.Fits) (hg : g.Fits) (hl : f.nums.length = g.nums.length) (h1 : f.body = g.body) : f = g := by
  obtain ⟨a1, a2, a3, a4⟩ := hf
  obtain ⟨b1, b2, b3, b4⟩ := hg
  obtain ⟨k, x, y, s, l⟩ := f
  obtain ⟨k', x', y', s', l'⟩ := g
  unfold Fr.body at h1
  simp only at *
  obtain ⟨h2, h3⟩ := List.append_inj h1 (by simp [high4_len])
  obtain ⟨h4, h5⟩ := List.append_inj h2 (by simp [high4_len])
  obtain ⟨h6, h7⟩ := List.append_inj h4 (by simp)
  simp only [List.cons.injEq, and_true] at h6
  obtain ⟨c1, c2, c3⟩ := h6
  have d2 := ofNat_inj (by omega) (by omega) c2
  have d3 := ofNat_inj (by omega) (by omega) c3
  have d4 := high4_inj (by omega) (by omega) h7
  have d5 := flat_inj a4 b4 hl h3
  clear h1 h2 h3 h4 h5 h7 a4 b4
  obtain rfl := c1
  obtain rfl : x = x' := by omega
  obtain rfl : y = y' := by omega
  obtain rfl : s = s' := by omega
  rw [d5]
theorem near_of {l : List Int} (h : anyFar l = false) : ∀ n ∈ l, 0 ≤ n ∧ n ≤ 2147483648 := by
  intro n hn
  have := List.any_eq_false.1 h n hn
  simpa [farB] using this
theorem Fr.fits_of {f : Fr} (h : f.code = 0) : f.Fits := by
  obtain ⟨a1, ⟨a2, a3⟩, ⟨a4, a5⟩, ⟨a6, a7⟩, a8, a9, a10⟩ := Fr.code_zero h
  exact ⟨by omega, by omega, by omega, fun n hn => by have := near_of a8 n hn; omega⟩
/-- Two right frames have one text only if they are one. -/
theorem Fr.text_inj {f g : Fr} (hf : f.code = 0) (hg : g.code = 0) (h : f.text = g.text) : f = g := by
  have hl : f.nums.length = g.nums.length := by
    have := congrArg List.length h
    rw [Fr.text_len, Fr.text_len] at this; omega
  unfold Fr.text at h
  obtain ⟨h1, _⟩ := List.append_inj h (by rw [Fr.body_len, Fr.body_len, hl])
  exact Fr.body_inj (Fr.fits_of hf) (Fr.fits_of hg) hl h1

/-! ### what a text tells -/
def frOf (s : ByteArray) : Fr := ⟨at8 s 0, (at8 s 1).toNat, (at8 s 2).toNat, four s 3, (List.range (at8 s 7).toNat).map fun i => (four s (8 + 4 * i) : Int)⟩
def sumOk (s : ByteArray) : Bool := low4 (crc (s.data.toList.take (s.size - 4))) == s.data.toList.drop (s.size - 4)
def sizeOk (s : ByteArray) : Bool := decide (12 ≤ s.size) && decide (s.size = 12 + 4 * (at8 s 7).toNat)
/-- The error of a text. -/
def textCode (s : ByteArray) : Nat := if sizeOk s then (if sumOk s then (frOf s).code else 11) else 1

theorem take4 (L : List UInt8) (i : Nat) (h : i + 4 ≤ L.length) : L.take (i + 4) = L.take i ++ [L.getD i 0, L.getD (i + 1) 0, L.getD (i + 2) 0, L.getD (i + 3) 0] := by
  have g : ∀ k, k < L.length → L.take (k + 1) = L.take k ++ [L.getD k 0] := fun k hk => by
    rw [List.take_succ_eq_append_getElem hk, List.getD_eq_getElem?_getD, List.getElem?_eq_getElem hk]; rfl
  rw [g (i + 3) (by omega), g (i + 2) (by omega), g (i + 1) (by omega), g i (by omega)]
  simp
theorem chunks (s : ByteArray) : ∀ n, 8 + 4 * n ≤ s.size → s.data.toList.take (8 + 4 * n) = s.data.toList.take 8 ++ (((List.range n).map fun i => (four s (8 + 4 * i) : Int)).flatMap fun n => high4 n.toNat)
  | 0, _ => by simp
  | n + 1, h => by
    have hl : s.data.toList.length = s.size := by simp
    rw [show 8 + 4 * (n + 1) = (8 + 4 * n) + 4 by omega, take4 _ _ (by rw [hl]; omega), chunks s n (by omega), List.range_succ, List.map_append, List.flatMap_append, List.append_assoc]
    congr 2
    simp only [List.map_cons, List.map_nil, List.flatMap_cons, List.flatMap_nil, List.append_nil, Int.toNat_natCast]
    rw [four, high4_num4]
    rfl
theorem frOf_body {s : ByteArray} (h : sizeOk s = true) : (frOf s).body = s.data.toList.take (s.size - 4) := by
  simp only [sizeOk, Bool.and_eq_true, decide_eq_true_eq] at h
  obtain ⟨h1, h2⟩ := h
  have hl : s.data.toList.length = s.size := by simp
  rw [show s.size - 4 = 8 + 4 * (at8 s 7).toNat by omega, chunks s _ (by omega)]
  unfold Fr.body frOf
  simp only [List.length_map, List.length_range, Int.toNat_natCast, ofNat_byte]
  rw [four, high4_num4, take4 _ 4 (by rw [hl]; omega), show (4 : Nat) = 0 + 4 from rfl, take4 _ 0 (by rw [hl]; omega)]
  simp [at8]
theorem frOf_text {s : ByteArray} (h : sizeOk s = true) (h2 : sumOk s = true) : (frOf s).text = s.data.toList := by
  unfold Fr.text
  rw [frOf_body h, eq_of_beq h2, List.take_append_drop]

theorem frOf_fits (s : ByteArray) : (frOf s).Fits := by
  have q1 := byte_lt (at8 s 1)
  have q2 := byte_lt (at8 s 2)
  have q3 : ∀ i, four s i < 4294967296 := fun i => num4_lt _ _ _ _
  refine ⟨?_, ?_, ?_, fun n hn => ?_⟩
  · simp only [frOf]; omega
  · simp only [frOf]; omega
  · have := q3 3; simp only [frOf]; omega
  · simp only [frOf, List.mem_map, List.mem_range] at hn
    obtain ⟨i, _, rfl⟩ := hn
    have := q3 (8 + 4 * i)
    omega
/-- A right frame's text is read as it was written. -/
theorem Fr.of_text {f : Fr} (hf : f.code = 0) (s : ByteArray) (hs : s.data.toList = f.text) : sizeOk s = true ∧ sumOk s = true ∧ frOf s = f := by
  obtain ⟨a1, ⟨a2, a3⟩, ⟨a4, a5⟩, ⟨a6, a7⟩, a8, a9, a10⟩ := Fr.code_zero hf
  have hsz : s.size = 12 + 4 * f.nums.length := by
    rw [← Fr.text_len f, ← hs]; simp
  have h7 : at8 s 7 = UInt8.ofNat f.nums.length := by
    unfold at8; rw [hs, List.getD_eq_getElem?_getD, text_7]; rfl
  have h7n : (at8 s 7).toNat = f.nums.length := by
    rw [h7]; simp only [UInt8.toNat_ofNat']; omega
  have hok : sizeOk s = true := by
    simp only [sizeOk, Bool.and_eq_true, decide_eq_true_eq]; omega
  have hb : s.data.toList.take (s.size - 4) = f.body := by
    rw [hs, Fr.text, List.take_append_of_le_length (by rw [Fr.body_len]; omega), List.take_of_length_le (by rw [Fr.body_len]; omega)]
  have hd : s.data.toList.drop (s.size - 4) = low4 (crc f.body) := by
    rw [hs, Fr.text, show s.size - 4 = f.body.length by rw [Fr.body_len]; omega, List.drop_left]
  have hsum : sumOk s = true := by
    unfold sumOk; rw [hb, hd]; simp
  refine ⟨hok, hsum, Fr.body_inj (frOf_fits s) (Fr.fits_of hf) ?_ ((frOf_body hok).trans hb)⟩
  simp only [frOf, List.length_map, List.length_range, h7n]
end Go.Proofs.YtcfopaopcbjkeaaDoor
