/- One byte turned: a frame's text is none any more. -/
import Derived.Test.YtmdcjfgdmmncpaaDoorFC
namespace Go.Proofs.YtmdcjfgdmmncpaaDoor
set_option linter.unusedSimpArgs false
set_option linter.unusedVariables false
open Go Go.RowKit

theorem low4_inj {a b : Nat} (ha : a < 4294967296) (hb : b < 4294967296) (h : low4 a = low4 b) : a = b := by
  simp only [low4, List.cons.injEq, and_true] at h
  obtain ⟨h1, h2, h3, h4⟩ := h
  have g1 := congrArg UInt8.toNat h1
  have g2 := congrArg UInt8.toNat h2
  have g3 := congrArg UInt8.toNat h3
  have g4 := congrArg UInt8.toNat h4
  simp only [UInt8.toNat_ofNat'] at g1 g2 g3 g4
  omega
theorem crc_set {l : List UInt8} {i : Nat} (hi : i < l.length) {b : UInt8} (h : crc (l.set i b) = crc l) : b = l[i] := by
  have e1 : l = l.take i ++ l[i] :: l.drop (i + 1) := by simp
  have e2 : l.set i b = l.take i ++ b :: l.drop (i + 1) := by rw [List.set_eq_take_append_cons_drop, if_pos hi]
  rw [e2] at h
  have h2 : crc l = crc (l.take i ++ l[i] :: l.drop (i + 1)) := congrArg crc e1
  exact crc_one (h.trans h2)
theorem textCode_flip {f : Fr} (s : ByteArray) (i : Nat) (b : UInt8) (hi : i < f.text.length) (hs : s.data.toList = f.text.set i b) (hne : b ≠ f.text[i]) : textCode s = 1 ∨ textCode s = 11 := by
  unfold textCode
  cases h1 : sizeOk s with
  | false => exact .inl rfl
  | true =>
    cases h2 : sumOk s with
    | false => exact .inr rfl
    | true =>
      exfalso
      have hsz : s.size = f.text.length := by
        have := congrArg List.length hs
        rw [List.length_set] at this
        simpa using this
      have hl : s.size - 4 = f.body.length := by rw [hsz, Fr.text_len, Fr.body_len]; omega
      have hbt : f.body.length ≤ f.text.length := by rw [Fr.text_len, Fr.body_len]; omega
      have h3 := eq_of_beq h2
      rw [hs, hl] at h3
      rcases Nat.lt_or_ge i f.body.length with hlt | hge
      · have e1 : (f.text.set i b).take f.body.length = f.body.set i b := by
          unfold Fr.text
          rw [List.set_append_left _ _ hlt, List.take_append_of_le_length (by simp), List.take_of_length_le (by simp)]
        have e2 : (f.text.set i b).drop f.body.length = low4 (crc f.body) := by
          unfold Fr.text
          rw [List.set_append_left _ _ hlt, List.drop_append_of_le_length (by simp), List.drop_of_length_le (by simp), List.nil_append]
        rw [e1, e2] at h3
        have h4 := crc_set hlt (low4_inj (crc_lt _) (crc_lt _) h3)
        apply hne
        rw [h4]
        exact (List.getElem_append_left (bs := low4 (crc f.body)) hlt).symm
      · have e1 : (f.text.set i b).take f.body.length = f.body := by
          unfold Fr.text
          rw [List.set_append_right _ _ hge, List.take_append_of_le_length (Nat.le_refl _), List.take_of_length_le (Nat.le_refl _)]
        have e2 : (f.text.set i b).drop f.body.length = (low4 (crc f.body)).set (i - f.body.length) b := by
          unfold Fr.text
          rw [List.set_append_right _ _ hge, List.drop_left]
        rw [e1, e2] at h3
        apply hne
        have hj : i - f.body.length < (low4 (crc f.body)).length := by rw [low4_len]; rw [Fr.text_len] at hi; rw [Fr.body_len]; omega
        have h5 : (low4 (crc f.body))[i - f.body.length]'hj = b := by
          have h6 := congrArg (fun l : List UInt8 => l[i - f.body.length]?) h3
          simp only [List.getElem?_set_self hj, List.getElem?_eq_getElem hj, Option.some.injEq] at h6
          exact h6
        rw [← h5]
        exact (List.getElem_append_right (bs := low4 (crc f.body)) hge).symm
end Go.Proofs.YtmdcjfgdmmncpaaDoor
