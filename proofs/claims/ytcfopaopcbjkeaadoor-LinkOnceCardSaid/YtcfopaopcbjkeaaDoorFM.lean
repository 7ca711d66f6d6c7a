
/- The frame's sum, plainly: bit by bit. -/
import Derived.KernelRfl
namespace Go.Proofs.YtcfopaopcbjkeaaDoor
set_option linter.unusedSimpArgs false
set_option linter.unusedVariables false

def crcBit (c : Nat) : Nat := if c % 2 = 1 then (c / 2) ^^^ 3988292384 else c / 2
def crcBits (c : Nat) : Nat → Nat
  | 0 => c
  | k + 1 => crcBit (crcBits c k)
def crcByte (c : Nat) (b : UInt8) : Nat := crcBits (c ^^^ b.toNat) 8
def crcGo (c : Nat) (l : List UInt8) : Nat := l.foldl crcByte c
def crc (l : List UInt8) : Nat := crcGo 4294967295 l ^^^ 4294967295

theorem crcBit_lt {c : Nat} (h : c < 4294967296) : crcBit c < 4294967296 := by
  unfold crcBit
  split
  · exact Nat.xor_lt_two_pow (n := 32) (by omega) (by omega)
  · omega
theorem crcBits_lt {c : Nat} (h : c < 4294967296) : ∀ k, crcBits c k < 4294967296
  | 0 => h
  | k + 1 => crcBit_lt (crcBits_lt h k)
theorem byte_lt (b : UInt8) : b.toNat < 256 := b.toNat_lt
theorem crcByte_lt {c : Nat} (h : c < 4294967296) (b : UInt8) : crcByte c b < 4294967296 :=
  crcBits_lt (Nat.xor_lt_two_pow (n := 32) (by omega) (by have := byte_lt b; omega)) 8
theorem crcGo_lt {c : Nat} (h : c < 4294967296) (l : List UInt8) : crcGo c l < 4294967296 := by
  induction l generalizing c with
  | nil => exact h
  | cons b l ih => exact ih (crcByte_lt h b)
theorem crc_lt (l : List UInt8) : crc l < 4294967296 :=
  Nat.xor_lt_two_pow (n := 32) (crcGo_lt (by omega) l) (by omega)
theorem crcGo_take_succ (c : Nat) (l : List UInt8) (k : Nat) (h : k < l.length) : crcGo c (l.take (k + 1)) = crcByte (crcGo c (l.take k)) l[k] := by
  unfold crcGo
  rw [List.take_succ_eq_append_getElem h, List.foldl_append]
  rfl

/-! ### one bit more tells the states apart -/
theorem xor_cancel_r {a b c : Nat} (h : a ^^^ c = b ^^^ c) : a = b := by
  have := congrArg (fun x => x ^^^ c) h
  simpa [Nat.xor_assoc] using this
theorem crcBit_inj {c d : Nat} (hc : c < 4294967296) (hd : d < 4294967296) (h : crcBit c = crcBit d) : c = d := by
  unfold crcBit at h
  split at h <;> split at h
  · have := xor_cancel_r h; omega
  · exfalso
    have h2 : (3988292384 : Nat) = (c / 2) ^^^ (d / 2) := by
      rw [← h, ← Nat.xor_assoc, Nat.xor_self, Nat.zero_xor]
    have h3 : (c / 2) ^^^ (d / 2) < 2 ^ 31 := Nat.xor_lt_two_pow (by omega) (by omega)
    omega
  · exfalso
    have h2 : (3988292384 : Nat) = (d / 2) ^^^ (c / 2) := by
      rw [h, ← Nat.xor_assoc, Nat.xor_self, Nat.zero_xor]
    have h3 : (d / 2) ^^^ (c / 2) < 2 ^ 31 := Nat.xor_lt_two_pow (by omega) (by omega)
    omega
  · omega
theorem crcBits_inj {c d : Nat} (hc : c < 4294967296) (hd : d < 4294967296) : ∀ k, crcBits c k = crcBits d k → c = d
  | 0, h => h
  | k + 1, h => crcBits_inj hc hd k (crcBit_inj (crcBits_lt hc k) (crcBits_lt hd k) h)
theorem crcByte_inj {c d : Nat} (hc : c < 4294967296) (hd : d < 4294967296) {b : UInt8} (h : crcByte c b = crcByte d b) : c = d := by
  have hb := byte_lt b
  exact xor_cancel_r (crcBits_inj (Nat.xor_lt_two_pow (n := 32) (by omega) (by omega)) (Nat.xor_lt_two_pow (n := 32) (by omega) (by omega)) 8 h)
theorem crcByte_inj_b {c : Nat} (hc : c < 4294967296) {b d : UInt8} (h : crcByte c b = crcByte c d) : b = d := by
  have h1 := byte_lt b
  have h2 := byte_lt d
  have h3 := crcBits_inj (Nat.xor_lt_two_pow (n := 32) (by omega) (by omega)) (Nat.xor_lt_two_pow (n := 32) (by omega) (by omega)) 8 h
  rw [Nat.xor_comm c, Nat.xor_comm c] at h3
  exact UInt8.toNat_inj.1 (xor_cancel_r h3)
theorem crcGo_inj {c d : Nat} (hc : c < 4294967296) (hd : d < 4294967296) (l : List UInt8) (h : crcGo c l = crcGo d l) : c = d := by
  induction l generalizing c d with
  | nil => exact h
  | cons b l ih => exact crcByte_inj hc hd (ih (crcByte_lt hc b) (crcByte_lt hd b) h)
theorem crcGo_append (c : Nat) (l m : List UInt8) : crcGo c (l ++ m) = crcGo (crcGo c l) m := by unfold crcGo; rw [List.foldl_append]
/-- Two texts that part at one byte alone have sums that part. -/
theorem crc_one {l m : List UInt8} {b d : UInt8} (h : crc (l ++ b :: m) = crc (l ++ d :: m)) : b = d := by
  have h1 := xor_cancel_r h
  rw [crcGo_append, crcGo_append] at h1
  have hl := crcGo_lt (c := 4294967295) (by omega) l
  exact crcByte_inj_b hl (crcGo_inj (crcByte_lt hl b) (crcByte_lt hl d) m h1)

/-! ### the other road: the byte's bits come in one by one -/
def refBit (c t : Nat) : Nat := if (c ^^^ t) % 2 = 1 then (c / 2) ^^^ 3988292384 else c / 2
def refBits (c b : Nat) : Nat → Nat
  | 0 => c
  | k + 1 => refBit (refBits c b k) (b / 2 ^ k)
theorem xor_div2 (a b : Nat) : (a ^^^ b) / 2 = (a / 2) ^^^ (b / 2) := by
  have := Nat.shiftRight_xor_distrib (a := a) (b := b) (i := 1)
  simpa [Nat.shiftRight_eq_div_pow] using this
theorem refBits_eq (c b : Nat) : ∀ k, refBits c b k ^^^ (b / 2 ^ k) = crcBits (c ^^^ b) k
  | 0 => by simp [refBits, crcBits]
  | k + 1 => by
    have ih := refBits_eq c b k
    have hp : b / 2 ^ (k + 1) = b / 2 ^ k / 2 := by rw [Nat.pow_succ, Nat.div_div_eq_div_mul]
    simp only [refBits, crcBits]
    rw [← ih, hp]
    generalize refBits c b k = x
    generalize b / 2 ^ k = y
    unfold refBit crcBit
    rw [xor_div2]
    split
    · rw [Nat.xor_assoc, Nat.xor_assoc, Nat.xor_comm (y / 2)]
    · rfl
theorem refBits_8 (c : Nat) (b : UInt8) : refBits c b.toNat 8 = crcByte c b := by
  have h := refBits_eq c b.toNat 8
  have hb := byte_lt b
  rw [show b.toNat / 2 ^ 8 = 0 by omega, Nat.xor_zero] at h
  exact h
theorem refBits_lt {c b : Nat} (h : c < 4294967296) : ∀ k, refBits c b k < 4294967296
  | 0 => h
  | k + 1 => by
    have ih := refBits_lt (b := b) h k
    simp only [refBits]
    unfold refBit
    split
    · exact Nat.xor_lt_two_pow (n := 32) (by omega) (by omega)
    · omega
end Go.Proofs.YtcfopaopcbjkeaaDoor
