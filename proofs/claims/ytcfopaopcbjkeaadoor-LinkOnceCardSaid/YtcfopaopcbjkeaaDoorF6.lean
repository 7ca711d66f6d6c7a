
/- The frame: it is written. -/
import Derived.Test.YtcfopaopcbjkeaaDoorF5
import Derived.Test.YtcfopaopcbjkeaaDoorOwn
namespace Go.Proofs.YtcfopaopcbjkeaaDoor
set_option linter.unusedSimpArgs false
set_option linter.unusedVariables false
open Go Go.RowKit

/-- The body of a frame's text; the text. -/
def Fr.body (f : Fr) : List UInt8 := [f.kind, UInt8.ofNat f.fr.toNat, UInt8.ofNat f.to.toNat] ++ high4 f.seq.toNat ++ [UInt8.ofNat f.nums.length] ++ f.nums.flatMap fun n => high4 n.toNat
def Fr.text (f : Fr) : List UInt8 := f.body ++ low4 (crc f.body)

theorem bytes_info : (Tryd.prog.info? 5).map (fun i => (i.zero, i.size, i.bytes)) = some (some (.int .u8 0), 1, 1) := by kernel_rfl

/-- What a right frame's numbers are. -/
theorem Fr.code_zero {f : Fr} (h : f.code = 0) : f.kind ∈ kinds ∧ (0 ≤ f.fr ∧ f.fr ≤ 5) ∧ (0 ≤ f.to ∧ f.to ≤ 5) ∧ (0 ≤ f.seq ∧ f.seq ≤ 2147483648) ∧ anyFar f.nums = false ∧ f.fr ≠ f.to ∧ f.nums.length ≤ 200 := by
  unfold Fr.code at h
  have key : ∀ k b1 b2 b3 far same full, codeOf k b1 b2 b3 far same full = 0 → k = true ∧ b1 = true ∧ b2 = true ∧ b3 = true ∧ far = false ∧ same = false ∧ full = false := by
    intro k b1 b2 b3 far same full
    cases k <;> cases b1 <;> cases b2 <;> cases b3 <;> cases far <;> cases same <;> cases full <;> simp [codeOf]
  obtain ⟨h1, h2, h3, h4, h5, h6, h7⟩ := key _ _ _ _ _ _ _ h
  simp [inB] at h1 h2 h3 h4 h6 h7
  exact ⟨h1, h2, h3, h4, h5, h6, h7⟩
end Go.Proofs.YtcfopaopcbjkeaaDoor
