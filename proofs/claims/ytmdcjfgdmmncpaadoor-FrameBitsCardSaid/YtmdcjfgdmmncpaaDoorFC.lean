/- The frame's laws: what is read and written, in one contract each; the closed fact. -/
import Derived.Test.YtmdcjfgdmmncpaaDoorFB
namespace Go.Proofs.YtmdcjfgdmmncpaaDoor
set_option linter.unusedSimpArgs false
set_option linter.unusedVariables false
open Go Go.RowKit

theorem textCode_ne {s : ByteArray} (h : textCode s ≠ 0) : (sizeOk s = false ∧ textCode s = 1) ∨ (sizeOk s = true ∧ sumOk s = false ∧ textCode s = 11) ∨ (sizeOk s = true ∧ sumOk s = true ∧ textCode s = (frOf s).code) := by
  unfold textCode at *
  cases h1 : sizeOk s <;> cases h2 : sumOk s <;> simp_all
theorem textCode_zero {s : ByteArray} (h : textCode s = 0) : sizeOk s = true ∧ sumOk s = true ∧ (frOf s).code = 0 := by
  unfold textCode at *
  cases h1 : sizeOk s <;> cases h2 : sumOk s <;> simp_all

theorem fdecode_bad (s : ByteArray) (w : World) (ev : Nat → Value) (hs : s.size ≤ 1000000) (he : Errs w ev) (hev : ∀ c, c ≠ 0 → ∃ t v, ev c = .iface t v) (h : textCode s ≠ 0) :
    Calls Tryd.prog 17 #[.string s] w fun e w' => e = .returned (.tuple #[fr0, ev (textCode s)]) ∧ Ext w w' := by
  rcases textCode_ne h with ⟨h1, h2⟩ | ⟨h1, h2, h3⟩ | ⟨h1, h2, h3⟩
  · rw [h2]; exact fdecode_size s w ev hs he h1
  · rw [h3]; exact fdecode_sum s w ev hs he h1 h2
  · rw [h3] at h ⊢
    refine (fdecode_rest s w ev hs he h1 h2 (hev _)).mono fun e w' hx => ?_
    unfold DecR at hx
    rwa [if_neg h] at hx
theorem fdecode_ok (s : ByteArray) (w : World) (ev : Nat → Value) (hs : s.size ≤ 1000000) (he : Errs w ev) (h : textCode s = 0) :
    Calls Tryd.prog 17 #[.string s] w fun e w' => ∃ a cap, e = .returned (.tuple #[frv (frOf s) a cap, .nilIface]) ∧ Ints w' a (frOf s).nums.length (frOf s).nums ∧ Ext w w' := by
  obtain ⟨h1, h2, h3⟩ := textCode_zero h
  refine (fdecode_rest s w ev hs he h1 h2 (fun h => absurd h3 h)).mono fun e w' hx => ?_
  unfold DecR at hx
  rwa [if_pos h3] at hx

def frT : Fr := ⟨100, 1, 0, 2, [3]⟩
theorem frT_code : frT.code = 0 := by decide +kernel
theorem frT_text : frT.text = [100, 1, 0, 0, 0, 0, 2, 1, 0, 0, 0, 3, 217, 151, 174, 120] := by decide +kernel
theorem frT_cut : ((⟨#[100, 1, 0, 0, 0, 0, 2, 1, 0, 0, 0, 3, 217, 151, 174, 120]⟩ : ByteArray).extract 0 12).toList = [100, 1, 0, 0, 0, 0, 2, 1, 0, 0, 0, 3] := by decide +kernel
theorem crc_123 : crc [49, 50, 51, 52, 53, 54, 55, 56, 57] = 3421780262 := by decide +kernel
theorem Ints.lit {w : World} {b : Nat} {vs : List Int} {e : TypeId} (h : Blk w b (icells vs).toArray e) (hi : ∀ i, vs.getD i 0 ≤ 9223372036854775807) : Ints w (some ⟨b, 0, none⟩) vs.length vs :=
  ⟨rfl, fun _ => ⟨_, rfl⟩, fun x hx i hi => by
    obtain rfl := Option.some.inj hx
    rw [show (⟨b, 0, none⟩ : Addr).add i = ⟨b, i, none⟩ from by by_cases h0 : i = 0 <;> simp [Addr.add, h0], h.cell i]
    simp [icells, List.getD_eq_getElem?_getD, List.getElem?_eq_getElem hi], hi⟩

set_option maxRecDepth 100000 in
set_option maxHeartbeats 1600000 in
theorem framed_any (w : World) (ev : Nat → Value) (he : Errs w ev) : Calls Tryd.prog 13 #[] w fun e w' => e = .returned (.bool true) ∧ Ext w w' := by
  have HE := hid (fencode_ok frT (some ⟨w.heap.size, 0, none⟩) 1 (w.alloc (.cells #[.int .i64 3] 3)) ev (Ints.lit (vs := [3]) (Blk.new _ _ _) (fun i => by
    cases i with
    | zero => simp
    | succ i => simp)) (by decide) (he.ext ((Ext.refl w).alloc _)) frT_code)
  have HS := fun w => hid (sum_any ⟨#[49, 50, 51, 52, 53, 54, 55, 56, 57]⟩ w (by decide))
  rw [frT_text] at HE
  rw [crc_123] at HS
  unfold frv frT at HE
  have hcut := frT_cut
  go_enter Tryd.func13, Tryd.ntmps13
  go_wp2_with fail
  refine HE.out.mono ?_
  intro e w1 hx
  obtain ⟨rfl, hx1⟩ := hx
  clear HE
  go_wp2_with fail
  refine (HS _).out.mono ?_
  intro e w2 hx
  obtain ⟨rfl, rfl⟩ := hx
  go_wp2
  go_ret
  exact ⟨rfl, ((Ext.refl w).alloc _).trans hx1⟩
end Go.Proofs.YtmdcjfgdmmncpaaDoor
