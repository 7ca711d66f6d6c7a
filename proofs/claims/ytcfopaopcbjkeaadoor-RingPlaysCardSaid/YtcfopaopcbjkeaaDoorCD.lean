
/- The laws' own word for an error's number is walked. -/
import Derived.Test.YtcfopaopcbjkeaaDoorPC
import Derived.Test.YtcfopaopcbjkeaaDoorF4
namespace Go.Proofs.YtcfopaopcbjkeaaDoor
set_option linter.unusedSimpArgs false
set_option linter.unusedVariables false
open Go Go.RowKit


/-- An error of a number, or none, that is asked for a number. -/
theorem code_err (w : World) (ad : Nat → Addr) (h : AllErrs w ad) (c : Nat) (hc : c ≤ 11) :
    Calls Tryd.prog 54 #[errv (evOf ad) c] w fun e w' => e = .returned (.tuple #[.int .i64 (c : Int), .int .i64 (-1)]) ∧ Ext w w' := by
  unfold errv
  by_cases h0 : c = 0
  · subst h0
    rw [if_pos rfl]
    exact (code_nil w).mono fun e w' ⟨h1, h2⟩ => ⟨h1, h2 ▸ Ext.refl _⟩
  · rw [if_neg h0]
    have := code_sent w ad h _ c hc (IsAs.sent h c (by omega))
    unfold codeV at this
    rw [if_neg h0] at this
    exact this

set_option maxRecDepth 100000 in
set_option maxHeartbeats 800000 in
theorem coded3_any (w : World) (ad : Nat → Addr) (h : AllErrs w ad) (c : Nat) (hc : c ≤ 11) (k : Int) :
    Calls Tryd.prog 24 #[errv (evOf ad) c, .int .i64 k] w fun e w' => e = .returned (.bool (decide ((c : Int) = k))) ∧ Ext w w' := by
  have HC := hid (code_err w ad h c hc)
  clear h
  generalize errv (evOf ad) c = ev at *
  by_cases hck : (c : Int) = k
  · have Hck := hid (decide_eq_true hck)
    rw [hck] at HC
    clear hck
    go_enter Tryd.func24, Tryd.ntmps24
    go_wp2_with fail
    refine HC.out.mono ?_
    intro e w1 hx
    obtain ⟨rfl, hx⟩ := hx
    go_wp2
    go_ret
    exact ⟨by rw [Hck.out]; rfl, hx⟩
  · have Hck := hid (decide_eq_false hck)
    go_enter Tryd.func24, Tryd.ntmps24
    go_wp2_with fail
    refine HC.out.mono ?_
    intro e w1 hx
    obtain ⟨rfl, hx⟩ := hx
    go_wp2
    go_ret
    exact ⟨by rw [Hck.out]; rfl, hx⟩
theorem AllErrs.errs {w : World} {ad : Nat → Addr} (h : AllErrs w ad) : Errs w (evOf ad) :=
  ⟨⟨h.at2, h.at3, h.at4, h.at8⟩, h.at1, h.at11⟩
end Go.Proofs.YtcfopaopcbjkeaaDoor
