/- Names walked. -/
import Derived.Test.YtmdcjfgdmmncpaaDoorFC
import Derived.Test.YtmdcjfgdmmncpaaDoorSA
namespace Go.Proofs.YtmdcjfgdmmncpaaDoor
set_option linter.unusedSimpArgs false
set_option linter.unusedVariables false
open Go Go.RowKit

set_option maxRecDepth 100000 in
set_option maxHeartbeats 400000 in
theorem errnew_any (s : ByteArray) (w : World) : Calls Tryd.prog 36 #[.string s] w fun e w' => e = .returned (.iface 134 (.pointer (some ⟨w.heap.size, 0, none⟩))) ∧ w' = w.alloc (.cells #[.string s] 136) := by
  go_enter Tryd.func36, Tryd.ntmps36
  go_wp2
  go_ret
  exact ⟨rfl, rfl⟩

def sixteen : List Int := [40, 6, 3, 80, 8, 4000, 1000, 2000, 200, 2147483648, 6, 8, 3, 4000, 80, 16]
theorem sixteen_hi (i : Nat) : sixteen.getD i 0 ≤ 9223372036854775807 := by
  rcases Nat.lt_or_ge i 16 with h | h
  · rcases (by omega : i = 0 ∨ i = 1 ∨ i = 2 ∨ i = 3 ∨ i = 4 ∨ i = 5 ∨ i = 6 ∨ i = 7 ∨ i = 8 ∨ i = 9 ∨ i = 10 ∨ i = 11 ∨ i = 12 ∨ i = 13 ∨ i = 14 ∨ i = 15) with rfl | rfl | rfl | rfl | rfl | rfl | rfl | rfl | rfl | rfl | rfl | rfl | rfl | rfl | rfl | rfl <;> decide
  · rw [List.getD_eq_getElem?_getD, List.getElem?_eq_none (by simpa [sixteen] using h)]; decide

set_option maxRecDepth 100000 in
set_option maxHeartbeats 6400000 in
theorem names_any (w : World) (ad : Nat → Addr) (h : AllErrs w ad) : Calls Tryd.prog 8 #[] w fun e w' => e = .returned (.bool true) ∧ Ext w w' := by
  have hS := hid (sameints_any (some ⟨w.heap.size, 0, none⟩) (some ⟨w.heap.size + 1, 0, none⟩) 16 16 16 16 sixteen sixteen ((w.alloc (.cells (icells sixteen).toArray 3)).alloc (.cells (icells sixteen).toArray 3))
    (Ints.lit (vs := sixteen) ((Blk.new _ _ _).alloc _) sixteen_hi) (Ints.lit (vs := sixteen) (by have := Blk.new (w.alloc (.cells (icells sixteen).toArray 3)) (icells sixteen).toArray 3; rwa [heap_size_alloc] at this) sixteen_hi) (by decide) (by decide))
  rw [decide_eq_true rfl] at hS
  unfold icells sixteen at hS
  simp only [List.map_cons, List.map_nil] at hS
  go_enter Tryd.func8, Tryd.ntmps8
  go_wp2_with fail
  refine hS.out.mono ?_
  intro e w1 hx
  obtain ⟨rfl, hx1⟩ := hx
  replace hx1 := (((Ext.refl w).alloc _).alloc _).trans hx1
  clear hS
  have h1 := h.ext hx1
  have g0 := h1.var 1 (by omega)
  have g1 := h1.var 2 (by omega)
  have g2 := h1.var 3 (by omega)
  have g3 := h1.var 4 (by omega)
  have g4 := h1.var 5 (by omega)
  have g5 := h1.var 6 (by omega)
  have g6 := h1.var 7 (by omega)
  have g7 := h1.var 8 (by omega)
  have g8 := h1.var 9 (by omega)
  have g9 := h1.var 10 (by omega)
  have g10 := h1.var 11 (by omega)
  simp only [Nat.sub_self, Nat.reduceSub] at g0 g1 g2 g3 g4 g5 g6 g7 g8 g9 g10
  obtain ⟨W, hW⟩ : ∃ W, W = w1.alloc (.cells #[.iface 134 (.pointer (some (ad 1))), .iface 134 (.pointer (some (ad 2))), .iface 134 (.pointer (some (ad 3))), .iface 134 (.pointer (some (ad 4))), .iface 134 (.pointer (some (ad 5))), .iface 134 (.pointer (some (ad 6))), .iface 134 (.pointer (some (ad 7))), .iface 134 (.pointer (some (ad 8))), .iface 134 (.pointer (some (ad 9))), .iface 134 (.pointer (some (ad 10))), .iface 134 (.pointer (some (ad 11)))] 27) := ⟨_, rfl⟩
  have hcell : ∀ k, k < 11 → W.cell? ⟨w1.heap.size, k, none⟩ = some (.iface 134 (.pointer (some (ad (k + 1))))) := fun k hk => by
    have hB := Blk.new w1 #[.iface 134 (.pointer (some (ad 1))), .iface 134 (.pointer (some (ad 2))), .iface 134 (.pointer (some (ad 3))), .iface 134 (.pointer (some (ad 4))), .iface 134 (.pointer (some (ad 5))), .iface 134 (.pointer (some (ad 6))), .iface 134 (.pointer (some (ad 7))), .iface 134 (.pointer (some (ad 8))), .iface 134 (.pointer (some (ad 9))), .iface 134 (.pointer (some (ad 10))), .iface 134 (.pointer (some (ad 11)))] 27
    rw [← hW] at hB
    rw [hB.cell k]
    rcases (by omega : k = 0 ∨ k = 1 ∨ k = 2 ∨ k = 3 ∨ k = 4 ∨ k = 5 ∨ k = 6 ∨ k = 7 ∨ k = 8 ∨ k = 9 ∨ k = 10) with rfl | rfl | rfl | rfl | rfl | rfl | rfl | rfl | rfl | rfl | rfl <;> rfl
  have hX : Ext w W := by rw [hW]; exact hx1.alloc _
  have HW := hid hW
  have Hc := fun k hk w2 (x : Ext W w2) => hid (x.cellx (hcell k hk))
  clear hcell hW
  go_wp2
  rw [← HW.out]
  clear g0 g1 g2 g3 g4 g5 g6 g7 g8 g9 g10 HW h1 hx1
  generalize w1.heap.size = N at *
  go_loopw [4] (fun t4 wr => ∃ k : Nat, t4 = .int .i64 (k : Int) ∧ k ≤ 11 ∧ Ext W wr) (fun t4 _ => 11 - (intOf t4).toNat)
  case atStart => exact ⟨0, rfl, Nat.zero_le _, Ext.refl _⟩
  case round =>
    obtain ⟨k, rfl, hk, hx⟩ := hrel
    by_cases hlt : k < 11
    · have hck := (Hc k hlt wr hx).out
      have hlt2 : (k : Int) < 11 := by omega
      have hB := Blk.new wr #[.int .i64 7, .iface 134 (.pointer (some (ad (k + 1))))] 60
      have hA := h.ext (hX.trans (hx.alloc (.cells #[.int .i64 7, .iface 134 (.pointer (some (ad (k + 1))))] 60)))
      have HC := hid (code_fault _ ad hA wr.heap.size 7 (k + 1) (by omega) ((hB.cell 0).trans rfl) (IsAs.fault hA (k + 1) (by omega) wr.heap.size ((hB.cell 1).trans rfl)))
      have HD := fun w2 (x : Ext w w2) => hid (coded1_any w2 ad (h.ext x) (k + 1) (by omega) ((k : Int) + 1))
      have hcv : codeV (k + 1) = (k : Int) + 1 := by unfold codeV; rw [if_neg (by omega)]; omega
      rw [hcv] at HC
      rw [show decide (((k + 1 : Nat) : Int) = (k : Int) + 1) = true from decide_eq_true (by omega)] at HD
      unfold errv evOf at HD
      rw [if_neg (by omega)] at HD
      clear hcv hB hA hck
      have hck := fun w2 (x : Ext W w2) => (Hc k hlt w2 x).out
      obtain ⟨a, ha⟩ : ∃ a, a = ad (k + 1) := ⟨_, rfl⟩
      rw [← ha] at HC HD hck
      clear ha
      go_wp2_with fail
      refine HC.out.mono ?_
      intro e w3 hx3
      obtain ⟨rfl, hx3⟩ := hx3
      replace hx3 := (hx.alloc _).trans hx3
      clear HC
      go_wp2_with fail
      refine (HD _ (hX.trans hx3)).out.mono ?_
      intro e w4 hx4
      obtain ⟨rfl, hx4⟩ := hx4
      replace hx4 := hx3.trans hx4
      clear HD hx3 hck
      go_wp2
      go_roundw
      case rel => exact ⟨k + 1, by go_num, by omega, hx4⟩
      case measure => simp [intOf]; omega
    · obtain rfl : k = 11 := by omega
      have HN := fun s => hid (errnew_any s wr)
      have hAr := h.ext (hX.trans hx)
      have HC := fun s => (have hA := hAr.ext ((Ext.refl wr).alloc (.cells #[.string s] 136))
        hid (code_sent _ ad hA (.pointer (some ⟨wr.heap.size, 0, none⟩)) 0 (by omega) (IsAs.none hA ⟨wr.heap.size, 0, none⟩ ⟨_, _, Blk.new _ _ _⟩ (fun c hc e => by
          obtain ⟨cs, t, e2⟩ := hAr.row c hc
          have := (Array.getElem?_eq_some_iff.1 e2).1
          rw [← e] at this
          simp at this))))
      have hcv : codeV 0 = -1 := rfl
      rw [hcv] at HC
      have HD := fun w2 (x : Ext w w2) => hid (coded1_any w2 ad (h.ext x) 0 (by omega) 0)
      unfold errv at HD
      rw [if_pos rfl] at HD
      rw [show decide (((0 : Nat) : Int) = 0) = true by decide] at HD
      clear hcv hAr
      go_wp2_with fail
      refine (HN _).out.mono ?_
      intro e w3 hx3
      obtain ⟨rfl, rfl⟩ := hx3
      go_wp2_with fail
      refine (HC _).out.mono ?_
      intro e w4 hx4
      obtain ⟨rfl, hx4⟩ := hx4
      replace hx4 := (hx.alloc _).trans hx4
      clear HC HN
      go_wp2_with fail
      refine (HD _ (hX.trans hx4)).out.mono ?_
      intro e w5 hx5
      obtain ⟨rfl, hx5⟩ := hx5
      replace hx5 := hX.trans (hx4.trans hx5)
      clear HD
      go_wp2
      go_ret
      exact ⟨rfl, hx5⟩
end Go.Proofs.YtmdcjfgdmmncpaaDoor
