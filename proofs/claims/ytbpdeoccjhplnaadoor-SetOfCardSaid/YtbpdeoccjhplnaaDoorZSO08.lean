/- Texts of one proof, put together: PC CD S8 VB. -/
import Derived.Test.YtbpdeoccjhplnaaDoorZSO01
import Derived.Test.YtbpdeoccjhplnaaDoorZSO05
import Derived.Test.YtbpdeoccjhplnaaDoorZSO07
import Derived.ProofKit
import Derived.OpenShut
import Derived.Lib.SmallJoins
import Derived.Deep.Slices

/- plain.Code walked: an error's number, and its place. -/
namespace Go.Proofs.YtbpdeoccjhplnaaDoor
set_option linter.unusedSimpArgs false
set_option linter.unusedVariables false
open Go Go.RowKit

/-- All errors lie as they were laid. -/
structure AllErrs (w : World) (ad : Nat → Addr) : Prop where
  var : ∀ c, 1 ≤ c ∧ c ≤ 11 → w.cell? ⟨gE c, 0, none⟩ = some (.iface 215 (.pointer (some (ad c))))
  row : ∀ c, 1 ≤ c ∧ c ≤ 11 → ∃ cs t, w.heap[(ad c).block]? = some (.cells cs t (0, 0))
  inj : ∀ c d, 1 ≤ c ∧ c ≤ 11 → 1 ≤ d ∧ d ≤ 11 → ad c = ad d → c = d
  ty : w.cell? ⟨11, 0, none⟩ = some (.iface 162 (.agg #[.pointer (some ⟨18, 25, none⟩)]))
theorem AllErrs.at1 {w : World} {ad : Nat → Addr} (h : AllErrs w ad) : w.cell? ⟨1, 0, none⟩ = some (.iface 215 (.pointer (some (ad 1)))) := h.var 1 (by omega)
theorem AllErrs.at2 {w : World} {ad : Nat → Addr} (h : AllErrs w ad) : w.cell? ⟨0, 0, none⟩ = some (.iface 215 (.pointer (some (ad 2)))) := h.var 2 (by omega)
theorem AllErrs.at3 {w : World} {ad : Nat → Addr} (h : AllErrs w ad) : w.cell? ⟨2, 0, none⟩ = some (.iface 215 (.pointer (some (ad 3)))) := h.var 3 (by omega)
theorem AllErrs.at4 {w : World} {ad : Nat → Addr} (h : AllErrs w ad) : w.cell? ⟨3, 0, none⟩ = some (.iface 215 (.pointer (some (ad 4)))) := h.var 4 (by omega)
theorem AllErrs.at5 {w : World} {ad : Nat → Addr} (h : AllErrs w ad) : w.cell? ⟨4, 0, none⟩ = some (.iface 215 (.pointer (some (ad 5)))) := h.var 5 (by omega)
theorem AllErrs.at6 {w : World} {ad : Nat → Addr} (h : AllErrs w ad) : w.cell? ⟨5, 0, none⟩ = some (.iface 215 (.pointer (some (ad 6)))) := h.var 6 (by omega)
theorem AllErrs.at7 {w : World} {ad : Nat → Addr} (h : AllErrs w ad) : w.cell? ⟨6, 0, none⟩ = some (.iface 215 (.pointer (some (ad 7)))) := h.var 7 (by omega)
theorem AllErrs.at8 {w : World} {ad : Nat → Addr} (h : AllErrs w ad) : w.cell? ⟨7, 0, none⟩ = some (.iface 215 (.pointer (some (ad 8)))) := h.var 8 (by omega)
theorem AllErrs.at9 {w : World} {ad : Nat → Addr} (h : AllErrs w ad) : w.cell? ⟨8, 0, none⟩ = some (.iface 215 (.pointer (some (ad 9)))) := h.var 9 (by omega)
theorem AllErrs.at10 {w : World} {ad : Nat → Addr} (h : AllErrs w ad) : w.cell? ⟨9, 0, none⟩ = some (.iface 215 (.pointer (some (ad 10)))) := h.var 10 (by omega)
theorem AllErrs.at11 {w : World} {ad : Nat → Addr} (h : AllErrs w ad) : w.cell? ⟨10, 0, none⟩ = some (.iface 215 (.pointer (some (ad 11)))) := h.var 11 (by omega)
theorem AllErrs.ext {w w' : World} {ad : Nat → Addr} (h : AllErrs w ad) (x : Ext w w') : AllErrs w' ad :=
  ⟨fun c hc => x.cellx (h.var c hc), fun c hc => by obtain ⟨cs, t, e⟩ := h.row c hc; exact ⟨cs, t, x.get e⟩, h.inj, x.cellx h.ty⟩
/-- What errors.Is tells of e: it is the one with the number c, or none. -/
def IsAs (w : World) (ad : Nat → Addr) (e : Value) (c : Nat) : Prop := ∀ w', Ext w w' → ∀ d, 1 ≤ d ∧ d ≤ 11 → Calls Tryd.prog 51 #[e, .iface 215 (.pointer (some (ad d)))] w' fun r w'' => r = .returned (.bool (decide (d = c))) ∧ w' = w''
theorem IsAs.sent {w : World} {ad : Nat → Addr} (h : AllErrs w ad) (c : Nat) (hc : 1 ≤ c ∧ c ≤ 11) : IsAs w ad (.iface 215 (.pointer (some (ad c)))) c := by
  intro w' x d hd
  by_cases e : d = c
  · subst e
    rw [decide_eq_true rfl]
    exact is_same (ad d) w'
  · rw [decide_eq_false e]
    have h' := h.ext x
    obtain ⟨c1, t1, e1⟩ := h'.row c hc
    obtain ⟨c2, t2, e2⟩ := h'.row d hd
    exact is_other (ad c) (ad d) c1 c2 t1 t2 w' (fun e' => e (h.inj d c hd hc e'.symm)) e1 e2
theorem IsAs.fault {w : World} {ad : Nat → Addr} (h : AllErrs w ad) (c : Nat) (hc : 1 ≤ c ∧ c ≤ 11) (b : Nat) (hb : w.cell? ⟨b, 1, none⟩ = some (.iface 215 (.pointer (some (ad c))))) : IsAs w ad (.iface 87 (.pointer (some ⟨b, 0, none⟩))) c := by
  intro w' x d hd
  by_cases e : d = c
  · subst e
    rw [decide_eq_true rfl]
    exact is_wrap_same b (ad d) w' (x.cellx hb)
  · rw [decide_eq_false e]
    have h' := h.ext x
    obtain ⟨c1, t1, e1⟩ := h'.row c hc
    obtain ⟨c2, t2, e2⟩ := h'.row d hd
    exact is_wrap_other b (ad d) (ad c) c1 c2 t1 t2 w' (x.cellx hb) (fun e' => e (h.inj d c hd hc e'.symm)) e1 e2
/-- One that is none of them. -/
theorem IsAs.none {w : World} {ad : Nat → Addr} (h : AllErrs w ad) (a : Addr) (ha : ∃ cs t, w.heap[a.block]? = some (.cells cs t (0, 0))) (hne : ∀ c, 1 ≤ c ∧ c ≤ 11 → a ≠ ad c) : IsAs w ad (.iface 215 (.pointer (some a))) 0 := by
  intro w' x d hd
  rw [decide_eq_false (by omega)]
  obtain ⟨c1, t1, e1⟩ := ha
  obtain ⟨c2, t2, e2⟩ := (h.ext x).row d hd
  exact is_other a (ad d) c1 c2 t1 t2 w' (hne d hd) (x.get e1) e2

def codeV (c : Nat) : Int := if c = 0 then -1 else c

set_option maxRecDepth 100000 in
set_option maxHeartbeats 400000 in
theorem code_nil (w : World) : Calls Tryd.prog 25 #[.nilIface] w fun e w' => e = .returned (.tuple #[.int .i64 0, .int .i64 (-1)]) ∧ w = w' := by
  go_enter Tryd.func25, Tryd.ntmps25
  go_wp2
  go_ret2
  exact ⟨rfl, rfl⟩


set_option maxRecDepth 100000 in
set_option maxHeartbeats 3200000 in
theorem code_sent (w : World) (ad : Nat → Addr) (h : AllErrs w ad) (x : Value) (c : Nat) (hc : c ≤ 11) (hi : IsAs w ad (.iface 215 x) c) :
    Calls Tryd.prog 25 #[.iface 215 x] w fun e w' => e = .returned (.tuple #[.int .i64 (codeV c), .int .i64 (-1)]) ∧ Ext w w' := by
  have hA := hid (as_miss x ⟨w.heap.size, 0, none⟩ (.pointer none) (w.alloc (.cells #[.pointer none] 87)) (((Ext.refl w).alloc _).cellx h.ty) (by simp) (by simp))
  go_enter Tryd.func25, Tryd.ntmps25
  go_wp2_with fail
  refine hA.out.mono ?_
  intro e w1 hx
  obtain ⟨rfl, hx1⟩ := hx
  replace hx1 := ((Ext.refl w).alloc _).trans hx1
  clear hA
  have g0 := (h.ext hx1).at1
  have g1 := (h.ext hx1).at2
  have g2 := (h.ext hx1).at3
  have g3 := (h.ext hx1).at4
  have g4 := (h.ext hx1).at5
  have g5 := (h.ext hx1).at6
  have g6 := (h.ext hx1).at7
  have g7 := (h.ext hx1).at8
  have g8 := (h.ext hx1).at9
  have g9 := (h.ext hx1).at10
  have g10 := (h.ext hx1).at11
  obtain ⟨W, hW⟩ : ∃ W, W = w1.alloc (.cells #[.iface 215 (.pointer (some (ad 1))), .iface 215 (.pointer (some (ad 2))), .iface 215 (.pointer (some (ad 3))), .iface 215 (.pointer (some (ad 4))), .iface 215 (.pointer (some (ad 5))), .iface 215 (.pointer (some (ad 6))), .iface 215 (.pointer (some (ad 7))), .iface 215 (.pointer (some (ad 8))), .iface 215 (.pointer (some (ad 9))), .iface 215 (.pointer (some (ad 10))), .iface 215 (.pointer (some (ad 11)))] 25) := ⟨_, rfl⟩
  have hcell : ∀ k, k < 11 → W.cell? ⟨w1.heap.size, k, none⟩ = some (.iface 215 (.pointer (some (ad (k + 1))))) := fun k hk => by
    have hB := Blk.new w1 #[.iface 215 (.pointer (some (ad 1))), .iface 215 (.pointer (some (ad 2))), .iface 215 (.pointer (some (ad 3))), .iface 215 (.pointer (some (ad 4))), .iface 215 (.pointer (some (ad 5))), .iface 215 (.pointer (some (ad 6))), .iface 215 (.pointer (some (ad 7))), .iface 215 (.pointer (some (ad 8))), .iface 215 (.pointer (some (ad 9))), .iface 215 (.pointer (some (ad 10))), .iface 215 (.pointer (some (ad 11)))] 25
    rw [← hW] at hB
    rw [hB.cell k]
    rcases (by omega : k = 0 ∨ k = 1 ∨ k = 2 ∨ k = 3 ∨ k = 4 ∨ k = 5 ∨ k = 6 ∨ k = 7 ∨ k = 8 ∨ k = 9 ∨ k = 10) with rfl | rfl | rfl | rfl | rfl | rfl | rfl | rfl | rfl | rfl | rfl <;> rfl
  have hX : Ext w W := by rw [hW]; exact hx1.alloc _
  have HW := hid hW
  have Hc := fun k hk => hid (hcell k hk)
  have HI := hid (hi _ hX)
  have Hx := hid hX
  clear hcell hW hX hi
  go_wp2
  rw [← HW.out]
  clear g0 g1 g2 g3 g4 g5 g6 g7 g8 g9 g10 HW h hx1
  generalize w1.heap.size = N at *
  go_loop [3, 29] (fun t3 t29 => ∃ k : Nat, t29 = .int .i64 (k : Int) ∧ k ≤ 11 ∧ t3 = .int .i64 (-1) ∧ ∀ d, 1 ≤ d → d ≤ k → d ≠ c) (fun _ t29 => 11 - (intOf t29).toNat)
  case atStart => exact ⟨0, rfl, Nat.zero_le _, rfl, fun d h1 h2 => by omega⟩
  case round =>
    obtain ⟨k, rfl, hk, rfl, hne⟩ := hrel
    have Hne := hid hne
    clear hne
    by_cases hlt : k < 11
    · have hck := (Hc k hlt).out
      have hcall := hid (HI.out (k + 1) (by omega))
      by_cases he : k + 1 = c
      · have hcv : Hid (codeV c = (k : Int) + 1) := hid (by unfold codeV; rw [if_neg (by omega)]; omega)
        rw [decide_eq_true he] at hcall
        clear he
        have hlt2 : (k : Int) < 11 := by omega
        go_wp2_with fail
        refine hcall.out.mono ?_
        rintro e w3 ⟨rfl, rfl⟩
        go_wp2
        go_ret2
        exact ⟨by rw [hcv.out]; rfl, Hx.out⟩
      · rw [decide_eq_false he] at hcall
        have hlt2 : (k : Int) < 11 := by omega
        have He := hid he
        clear he
        go_wp2_with fail
        refine hcall.out.mono ?_
        rintro e w3 ⟨rfl, rfl⟩
        go_wp2
        go_round
        case rel => exact ⟨k + 1, by go_num, by omega, rfl, fun d h1 h2 => by
          by_cases hd : d = k + 1
          · rw [hd]; exact He.out
          · exact Hne.out d h1 (by omega)⟩
        case measure => simp [intOf]; omega
    · obtain rfl : k = 11 := by omega
      have hcv : Hid (codeV c = -1) := hid (by
        unfold codeV
        rw [if_pos]
        rcases Nat.eq_zero_or_pos c with h0 | h0
        · exact h0
        · exact absurd rfl (Hne.out c h0 hc))
      go_wp2
      go_ret2
      exact ⟨by rw [hcv.out]; rfl, Hx.out⟩

set_option maxRecDepth 100000 in
set_option maxHeartbeats 3200000 in
/-- A fault's code, and its place. -/
theorem code_fault (w : World) (ad : Nat → Addr) (h : AllErrs w ad) (b : Nat) (pl : Int) (c : Nat) (hc : c ≤ 11) (hpl : w.cell? ⟨b, 0, none⟩ = some (.int .i64 pl)) (hi : IsAs w ad (.iface 87 (.pointer (some ⟨b, 0, none⟩))) c) :
    Calls Tryd.prog 25 #[.iface 87 (.pointer (some ⟨b, 0, none⟩))] w fun e w' => e = .returned (.tuple #[.int .i64 (codeV c), .int .i64 pl]) ∧ Ext w w' := by
  have hA := hid (as_hit ⟨b, 0, none⟩ ⟨w.heap.size, 0, none⟩ (.pointer none) (w.alloc (.cells #[.pointer none] 87)) (((Ext.refl w).alloc _).cellx h.ty) (by simp) (by simp))
  go_enter Tryd.func25, Tryd.ntmps25
  go_wp2_with fail
  refine hA.out.mono ?_
  intro e w1 hx
  obtain ⟨rfl, hw1⟩ := hx
  have h3 := ((((Ext.refl (w.alloc (.cells #[.pointer none] 87))).alloc (.cells #[.pointer (some ⟨w.heap.size, 0, none⟩)] 89)).alloc (.cells #[.pointer (some ⟨18, 89, none⟩), .pointer (some ⟨(w.alloc (.cells #[.pointer none] 87)).heap.size, 0, none⟩), .int .u64 150] 129)).alloc (.cells #[.pointer (some ⟨18, 89, none⟩), .pointer (some ⟨(w.alloc (.cells #[.pointer none] 87)).heap.size, 0, none⟩), .int .u64 150] 129)).alloc (.cells #[.pointer (some ⟨b, 0, none⟩)] 87)
  have hB := ((Blk.new w #[.pointer none] 87).ext h3).set 0 (.pointer (some ⟨b, 0, none⟩))
  have hx1 : Ext w w1 := by
    rw [hw1]
    exact Keep.new (((Ext.refl w).alloc _).trans h3) (Keep.set (X := fun n => n = w.heap.size) (Keep.refl _ _) rfl _) fun n hn => by omega
  rw [← hw1] at hB
  have ht : w1.cell? ⟨w.heap.size, 0, none⟩ = some (.pointer (some ⟨b, 0, none⟩)) := (hB.cell 0).trans rfl
  have hp1 := hx1.cellx hpl
  clear hA hw1 h3 hB
  have g0 := (h.ext hx1).at1
  have g1 := (h.ext hx1).at2
  have g2 := (h.ext hx1).at3
  have g3 := (h.ext hx1).at4
  have g4 := (h.ext hx1).at5
  have g5 := (h.ext hx1).at6
  have g6 := (h.ext hx1).at7
  have g7 := (h.ext hx1).at8
  have g8 := (h.ext hx1).at9
  have g9 := (h.ext hx1).at10
  have g10 := (h.ext hx1).at11
  obtain ⟨W, hW⟩ : ∃ W, W = w1.alloc (.cells #[.iface 215 (.pointer (some (ad 1))), .iface 215 (.pointer (some (ad 2))), .iface 215 (.pointer (some (ad 3))), .iface 215 (.pointer (some (ad 4))), .iface 215 (.pointer (some (ad 5))), .iface 215 (.pointer (some (ad 6))), .iface 215 (.pointer (some (ad 7))), .iface 215 (.pointer (some (ad 8))), .iface 215 (.pointer (some (ad 9))), .iface 215 (.pointer (some (ad 10))), .iface 215 (.pointer (some (ad 11)))] 25) := ⟨_, rfl⟩
  have hcell : ∀ k, k < 11 → W.cell? ⟨w1.heap.size, k, none⟩ = some (.iface 215 (.pointer (some (ad (k + 1))))) := fun k hk => by
    have hB := Blk.new w1 #[.iface 215 (.pointer (some (ad 1))), .iface 215 (.pointer (some (ad 2))), .iface 215 (.pointer (some (ad 3))), .iface 215 (.pointer (some (ad 4))), .iface 215 (.pointer (some (ad 5))), .iface 215 (.pointer (some (ad 6))), .iface 215 (.pointer (some (ad 7))), .iface 215 (.pointer (some (ad 8))), .iface 215 (.pointer (some (ad 9))), .iface 215 (.pointer (some (ad 10))), .iface 215 (.pointer (some (ad 11)))] 25
    rw [← hW] at hB
    rw [hB.cell k]
    rcases (by omega : k = 0 ∨ k = 1 ∨ k = 2 ∨ k = 3 ∨ k = 4 ∨ k = 5 ∨ k = 6 ∨ k = 7 ∨ k = 8 ∨ k = 9 ∨ k = 10) with rfl | rfl | rfl | rfl | rfl | rfl | rfl | rfl | rfl | rfl | rfl <;> rfl
  have hX : Ext w W := by rw [hW]; exact hx1.alloc _
  have HW := hid hW
  have Hc := fun k hk => hid (hcell k hk)
  have HI := hid (hi _ hX)
  have Hx := hid hX
  clear hcell hW hX hi
  go_wp2
  rw [← HW.out]
  clear g0 g1 g2 g3 g4 g5 g6 g7 g8 g9 g10 HW h hx1
  generalize w1.heap.size = N at *
  go_loop [3, 29] (fun t3 t29 => ∃ k : Nat, t29 = .int .i64 (k : Int) ∧ k ≤ 11 ∧ t3 = .int .i64 pl ∧ ∀ d, 1 ≤ d → d ≤ k → d ≠ c) (fun _ t29 => 11 - (intOf t29).toNat)
  case atStart => exact ⟨0, rfl, Nat.zero_le _, rfl, fun d h1 h2 => by omega⟩
  case round =>
    obtain ⟨k, rfl, hk, rfl, hne⟩ := hrel
    have Hne := hid hne
    clear hne
    by_cases hlt : k < 11
    · have hck := (Hc k hlt).out
      have hcall := hid (HI.out (k + 1) (by omega))
      by_cases he : k + 1 = c
      · have hcv : Hid (codeV c = (k : Int) + 1) := hid (by unfold codeV; rw [if_neg (by omega)]; omega)
        rw [decide_eq_true he] at hcall
        clear he
        have hlt2 : (k : Int) < 11 := by omega
        go_wp2_with fail
        refine hcall.out.mono ?_
        rintro e w3 ⟨rfl, rfl⟩
        go_wp2
        go_ret2
        exact ⟨by rw [hcv.out]; rfl, Hx.out⟩
      · rw [decide_eq_false he] at hcall
        have hlt2 : (k : Int) < 11 := by omega
        have He := hid he
        clear he
        go_wp2_with fail
        refine hcall.out.mono ?_
        rintro e w3 ⟨rfl, rfl⟩
        go_wp2
        go_round
        case rel => exact ⟨k + 1, by go_num, by omega, rfl, fun d h1 h2 => by
          by_cases hd : d = k + 1
          · rw [hd]; exact He.out
          · exact Hne.out d h1 (by omega)⟩
        case measure => simp [intOf]; omega
    · obtain rfl : k = 11 := by omega
      have hcv : Hid (codeV c = -1) := hid (by
        unfold codeV
        rw [if_pos]
        rcases Nat.eq_zero_or_pos c with h0 | h0
        · exact h0
        · exact absurd rfl (Hne.out c h0 hc))
      go_wp2
      go_ret2
      exact ⟨by rw [hcv.out]; rfl, Hx.out⟩
end Go.Proofs.YtbpdeoccjhplnaaDoor


/- The laws' own word for an error's number is walked. -/
namespace Go.Proofs.YtbpdeoccjhplnaaDoor
set_option linter.unusedSimpArgs false
set_option linter.unusedVariables false
open Go Go.RowKit


/-- An error of a number, or none, that is asked for a number. -/
theorem code_err (w : World) (ad : Nat → Addr) (h : AllErrs w ad) (c : Nat) (hc : c ≤ 11) :
    Calls Tryd.prog 25 #[errv (evOf ad) c] w fun e w' => e = .returned (.tuple #[.int .i64 (c : Int), .int .i64 (-1)]) ∧ Ext w w' := by
  unfold errv
  by_cases h0 : c = 0
  · subst h0
    rw [if_pos rfl]
    exact (code_nil w).mono fun e w' ⟨h1, h2⟩ => ⟨h1, h2 ▸ Ext.refl _⟩
  · rw [if_neg h0]
    have := code_sent w ad h _ c hc (IsAs.sent h c (by omega))
    unfold codeV at this
    rw [if_neg h0] at this
    exact this

set_option maxRecDepth 100000 in
set_option maxHeartbeats 800000 in
theorem coded1_any (w : World) (ad : Nat → Addr) (h : AllErrs w ad) (c : Nat) (hc : c ≤ 11) (k : Int) :
    Calls Tryd.prog 8 #[errv (evOf ad) c, .int .i64 k] w fun e w' => e = .returned (.bool (decide ((c : Int) = k))) ∧ Ext w w' := by
  have HC := hid (code_err w ad h c hc)
  clear h
  generalize errv (evOf ad) c = ev at *
  by_cases hck : (c : Int) = k
  · have Hck := hid (decide_eq_true hck)
    rw [hck] at HC
    clear hck
    go_enter Tryd.func8, Tryd.ntmps8
    go_wp2_with fail
    refine HC.out.mono ?_
    intro e w1 hx
    obtain ⟨rfl, hx⟩ := hx
    go_wp2
    go_ret
    exact ⟨by rw [Hck.out]; rfl, hx⟩
  · have Hck := hid (decide_eq_false hck)
    go_enter Tryd.func8, Tryd.ntmps8
    go_wp2_with fail
    refine HC.out.mono ?_
    intro e w1 hx
    obtain ⟨rfl, hx⟩ := hx
    go_wp2
    go_ret
    exact ⟨by rw [Hck.out]; rfl, hx⟩

theorem AllErrs.errs {w : World} {ad : Nat → Addr} (h : AllErrs w ad) : Errs w (evOf ad) :=
  ⟨⟨h.at2, h.at3, h.at4, h.at8⟩, h.at1, h.at11⟩
end Go.Proofs.YtbpdeoccjhplnaaDoor


/- SetOf: the law walked. -/
namespace Go.Proofs.YtbpdeoccjhplnaaDoor
set_option linter.unusedSimpArgs false
set_option linter.unusedVariables false
open Go Go.RowKit

/-- A set that lies in memory. -/
structure SV (w : World) (v : Value) (l : List Int) : Prop where
  row : IntsR w w.heap.size v l
  ok : chkE l = 0
  few : l.length ≤ 1000
theorem SV.ext {w w' : World} {v : Value} {l : List Int} (h : SV w v l) (x : Ext w w') : SV w' v l := ⟨ElR.lift (h.row.old (x.old _)) x.size, h.ok, h.few⟩
theorem SV.form {w : World} {v : Value} {l : List Int} (h : SV w v l) : ∃ a c, v = .slice a l.length c := by
  obtain ⟨⟨a, c, h1, _⟩, _, _⟩ := h
  exact ⟨a, c, h1⟩
theorem sset_few (l : List Int) : (sset l).length ≤ 1000 := setUp_len l 1000
theorem SV.of {w : World} {n0 : Nat} {v : Value} {l : List Int} (h : IRow n0 w v (sset l)) : SV w v (sset l) := ⟨IntsR.own h (Nat.le_refl _), chkE_sset l, sset_few l⟩
theorem ok_le {l : List Int} (h : InR l) (i : Nat) : l.getD i 0 ≤ 9223372036854775807 := by
  rw [List.getD_eq_getElem?_getD]
  cases hx : l[i]? with
  | none => exact (by decide : (0 : Int) ≤ 9223372036854775807)
  | some x =>
    have := h x (List.mem_of_getElem? hx)
    show x ≤ _
    omega
theorem sv_union (va vb : Value) (a b : List Int) (w : World) (ad : Nat → Addr) (hE : ErrS w ad) (ha : SV w va a) (hb : SV w vb b) :
    Calls Tryd.prog 11 #[va, vb] w fun e w' => ∃ v l, e = .returned (.tuple #[v, .nilIface]) ∧ l = sset (a ++ b) ∧ SV w' v l ∧ Ext w w' :=
  (setunion_any va vb a b w w.heap.size ad hE ha.row hb.row (by have := ha.few; omega) (by have := hb.few; omega)).mono fun e w' ⟨t, he, ht, hx⟩ => by
    rcases ht with ⟨_, v, h1, h2⟩ | ⟨h, _⟩
    · exact ⟨v, _, by rw [he, h1], rfl, SV.of h2, hx⟩
    · exact absurd (bothE_zero.2 ⟨ha.ok, hb.ok⟩) h
theorem sv_and (va vb : Value) (a b : List Int) (w : World) (ad : Nat → Addr) (hE : ErrS w ad) (ha : SV w va a) (hb : SV w vb b) :
    Calls Tryd.prog 12 #[va, vb] w fun e w' => ∃ v l, e = .returned (.tuple #[v, .nilIface]) ∧ l = (a.filter fun n => decide (n ∈ b)) ∧ SV w' v l ∧ Ext w w' :=
  (setand_any va vb a b w w.heap.size ad hE ha.row hb.row (by have := ha.few; omega)).mono fun e w' ⟨t, he, ht, hx⟩ => by
    rcases ht with ⟨_, v, h1, h2⟩ | ⟨h, _⟩
    · obtain ⟨i1, i2⟩ := chkE_zero.1 ha.ok
      exact ⟨v, _, by rw [he, h1], rfl, ⟨IntsR.own h2 (Nat.le_refl _), chkE_zero.2 ⟨i1.filter _, i2.filter _⟩, Nat.le_trans (List.length_filter_le _ _) ha.few⟩, hx⟩
    · exact absurd (bothE_zero.2 ⟨ha.ok, hb.ok⟩) h
theorem sv_same (va vb : Value) (a b : List Int) (w : World) (ha : SV w va a) (hb : SV w vb b) :
    Calls Tryd.prog 9 #[va, vb] w fun e w' => e = .returned (.bool (decide (a = b))) ∧ Ext w w' := by
  obtain ⟨aa, ca, rfl⟩ := ha.form
  obtain ⟨ab, cb, rfl⟩ := hb.form
  exact sameints_any aa ab a.length b.length ca cb a b w (ha.row.ints (ok_le (chkE_zero.1 ha.ok).1)) (hb.row.ints (ok_le (chkE_zero.1 hb.ok).1)) (by have := ha.few; omega) (by have := hb.few; omega)
/-- A set out of copied numbers. -/
theorem own_of (v : Value) (l : List Int) (w : World) (n0 : Nat) (h : IntsR w n0 v l) (hl : l.length ≤ 1000) :
    Calls Tryd.prog 7 #[v] w fun e w' => ∃ v', e = .returned v' ∧ Ext w w' ∧ IntsR w' w'.heap.size v' l ∧ ∃ a c, v' = .slice a l.length c :=
  (ownintsR_any v l w n0 h hl).mono fun e w' ⟨v', he, hx, hr⟩ => ⟨v', he, hx, IntsR.own hr (Nat.le_refl _), IRow.form hr⟩
def rngE (l : List Int) : Nat := if l.all (fun x => decide (0 ≤ x ∧ x < 1000)) then 0 else 2
theorem rngE_in {l : List Int} (h : InR l) : rngE l = 0 := by
  unfold rngE
  rw [if_pos (List.all_eq_true.2 fun x hx => decide_eq_true (h x hx))]
theorem rngE_out {l : List Int} (h : ¬ InR l) : rngE l = 2 := by
  unfold rngE
  rw [if_neg fun g => h fun x hx => of_decide_eq_true (List.all_eq_true.1 g x hx)]
theorem rngE_snoc (l : List Int) (q : Int) : rngE (l ++ [q]) = if 0 ≤ q ∧ q < 1000 then rngE l else 2 := by
  unfold rngE
  rw [List.all_append]
  by_cases h : 0 ≤ q ∧ q < 1000
  · rw [if_pos h]; simp [h]
  · rw [if_neg h]; simp [h]

theorem AllErrs.errS {w : World} {ad : Nat → Addr} (h : AllErrs w ad) : ErrS w ad := ⟨h.var 2 (by decide), h.var 10 (by decide)⟩
set_option maxRecDepth 100000 in
set_option maxHeartbeats 6400000 in
theorem lawsetof_any (va vb vc : Value) (a b c : List Int) (w : World) (n0 : Nat) (ad : Nat → Addr) (hA : AllErrs w ad) (ha : IntsR w n0 va a) (hb : IntsR w n0 vb b) (hc : IntsR w n0 vc c) :
    Calls Tryd.prog 3 #[va, vb, vc] w fun e w' => e = .returned (.bool true) ∧ Ext w w' := by
  have HA := hid hA
  have HIa := hid ha
  have HIb := hid hb
  have HIc := hid hc
  have HUn := hid (united_any w ad hA.errS)
  obtain ⟨aa, ca, rfl, _, ha3, ha4, ha5⟩ := id ha
  obtain ⟨ab, cb, rfl, _, hb3, _⟩ := id hb
  obtain ⟨ac, cc, rfl, _, hc3, _⟩ := id hc
  have H4 := hid ha4
  have hla : (a.length : Int) ≤ 9223372036854775807 := by omega
  have hlb : (b.length : Int) ≤ 9223372036854775807 := by omega
  have hlc : (c.length : Int) ≤ 9223372036854775807 := by omega
  clear ha hb hc hA ha3 ha4 ha5 hb3 hc3
  go_enter Tryd.func3, Tryd.ntmps3
  go_wp2_with fail
  refine HUn.out.mono ?_
  intro e w1 hx
  obtain ⟨rfl, hx⟩ := hx
  have Hx := hid hx
  clear HUn hx
  by_cases h1 : 60 < a.length
  · go_wp2
    go_ret
    exact ⟨rfl, Hx.out⟩
  by_cases h2 : 60 < b.length
  · go_wp2
    go_ret
    exact ⟨rfl, Hx.out⟩
  by_cases h3 : 60 < c.length
  · go_wp2
    go_ret
    exact ⟨rfl, Hx.out⟩
  have HC := hid (own_of (.slice aa a.length ca) a w1 n0 (HIa.out.old (Hx.out.old n0)) (by omega))
  go_wp2_with fail
  refine HC.out.mono ?_
  intro e w2 hx
  obtain ⟨v, rfl, hx, hr, ax, cx, rfl⟩ := hx
  try replace HX := hid (HX.out.ext hx)
  try replace HY := hid (HY.out.ext hx)
  try replace HZ := hid (HZ.out.ext hx)
  try replace HP := hid (HP.out.ext hx)
  try replace HQ := hid (HQ.out.ext hx)
  try replace HR := hid (HR.out.ext hx)
  try replace HS := hid (HS.out.ext hx)
  try replace HT := hid (HT.out.ext hx)
  try replace HU := hid (HU.out.ext hx)
  try replace HV := hid (HV.out.ext hx)
  replace Hx := hid (Hx.out.trans hx)
  have HO := hid (setof_any _ a w2 w2.heap.size ad (AllErrs.errS (HA.out.ext Hx.out)) hr (by omega))
  clear HC hx hr
  go_wp2_with fail
  refine HO.out.mono ?_
  intro e w3 hx
  obtain ⟨t, rfl, ht, hx⟩ := hx
  try replace HX := hid (HX.out.ext hx)
  try replace HY := hid (HY.out.ext hx)
  try replace HZ := hid (HZ.out.ext hx)
  try replace HP := hid (HP.out.ext hx)
  try replace HQ := hid (HQ.out.ext hx)
  try replace HR := hid (HR.out.ext hx)
  try replace HS := hid (HS.out.ext hx)
  try replace HT := hid (HT.out.ext hx)
  try replace HU := hid (HU.out.ext hx)
  try replace HV := hid (HV.out.ext hx)
  replace Hx := hid (Hx.out.trans hx)
  clear HO hx
  rcases ht with ⟨hin, v, rfl, hr⟩ | ⟨hin, rfl⟩
  · have Hrn := hid (rngE_in hin)
    obtain ⟨x, hxe⟩ : ∃ x, x = sset a := ⟨_, rfl⟩
    have hsv := SV.of hr
    rw [← hxe] at hsv
    obtain ⟨ax, cx, rfl⟩ := hsv.form
    have HX := hid hsv
    have HXe := hid hxe
    have HRs := fun w' (x : Ext w w') => hid (rsetof_any _ a w' n0 (HIa.out.old (x.old n0)) hin)
    clear hsv hr hxe hin
    go_wp2
    go_loop [10, 11] (fun t10 t11 => ∃ i r : Nat, t11 = .int .i64 (i : Int) ∧ i ≤ a.length ∧ t10 = .int .i64 (r : Int) ∧ r = rngE (a.take i)) (fun _ t11 => a.length - (intOf t11).toNat)
    case atStart => exact ⟨0, 0, rfl, Nat.zero_le _, rfl, rfl⟩
    case round =>
      obtain ⟨i, r, rfl, hi, rfl, hr⟩ := hrel
      have Hr := hid hr
      clear hr
      by_cases hil : i < a.length
      · obtain ⟨y, q, hya, hqk, hcq⟩ := (HIa.out.old (Hx.out.old n0)).at hil
        subst hya
        have Hn : Hid (rngE (a.take (i + 1)) = if 0 ≤ q ∧ q < 1000 then r else 2) := hid (by rw [List.take_add_one, hqk, Hr.out]; exact rngE_snoc _ _)
        clear hqk
        by_cases hq0 : q < 0
        · have Hn2 : Hid (rngE (a.take (i + 1)) = 2) := hid (by rw [Hn.out, if_neg (by omega)])
          go_wp2
          exact ⟨⟨i + 1, 2, by go_num, by omega, rfl, Hn2.out.symm⟩, by simp [intOf]; omega⟩
        · by_cases hq1 : 1000 ≤ q
          · have Hn2 : Hid (rngE (a.take (i + 1)) = 2) := hid (by rw [Hn.out, if_neg (by omega)])
            go_wp2
            exact ⟨⟨i + 1, 2, by go_num, by omega, rfl, Hn2.out.symm⟩, by simp [intOf]; omega⟩
          · have Hn2 : Hid (rngE (a.take (i + 1)) = r) := hid (by rw [Hn.out, if_pos (by omega)])
            go_wp2
            exact ⟨⟨i + 1, r, by go_num, by omega, rfl, Hn2.out.symm⟩, by simp [intOf]; omega⟩
      · obtain rfl : i = a.length := by omega
        obtain rfl : r = 0 := by rw [Hr.out, List.take_of_length_le (Nat.le_refl _), Hrn.out]
        clear hil hi
        have HC := hid (coded1_any w3 ad (HA.out.ext Hx.out) 0 (by decide) 0)
        rw [errv_no rfl, decide_eq_true (by rfl)] at HC
        go_wp2_with fail
        refine (HC).out.mono ?_
        intro e w4 hx
        obtain ⟨rfl, hx⟩ := hx
        try replace HX := hid (HX.out.ext hx)
        try replace HY := hid (HY.out.ext hx)
        try replace HZ := hid (HZ.out.ext hx)
        try replace HP := hid (HP.out.ext hx)
        try replace HQ := hid (HQ.out.ext hx)
        try replace HR := hid (HR.out.ext hx)
        try replace HS := hid (HS.out.ext hx)
        try replace HT := hid (HT.out.ext hx)
        try replace HU := hid (HU.out.ext hx)
        try replace HV := hid (HV.out.ext hx)
        replace Hx := hid (Hx.out.trans hx)
        clear hx
        clear HC
        have HRs1 := HRs w4 Hx.out
        clear HRs
        go_wp2_with fail
        refine HRs1.out.mono ?_
        intro e w5 hx
        obtain ⟨v, rfl, hx, hr⟩ := hx
        try replace HX := hid (HX.out.ext hx)
        try replace HY := hid (HY.out.ext hx)
        try replace HZ := hid (HZ.out.ext hx)
        try replace HP := hid (HP.out.ext hx)
        try replace HQ := hid (HQ.out.ext hx)
        try replace HR := hid (HR.out.ext hx)
        try replace HS := hid (HS.out.ext hx)
        try replace HT := hid (HT.out.ext hx)
        try replace HU := hid (HU.out.ext hx)
        try replace HV := hid (HV.out.ext hx)
        replace Hx := hid (Hx.out.trans hx)
        have hsv := SV.of hr
        rw [← HXe.out] at hsv
        obtain ⟨a5, c5, rfl⟩ := hsv.form
        have HC := hid (sv_same _ _ x x w5 HX.out hsv)
        rw [decide_eq_true rfl] at HC
        clear HRs1 hx hr hsv
        go_wp2_with fail
        refine (HC).out.mono ?_
        intro e w6 hx
        obtain ⟨rfl, hx⟩ := hx
        try replace HX := hid (HX.out.ext hx)
        try replace HY := hid (HY.out.ext hx)
        try replace HZ := hid (HZ.out.ext hx)
        try replace HP := hid (HP.out.ext hx)
        try replace HQ := hid (HQ.out.ext hx)
        try replace HR := hid (HR.out.ext hx)
        try replace HS := hid (HS.out.ext hx)
        try replace HT := hid (HT.out.ext hx)
        try replace HU := hid (HU.out.ext hx)
        try replace HV := hid (HV.out.ext hx)
        replace Hx := hid (Hx.out.trans hx)
        clear hx
        clear HC
        have HC := hid (own_of (.slice ab b.length cb) b w6 n0 (HIb.out.old (Hx.out.old n0)) (by omega))
        go_wp2_with fail
        refine HC.out.mono ?_
        intro e w7 hx
        obtain ⟨v, rfl, hx, hr, ax, cx, rfl⟩ := hx
        try replace HX := hid (HX.out.ext hx)
        try replace HY := hid (HY.out.ext hx)
        try replace HZ := hid (HZ.out.ext hx)
        try replace HP := hid (HP.out.ext hx)
        try replace HQ := hid (HQ.out.ext hx)
        try replace HR := hid (HR.out.ext hx)
        try replace HS := hid (HS.out.ext hx)
        try replace HT := hid (HT.out.ext hx)
        try replace HU := hid (HU.out.ext hx)
        try replace HV := hid (HV.out.ext hx)
        replace Hx := hid (Hx.out.trans hx)
        have HO := hid (setof_any _ b w7 w7.heap.size ad (AllErrs.errS (HA.out.ext Hx.out)) hr (by omega))
        clear HC hx hr
        go_wp2_with fail
        refine HO.out.mono ?_
        intro e w8 hx
        obtain ⟨t, rfl, ht, hx⟩ := hx
        try replace HX := hid (HX.out.ext hx)
        try replace HY := hid (HY.out.ext hx)
        try replace HZ := hid (HZ.out.ext hx)
        try replace HP := hid (HP.out.ext hx)
        try replace HQ := hid (HQ.out.ext hx)
        try replace HR := hid (HR.out.ext hx)
        try replace HS := hid (HS.out.ext hx)
        try replace HT := hid (HT.out.ext hx)
        try replace HU := hid (HU.out.ext hx)
        try replace HV := hid (HV.out.ext hx)
        replace Hx := hid (Hx.out.trans hx)
        clear HO hx
        rcases ht with ⟨hinb, v, rfl, hrb⟩ | ⟨hinb, rfl⟩
        · obtain ⟨ly, ey⟩ : ∃ ly, ly = sset b := ⟨_, rfl⟩
          have hsv := SV.of hrb
          rw [← ey] at hsv
          obtain ⟨ay, cy, rfl⟩ := hsv.form
          have HY := hid hsv
          clear hsv hrb hinb ey
          have HC := hid (own_of (.slice ac c.length cc) c w8 n0 (HIc.out.old (Hx.out.old n0)) (by omega))
          go_wp2_with fail
          refine HC.out.mono ?_
          intro e w9 hx
          obtain ⟨v, rfl, hx, hr, ax, cx, rfl⟩ := hx
          try replace HX := hid (HX.out.ext hx)
          try replace HY := hid (HY.out.ext hx)
          try replace HZ := hid (HZ.out.ext hx)
          try replace HP := hid (HP.out.ext hx)
          try replace HQ := hid (HQ.out.ext hx)
          try replace HR := hid (HR.out.ext hx)
          try replace HS := hid (HS.out.ext hx)
          try replace HT := hid (HT.out.ext hx)
          try replace HU := hid (HU.out.ext hx)
          try replace HV := hid (HV.out.ext hx)
          replace Hx := hid (Hx.out.trans hx)
          have HO := hid (setof_any _ c w9 w9.heap.size ad (AllErrs.errS (HA.out.ext Hx.out)) hr (by omega))
          clear HC hx hr
          go_wp2_with fail
          refine HO.out.mono ?_
          intro e w10 hx
          obtain ⟨t, rfl, ht, hx⟩ := hx
          try replace HX := hid (HX.out.ext hx)
          try replace HY := hid (HY.out.ext hx)
          try replace HZ := hid (HZ.out.ext hx)
          try replace HP := hid (HP.out.ext hx)
          try replace HQ := hid (HQ.out.ext hx)
          try replace HR := hid (HR.out.ext hx)
          try replace HS := hid (HS.out.ext hx)
          try replace HT := hid (HT.out.ext hx)
          try replace HU := hid (HU.out.ext hx)
          try replace HV := hid (HV.out.ext hx)
          replace Hx := hid (Hx.out.trans hx)
          clear HO hx
          rcases ht with ⟨hinc, v, rfl, hrc⟩ | ⟨hinc, rfl⟩
          · obtain ⟨lz, ez⟩ : ∃ lz, lz = sset c := ⟨_, rfl⟩
            have hsv := SV.of hrc
            rw [← ez] at hsv
            obtain ⟨az, cz, rfl⟩ := hsv.form
            have HZ := hid hsv
            clear hsv hrc hinc ez
            have HC := hid (sv_union _ _ _ _ w10 ad ((AllErrs.errS (HA.out.ext Hx.out))) HX.out HY.out)
            go_wp2_with fail
            refine HC.out.mono ?_
            intro e w11 hx
            obtain ⟨v, lp, rfl, ep, hn, hx⟩ := hx
            obtain ⟨alp, clp, rfl⟩ := hn.form
            try replace HX := hid (HX.out.ext hx)
            try replace HY := hid (HY.out.ext hx)
            try replace HZ := hid (HZ.out.ext hx)
            try replace HP := hid (HP.out.ext hx)
            try replace HQ := hid (HQ.out.ext hx)
            try replace HR := hid (HR.out.ext hx)
            try replace HS := hid (HS.out.ext hx)
            try replace HT := hid (HT.out.ext hx)
            try replace HU := hid (HU.out.ext hx)
            try replace HV := hid (HV.out.ext hx)
            have HP := hid hn
            replace Hx := hid (Hx.out.trans hx)
            replace ep := hid ep
            clear HC hn hx
            have HC := hid (sv_union _ _ _ _ w11 ad ((AllErrs.errS (HA.out.ext Hx.out))) HP.out HZ.out)
            go_wp2_with fail
            refine HC.out.mono ?_
            intro e w12 hx
            obtain ⟨v, lq, rfl, eq, hn, hx⟩ := hx
            obtain ⟨alq, clq, rfl⟩ := hn.form
            try replace HX := hid (HX.out.ext hx)
            try replace HY := hid (HY.out.ext hx)
            try replace HZ := hid (HZ.out.ext hx)
            try replace HP := hid (HP.out.ext hx)
            try replace HQ := hid (HQ.out.ext hx)
            try replace HR := hid (HR.out.ext hx)
            try replace HS := hid (HS.out.ext hx)
            try replace HT := hid (HT.out.ext hx)
            try replace HU := hid (HU.out.ext hx)
            try replace HV := hid (HV.out.ext hx)
            have HQ := hid hn
            replace Hx := hid (Hx.out.trans hx)
            replace eq := hid eq
            clear HC hn hx
            have HC := hid (sv_union _ _ _ _ w12 ad ((AllErrs.errS (HA.out.ext Hx.out))) HY.out HZ.out)
            go_wp2_with fail
            refine HC.out.mono ?_
            intro e w13 hx
            obtain ⟨v, lr, rfl, er, hn, hx⟩ := hx
            obtain ⟨alr, clr, rfl⟩ := hn.form
            try replace HX := hid (HX.out.ext hx)
            try replace HY := hid (HY.out.ext hx)
            try replace HZ := hid (HZ.out.ext hx)
            try replace HP := hid (HP.out.ext hx)
            try replace HQ := hid (HQ.out.ext hx)
            try replace HR := hid (HR.out.ext hx)
            try replace HS := hid (HS.out.ext hx)
            try replace HT := hid (HT.out.ext hx)
            try replace HU := hid (HU.out.ext hx)
            try replace HV := hid (HV.out.ext hx)
            have HR := hid hn
            replace Hx := hid (Hx.out.trans hx)
            replace er := hid er
            clear HC hn hx
            have HC := hid (sv_union _ _ _ _ w13 ad ((AllErrs.errS (HA.out.ext Hx.out))) HX.out HR.out)
            go_wp2_with fail
            refine HC.out.mono ?_
            intro e w14 hx
            obtain ⟨v, ls, rfl, es, hn, hx⟩ := hx
            obtain ⟨als, cls, rfl⟩ := hn.form
            try replace HX := hid (HX.out.ext hx)
            try replace HY := hid (HY.out.ext hx)
            try replace HZ := hid (HZ.out.ext hx)
            try replace HP := hid (HP.out.ext hx)
            try replace HQ := hid (HQ.out.ext hx)
            try replace HR := hid (HR.out.ext hx)
            try replace HS := hid (HS.out.ext hx)
            try replace HT := hid (HT.out.ext hx)
            try replace HU := hid (HU.out.ext hx)
            try replace HV := hid (HV.out.ext hx)
            have HS := hid hn
            replace Hx := hid (Hx.out.trans hx)
            replace es := hid es
            clear HC hn hx
            have HC := hid (sv_and _ _ _ _ w14 ad ((AllErrs.errS (HA.out.ext Hx.out))) HX.out HR.out)
            go_wp2_with fail
            refine HC.out.mono ?_
            intro e w15 hx
            obtain ⟨v, lt, rfl, et, hn, hx⟩ := hx
            obtain ⟨alt, clt, rfl⟩ := hn.form
            try replace HX := hid (HX.out.ext hx)
            try replace HY := hid (HY.out.ext hx)
            try replace HZ := hid (HZ.out.ext hx)
            try replace HP := hid (HP.out.ext hx)
            try replace HQ := hid (HQ.out.ext hx)
            try replace HR := hid (HR.out.ext hx)
            try replace HS := hid (HS.out.ext hx)
            try replace HT := hid (HT.out.ext hx)
            try replace HU := hid (HU.out.ext hx)
            try replace HV := hid (HV.out.ext hx)
            have HT := hid hn
            replace Hx := hid (Hx.out.trans hx)
            replace et := hid et
            clear HC hn hx
            have HC := hid (sv_and _ _ _ _ w15 ad ((AllErrs.errS (HA.out.ext Hx.out))) HX.out HY.out)
            go_wp2_with fail
            refine HC.out.mono ?_
            intro e w16 hx
            obtain ⟨v, lu, rfl, eu, hn, hx⟩ := hx
            obtain ⟨alu, clu, rfl⟩ := hn.form
            try replace HX := hid (HX.out.ext hx)
            try replace HY := hid (HY.out.ext hx)
            try replace HZ := hid (HZ.out.ext hx)
            try replace HP := hid (HP.out.ext hx)
            try replace HQ := hid (HQ.out.ext hx)
            try replace HR := hid (HR.out.ext hx)
            try replace HS := hid (HS.out.ext hx)
            try replace HT := hid (HT.out.ext hx)
            try replace HU := hid (HU.out.ext hx)
            try replace HV := hid (HV.out.ext hx)
            have HU := hid hn
            replace Hx := hid (Hx.out.trans hx)
            replace eu := hid eu
            clear HC hn hx
            have HC := hid (sv_and _ _ _ _ w16 ad ((AllErrs.errS (HA.out.ext Hx.out))) HX.out HZ.out)
            go_wp2_with fail
            refine HC.out.mono ?_
            intro e w17 hx
            obtain ⟨v, lv, rfl, ev, hn, hx⟩ := hx
            obtain ⟨alv, clv, rfl⟩ := hn.form
            try replace HX := hid (HX.out.ext hx)
            try replace HY := hid (HY.out.ext hx)
            try replace HZ := hid (HZ.out.ext hx)
            try replace HP := hid (HP.out.ext hx)
            try replace HQ := hid (HQ.out.ext hx)
            try replace HR := hid (HR.out.ext hx)
            try replace HS := hid (HS.out.ext hx)
            try replace HT := hid (HT.out.ext hx)
            try replace HU := hid (HU.out.ext hx)
            try replace HV := hid (HV.out.ext hx)
            have HV := hid hn
            replace Hx := hid (Hx.out.trans hx)
            replace ev := hid ev
            clear HC hn hx
            have HC := hid (sv_union _ _ _ _ w17 ad ((AllErrs.errS (HA.out.ext Hx.out))) HU.out HV.out)
            go_wp2_with fail
            refine HC.out.mono ?_
            intro e w18 hx
            obtain ⟨v, lw, rfl, ew, hn, hx⟩ := hx
            obtain ⟨alw, clw, rfl⟩ := hn.form
            try replace HX := hid (HX.out.ext hx)
            try replace HY := hid (HY.out.ext hx)
            try replace HZ := hid (HZ.out.ext hx)
            try replace HP := hid (HP.out.ext hx)
            try replace HQ := hid (HQ.out.ext hx)
            try replace HR := hid (HR.out.ext hx)
            try replace HS := hid (HS.out.ext hx)
            try replace HT := hid (HT.out.ext hx)
            try replace HU := hid (HU.out.ext hx)
            try replace HV := hid (HV.out.ext hx)
            have HW := hid hn
            replace Hx := hid (Hx.out.trans hx)
            replace ew := hid ew
            clear HC hn hx
            have e1 : lq = ls := by
              rw [eq.out, ep.out, es.out, er.out]
              exact union3 (chkE_zero.1 HX.out.ok).1 (chkE_zero.1 HY.out.ok).1 (chkE_zero.1 HZ.out.ok).1
            have e2 : lt = lw := by
              rw [et.out, er.out, ew.out, eu.out, ev.out]
              exact both_union (chkE_zero.1 HX.out.ok).1 (chkE_zero.1 HX.out.ok).2 (chkE_zero.1 HY.out.ok).1 (chkE_zero.1 HZ.out.ok).1
            have HC := hid (sv_same _ _ lq ls w18 HQ.out HS.out)
            rw [decide_eq_true e1] at HC
            have HC2 := fun w' (x : Ext w18 w') => hid (sv_same _ _ lt lw w' (HT.out.ext x) (HW.out.ext x))
            rw [decide_eq_true e2] at HC2
            clear e1 e2
            go_wp2_with fail
            refine HC.out.mono ?_
            intro e w19 hx
            obtain ⟨rfl, hx⟩ := hx
            have HC3 := HC2 w19 hx
            replace Hx := hid (Hx.out.trans hx)
            clear HC HC2 hx
            go_wp2_with fail
            refine (HC3).out.mono ?_
            intro e w20 hx
            obtain ⟨rfl, hx⟩ := hx
            try replace HX := hid (HX.out.ext hx)
            try replace HY := hid (HY.out.ext hx)
            try replace HZ := hid (HZ.out.ext hx)
            try replace HP := hid (HP.out.ext hx)
            try replace HQ := hid (HQ.out.ext hx)
            try replace HR := hid (HR.out.ext hx)
            try replace HS := hid (HS.out.ext hx)
            try replace HT := hid (HT.out.ext hx)
            try replace HU := hid (HU.out.ext hx)
            try replace HV := hid (HV.out.ext hx)
            replace Hx := hid (Hx.out.trans hx)
            clear hx
            clear HC3
            go_wp2
            go_ret
            exact ⟨rfl, Hx.out⟩
          · unfold evOf
            go_wp2
            go_ret
            exact ⟨rfl, Hx.out⟩
        · unfold evOf
          have HC := hid (own_of (.slice ac c.length cc) c w8 n0 (HIc.out.old (Hx.out.old n0)) (by omega))
          go_wp2_with fail
          refine HC.out.mono ?_
          intro e w9 hx
          obtain ⟨v, rfl, hx, hr, ax, cx, rfl⟩ := hx
          try replace HX := hid (HX.out.ext hx)
          try replace HY := hid (HY.out.ext hx)
          try replace HZ := hid (HZ.out.ext hx)
          try replace HP := hid (HP.out.ext hx)
          try replace HQ := hid (HQ.out.ext hx)
          try replace HR := hid (HR.out.ext hx)
          try replace HS := hid (HS.out.ext hx)
          try replace HT := hid (HT.out.ext hx)
          try replace HU := hid (HU.out.ext hx)
          try replace HV := hid (HV.out.ext hx)
          replace Hx := hid (Hx.out.trans hx)
          have HO := hid (setof_any _ c w9 w9.heap.size ad (AllErrs.errS (HA.out.ext Hx.out)) hr (by omega))
          clear HC hx hr
          go_wp2_with fail
          refine HO.out.mono ?_
          intro e w10 hx
          obtain ⟨t, rfl, ht, hx⟩ := hx
          try replace HX := hid (HX.out.ext hx)
          try replace HY := hid (HY.out.ext hx)
          try replace HZ := hid (HZ.out.ext hx)
          try replace HP := hid (HP.out.ext hx)
          try replace HQ := hid (HQ.out.ext hx)
          try replace HR := hid (HR.out.ext hx)
          try replace HS := hid (HS.out.ext hx)
          try replace HT := hid (HT.out.ext hx)
          try replace HU := hid (HU.out.ext hx)
          try replace HV := hid (HV.out.ext hx)
          replace Hx := hid (Hx.out.trans hx)
          clear HO hx
          rcases ht with ⟨hinc, v, rfl, hrc⟩ | ⟨hinc, rfl⟩
          · obtain ⟨az, cz, rfl⟩ := hrc.form
            clear hrc hinc
            go_wp2
            go_ret
            exact ⟨rfl, Hx.out⟩
          · unfold evOf
            go_wp2
            go_ret
            exact ⟨rfl, Hx.out⟩
  · have Hrn := hid (rngE_out hin)
    clear hin
    unfold evOf
    go_wp2
    go_loop [10, 11] (fun t10 t11 => ∃ i r : Nat, t11 = .int .i64 (i : Int) ∧ i ≤ a.length ∧ t10 = .int .i64 (r : Int) ∧ r = rngE (a.take i)) (fun _ t11 => a.length - (intOf t11).toNat)
    case atStart => exact ⟨0, 0, rfl, Nat.zero_le _, rfl, rfl⟩
    case round =>
      obtain ⟨i, r, rfl, hi, rfl, hr⟩ := hrel
      have Hr := hid hr
      clear hr
      by_cases hil : i < a.length
      · obtain ⟨y, q, hya, hqk, hcq⟩ := (HIa.out.old (Hx.out.old n0)).at hil
        subst hya
        have Hn : Hid (rngE (a.take (i + 1)) = if 0 ≤ q ∧ q < 1000 then r else 2) := hid (by rw [List.take_add_one, hqk, Hr.out]; exact rngE_snoc _ _)
        clear hqk
        by_cases hq0 : q < 0
        · have Hn2 : Hid (rngE (a.take (i + 1)) = 2) := hid (by rw [Hn.out, if_neg (by omega)])
          go_wp2
          exact ⟨⟨i + 1, 2, by go_num, by omega, rfl, Hn2.out.symm⟩, by simp [intOf]; omega⟩
        · by_cases hq1 : 1000 ≤ q
          · have Hn2 : Hid (rngE (a.take (i + 1)) = 2) := hid (by rw [Hn.out, if_neg (by omega)])
            go_wp2
            exact ⟨⟨i + 1, 2, by go_num, by omega, rfl, Hn2.out.symm⟩, by simp [intOf]; omega⟩
          · have Hn2 : Hid (rngE (a.take (i + 1)) = r) := hid (by rw [Hn.out, if_pos (by omega)])
            go_wp2
            exact ⟨⟨i + 1, r, by go_num, by omega, rfl, Hn2.out.symm⟩, by simp [intOf]; omega⟩
      · obtain rfl : i = a.length := by omega
        obtain rfl : r = 2 := by rw [Hr.out, List.take_of_length_le (Nat.le_refl _), Hrn.out]
        clear hil hi
        have HC := hid (coded1_any w3 ad (HA.out.ext Hx.out) 2 (by decide) 2)
        rw [errv_yes (by decide), decide_eq_true (by rfl)] at HC
        go_wp2_with fail
        refine (HC).out.mono ?_
        intro e w4 hx
        obtain ⟨rfl, hx⟩ := hx
        try replace HX := hid (HX.out.ext hx)
        try replace HY := hid (HY.out.ext hx)
        try replace HZ := hid (HZ.out.ext hx)
        try replace HP := hid (HP.out.ext hx)
        try replace HQ := hid (HQ.out.ext hx)
        try replace HR := hid (HR.out.ext hx)
        try replace HS := hid (HS.out.ext hx)
        try replace HT := hid (HT.out.ext hx)
        try replace HU := hid (HU.out.ext hx)
        try replace HV := hid (HV.out.ext hx)
        replace Hx := hid (Hx.out.trans hx)
        clear hx
        clear HC
        go_wp2
        go_ret
        exact ⟨rfl, Hx.out⟩
end Go.Proofs.YtbpdeoccjhplnaaDoor


/- Programs that came in. -/
namespace Go.Proofs.YtbpdeoccjhplnaaDoor
set_option linter.unusedSimpArgs false
set_option linter.unusedVariables false
open Go Go.ChangeShapes Go.WideShapes Go.ChangeAt Go.WideMaps Go.WideElems Go.RowKit Go.Joins Go.Deep

section
variable {H : Type} {enc : TypeId × Value → H} {P : Program} {w : World} {base : Nat} {spare : Nat → Bool} {held : Bool}
set_option maxRecDepth 100000 in
theorem open_agg3 {r : Reach} {b0 : Nat} {t : TypeId} {f0 f1 f2 : Field} {v : Value} {d : DataW H} {p : List MemPlace} (hs : P.underlying t = some (.struct #[f0, f1, f2])) (hone : oneCellFields P #[f0, f1, f2] = true) (hC : P.cellsOf t = 3)
    (hv : Value.okWide P w r b0 t v) (h : DataW.Trod enc P w base spare held t v d p) :
    ∃ (v0 v1 v2 : Value) (y0 y1 y2 : DataW H × List MemPlace) (n : Nat), v = .agg #[v0, v1, v2] ∧
      DataW.trod enc P w base spare held n f0.type [v0] = some y0 ∧ DataW.trod enc P w base spare held n f1.type [v1] = some y1 ∧ DataW.trod enc P w base spare held n f2.type [v2] = some y2 := by
  obtain ⟨cs, rfl, hsz⟩ := okWide_struct hs hv
  obtain ⟨l⟩ := cs
  match l, hsz.trans hC with
  | [c0, c1, c2], _ =>
    obtain ⟨fuel, hf⟩ := h
    obtain ⟨xs, n, _, hx, _, hlen, hg⟩ := DataW.trod_struct hs hf
    obtain ⟨o0, k0⟩ := hone_of hone 0 f0 rfl
    obtain ⟨o1, k1⟩ := hone_of hone 1 f1 rfl
    obtain ⟨o2, k2⟩ := hone_of hone 2 f2 rfl
    match xs, hlen with
    | [y0, y1, y2], _ =>
      exact ⟨c0, c1, c2, y0, y1, y2, n, rfl, by simpa [Value.cells, o0, k0] using hg 0 f0 rfl, by simpa [Value.cells, o1, k1] using hg 1 f1 rfl, by simpa [Value.cells, o2, k2] using hg 2 f2 rfl⟩
end
theorem cellsU_prog : Tryd.prog.cellsOf 37 = 3 := by kernel_rfl
theorem cellsU_fun : Tryd.prog.cellsOf 65 = 3 := by kernel_rfl
theorem cellsU_stmt : Tryd.prog.cellsOf 43 = 4 := by kernel_rfl
theorem cellsU_str : Tryd.prog.cellsOf 9 = 1 := by kernel_rfl
theorem cellsU_int : Tryd.prog.cellsOf 3 = 1 := by kernel_rfl
theorem cellsU_ints : Tryd.prog.cellsOf 22 = 1 := by kernel_rfl
theorem listU3 {α : Type} {l : List α} (h : l.length = 3) : ∃ c0 c1 c2, l = [c0, c1, c2] := by
  match l, h with
  | [c0, c1, c2], _ => exact ⟨c0, c1, c2, rfl⟩
theorem listU4 {α : Type} {l : List α} (h : l.length = 4) : ∃ c0 c1 c2 c3, l = [c0, c1, c2, c3] := by
  match l, h with
  | [c0, c1, c2, c3], _ => exact ⟨c0, c1, c2, c3, rfl⟩

section
variable {H : Type} {enc : TypeId × Value → H} {w : World} {base : Nat} {sp : Nat → Bool} {held : Bool} {n : Nat}
theorem add_addU (a : Addr) (i j : Nat) : (a.add i).add j = a.add (i + j) := Go.Deep.add_add a i j
theorem maxLen_eq : maxLen = 9223372036854775807 := by decide
/-- Elements, one by one. -/
theorem elR_of {α : Type} [Inhabited α] {t e : TypeId} {size : Nat} {v : Value} {x : DataW H × List MemPlace} (ht : Tryd.prog.underlying t = some (.slice e)) (hc : Tryd.prog.cellsOf e = size) (h0 : 0 < size) (E : Nat → Addr → α → Prop)
    (hE : ∀ (i m : Nat) (y : Addr) (cs : List Value) (z : DataW H × List MemPlace), (∀ j, j < size → w.cell? ((y.add (i * size)).add j) = cs[j]?) → cs.length = size → DataW.trod enc Tryd.prog w base sp held m e cs = some z → ∃ a, E i y a)
    (h : DataW.trod enc Tryd.prog w base sp held n t [v] = some x) : ∃ l : List α, ElR w.heap.size v l.length fun i y => ∀ a, l[i]? = some a → E i y a := by
  have hml := maxLen_eq
  rcases open_slice ht h with ⟨hcs, _⟩ | ⟨y, l, c, m, k, D, Pl, hcs, _, hl, hm, hmm, _, hx⟩
  · simp only [List.cons.injEq, and_true] at hcs
    subst hcs
    exact ⟨[], none, 0, rfl, Nat.le_refl _, by decide, fun h => absurd h (by simp), fun y hy => by cases hy⟩
  simp only [List.cons.injEq, and_true] at hcs
  subst hcs
  have hlm : l ≤ m := by rw [hmm]; split <;> omega
  have each : ∀ i, i < l → ∃ a : α, E i y a ∧ y.block < w.heap.size := by
    intro i hi
    obtain ⟨cs', h1, h2⟩ := hx i (by omega)
    rw [hc] at h1
    obtain ⟨_, hlen, hcell⟩ := World.cells?_some h1
    obtain ⟨a, ha⟩ := hE i k y cs' _ (fun j hj => hcell j hj) hlen h2
    refine ⟨a, ha, ?_⟩
    have h3 := hcell 0 h0
    obtain ⟨u, hu⟩ : ∃ u, cs'[0]? = some u := ⟨_, List.getElem?_eq_getElem (by omega)⟩
    rw [hu] at h3
    have := cell_lt h3
    rwa [add_block, add_block] at this
  obtain ⟨Z, hZ⟩ := choose_lt each
  refine ⟨(List.range l).map Z, some y, c, by simp, by simpa using hl, by omega, fun _ => ⟨_, rfl⟩, fun y' hy hp => ?_⟩
  obtain rfl := Option.some.inj hy
  have hp' : 0 < l := by simpa using hp
  refine ⟨(hZ 0 hp').2, fun i hi a ha => ?_⟩
  have hi' : i < l := by simpa using hi
  rw [List.getElem?_map, List.getElem?_range hi'] at ha
  obtain rfl := Option.some.inj ha
  exact (hZ i hi').1
set_option maxRecDepth 100000 in
theorem intsR_of {v : Value} {x : DataW H × List MemPlace} (h : DataW.trod enc Tryd.prog w base sp held n 22 [v] = some x) : ∃ l, IntsR w w.heap.size v l := by
  refine elR_of (α := Int) Tryd.underlying22 cellsU_int (by decide) (fun i y s => w.cell? (y.add i) = some (.int .i64 s)) (fun i m y cs z hc hl ht => ?_) h
  obtain ⟨k, e, _, _⟩ := DataW.trod_int Tryd.underlying3 ht
  subst e
  refine ⟨k, ?_⟩
  have := hc 0 (by decide)
  simpa [add_addU, Addr.add] using this
set_option maxRecDepth 100000 in
theorem strsR_of {v : Value} {x : DataW H × List MemPlace} (h : DataW.trod enc Tryd.prog w base sp held n 33 [v] = some x) : ∃ l, StrsR w w.heap.size v l := by
  refine elR_of (α := ByteArray) Tryd.underlying33 cellsU_str (by decide) (fun i y s => w.cell? (y.add i) = some (.string s)) (fun i m y cs z hc hl ht => ?_) h
  obtain ⟨k, e, _, _⟩ := DataW.trod_string Tryd.underlying9 ht
  subst e
  refine ⟨k, ?_⟩
  have := hc 0 (by decide)
  simpa [add_addU, Addr.add] using this
set_option maxRecDepth 100000 in
theorem funsR_of {v : Value} {x : DataW H × List MemPlace} (h : DataW.trod enc Tryd.prog w base sp held n 34 [v] = some x) : ∃ l, FunsR w w.heap.size v l := by
  have inh : Inhabited PF := ⟨⟨⟨#[]⟩, [], 0⟩⟩
  refine elR_of (α := PF) Tryd.underlying34 cellsU_fun (by decide) (fun i y f => ∃ pv, w.cell? (y.add (i * 3)) = some (.string f.name) ∧ w.cell? ((y.add (i * 3)).add 1) = some pv ∧ w.cell? ((y.add (i * 3)).add 2) = some (.int .i64 f.ret) ∧ IntsR w w.heap.size pv f.params) (fun i m y cs z hc hl ht => ?_) h
  obtain ⟨c0, c1, c2, rfl⟩ := listU3 hl
  obtain ⟨xs, k, _, _, _, hxl, hf⟩ := DataW.trod_struct Tryd.underlying65 ht
  obtain ⟨y0, y1, y2, rfl⟩ := listU3 hxl
  have g0 : DataW.trod enc Tryd.prog w base sp held k 9 [c0] = some y0 := by simpa [cellsU_str] using hf 0 _ rfl
  have g1 : DataW.trod enc Tryd.prog w base sp held k 22 [c1] = some y1 := by simpa [cellsU_ints] using hf 1 _ rfl
  have g2 : DataW.trod enc Tryd.prog w base sp held k 3 [c2] = some y2 := by simpa [cellsU_int] using hf 2 _ rfl
  obtain ⟨s, e0, _, _⟩ := DataW.trod_string Tryd.underlying9 g0
  obtain ⟨ps, hp⟩ := intsR_of g1
  obtain ⟨r, e2, _, _⟩ := DataW.trod_int Tryd.underlying3 g2
  simp only [List.cons.injEq, and_true] at e0 e2
  subst e0 e2
  exact ⟨⟨s, ps, r⟩, c1, by simpa [Addr.add] using hc 0 (by decide), hc 1 (by decide), hc 2 (by decide), hp⟩
set_option maxRecDepth 100000 in
theorem stmtsR_of {v : Value} {x : DataW H × List MemPlace} (h : DataW.trod enc Tryd.prog w base sp held n 35 [v] = some x) : ∃ l, StmtsR w w.heap.size v l := by
  have inh : Inhabited PS := ⟨⟨⟨#[]⟩, 0, 0, []⟩⟩
  refine elR_of (α := PS) Tryd.underlying35 cellsU_stmt (by decide) (fun i y f => ∃ pv, w.cell? (y.add (i * 4)) = some (.string f.kind) ∧ w.cell? ((y.add (i * 4)).add 1) = some (.int .i64 f.x) ∧ w.cell? ((y.add (i * 4)).add 2) = some (.int .i64 f.y) ∧ w.cell? ((y.add (i * 4)).add 3) = some pv ∧ IntsR w w.heap.size pv f.args) (fun i m y cs z hc hl ht => ?_) h
  obtain ⟨c0, c1, c2, c3, rfl⟩ := listU4 hl
  obtain ⟨xs, k, _, _, _, hxl, hf⟩ := DataW.trod_struct Tryd.underlying43 ht
  obtain ⟨y0, y1, y2, y3, rfl⟩ := listU4 hxl
  have g0 : DataW.trod enc Tryd.prog w base sp held k 9 [c0] = some y0 := by simpa [cellsU_str] using hf 0 _ rfl
  have g1 : DataW.trod enc Tryd.prog w base sp held k 3 [c1] = some y1 := by simpa [cellsU_int] using hf 1 _ rfl
  have g2 : DataW.trod enc Tryd.prog w base sp held k 3 [c2] = some y2 := by simpa [cellsU_int] using hf 2 _ rfl
  have g3 : DataW.trod enc Tryd.prog w base sp held k 22 [c3] = some y3 := by simpa [cellsU_ints] using hf 3 _ rfl
  obtain ⟨s, e0, _, _⟩ := DataW.trod_string Tryd.underlying9 g0
  obtain ⟨a, e1, _, _⟩ := DataW.trod_int Tryd.underlying3 g1
  obtain ⟨b, e2, _, _⟩ := DataW.trod_int Tryd.underlying3 g2
  obtain ⟨ps, hp⟩ := intsR_of g3
  simp only [List.cons.injEq, and_true] at e0 e1 e2
  subst e0 e1 e2
  exact ⟨⟨s, a, b, ps⟩, c3, by simpa [Addr.add] using hc 0 (by decide), hc 1 (by decide), hc 2 (by decide), hc 3 (by decide), hp⟩
end
theorem StrsR.form {w : World} {n0 : Nat} {v : Value} {l : List ByteArray} (h : StrsR w n0 v l) : ∃ a c, v = .slice a l.length c := by
  obtain ⟨a, c, h, _⟩ := h
  exact ⟨a, c, h⟩
theorem FunsR.form {w : World} {n0 : Nat} {v : Value} {l : List PF} (h : FunsR w n0 v l) : ∃ a c, v = .slice a l.length c := by
  obtain ⟨a, c, h, _⟩ := h
  exact ⟨a, c, h⟩
theorem StmtsR.form {w : World} {n0 : Nat} {v : Value} {l : List PS} (h : StmtsR w n0 v l) : ∃ a c, v = .slice a l.length c := by
  obtain ⟨a, c, h, _⟩ := h
  exact ⟨a, c, h⟩
set_option maxRecDepth 100000 in
/-- A program that came in. -/
theorem prog_of {H : Type} {enc : TypeId × Value → H} {w : World} {base b0 : Nat} {sp : Nat → Bool} {held : Bool} {v : Value} {d : DataW H} {p : List MemPlace} (hv : Value.okWide Tryd.prog w .any b0 37 v) (h : DataW.Trod enc Tryd.prog w base sp held 37 v d p) :
    ∃ (a1 a2 a3 : Option Addr) (c1 c2 c3 : Nat) (P : PP), v = pval a1 a2 a3 c1 c2 c3 P ∧ ProgR w w.heap.size (.slice a1 P.vars.length c1) (.slice a2 P.funs.length c2) (.slice a3 P.stmts.length c3) P := by
  obtain ⟨v0, v1, v2, y0, y1, y2, n, rfl, h0, h1, h2⟩ := open_agg3 Tryd.underlying37 (by kernel_rfl) cellsU_prog hv h
  obtain ⟨vs, hvs⟩ := strsR_of h0
  obtain ⟨fs, hfs⟩ := funsR_of h1
  obtain ⟨ss, hss⟩ := stmtsR_of h2
  obtain ⟨a1, c1, rfl⟩ := hvs.form
  obtain ⟨a2, c2, rfl⟩ := hfs.form
  obtain ⟨a3, c3, rfl⟩ := hss.form
  exact ⟨a1, a2, a3, c1, c2, c3, ⟨vs, fs, ss⟩, rfl, hvs, hfs, hss⟩
end Go.Proofs.YtbpdeoccjhplnaaDoor
