/- Texts of one proof, put together: PC CD WJ V9 WK WL. -/
import Derived.Test.YtohfdecefikinaaGreatDoorZCT01
import Derived.Test.YtohfdecefikinaaGreatDoorZCT03
import Derived.Test.YtohfdecefikinaaGreatDoorZCT06
import Derived.Test.YtohfdecefikinaaGreatDoorZCT09
import Derived.Test.YtohfdecefikinaaGreatDoorZCT17
import Derived.Test.YtohfdecefikinaaGreatDoorZCT18

/- plain.Code walked: an error's number, and its place. -/
namespace Go.Proofs.YtohfdecefikinaaGreatDoor
set_option linter.unusedSimpArgs false
set_option linter.unusedVariables false
open Go Go.RowKit

/-- All errors lie as they were laid. -/
structure AllErrs (w : World) (ad : Nat → Addr) : Prop where
  var : ∀ c, 1 ≤ c ∧ c ≤ 11 → w.cell? ⟨gE c, 0, none⟩ = some (.iface 207 (.pointer (some (ad c))))
  row : ∀ c, 1 ≤ c ∧ c ≤ 11 → ∃ cs t, w.heap[(ad c).block]? = some (.cells cs t (0, 0))
  inj : ∀ c d, 1 ≤ c ∧ c ≤ 11 → 1 ≤ d ∧ d ≤ 11 → ad c = ad d → c = d
  ty : w.cell? ⟨11, 0, none⟩ = some (.iface 156 (.agg #[.pointer (some ⟨15, 38, none⟩)]))
theorem AllErrs.at1 {w : World} {ad : Nat → Addr} (h : AllErrs w ad) : w.cell? ⟨3, 0, none⟩ = some (.iface 207 (.pointer (some (ad 1)))) := h.var 1 (by omega)
theorem AllErrs.at2 {w : World} {ad : Nat → Addr} (h : AllErrs w ad) : w.cell? ⟨4, 0, none⟩ = some (.iface 207 (.pointer (some (ad 2)))) := h.var 2 (by omega)
theorem AllErrs.at3 {w : World} {ad : Nat → Addr} (h : AllErrs w ad) : w.cell? ⟨5, 0, none⟩ = some (.iface 207 (.pointer (some (ad 3)))) := h.var 3 (by omega)
theorem AllErrs.at4 {w : World} {ad : Nat → Addr} (h : AllErrs w ad) : w.cell? ⟨6, 0, none⟩ = some (.iface 207 (.pointer (some (ad 4)))) := h.var 4 (by omega)
theorem AllErrs.at5 {w : World} {ad : Nat → Addr} (h : AllErrs w ad) : w.cell? ⟨1, 0, none⟩ = some (.iface 207 (.pointer (some (ad 5)))) := h.var 5 (by omega)
theorem AllErrs.at6 {w : World} {ad : Nat → Addr} (h : AllErrs w ad) : w.cell? ⟨7, 0, none⟩ = some (.iface 207 (.pointer (some (ad 6)))) := h.var 6 (by omega)
theorem AllErrs.at7 {w : World} {ad : Nat → Addr} (h : AllErrs w ad) : w.cell? ⟨2, 0, none⟩ = some (.iface 207 (.pointer (some (ad 7)))) := h.var 7 (by omega)
theorem AllErrs.at8 {w : World} {ad : Nat → Addr} (h : AllErrs w ad) : w.cell? ⟨0, 0, none⟩ = some (.iface 207 (.pointer (some (ad 8)))) := h.var 8 (by omega)
theorem AllErrs.at9 {w : World} {ad : Nat → Addr} (h : AllErrs w ad) : w.cell? ⟨8, 0, none⟩ = some (.iface 207 (.pointer (some (ad 9)))) := h.var 9 (by omega)
theorem AllErrs.at10 {w : World} {ad : Nat → Addr} (h : AllErrs w ad) : w.cell? ⟨9, 0, none⟩ = some (.iface 207 (.pointer (some (ad 10)))) := h.var 10 (by omega)
theorem AllErrs.at11 {w : World} {ad : Nat → Addr} (h : AllErrs w ad) : w.cell? ⟨10, 0, none⟩ = some (.iface 207 (.pointer (some (ad 11)))) := h.var 11 (by omega)
theorem AllErrs.ext {w w' : World} {ad : Nat → Addr} (h : AllErrs w ad) (x : Ext w w') : AllErrs w' ad :=
  ⟨fun c hc => x.cellx (h.var c hc), fun c hc => by obtain ⟨cs, t, e⟩ := h.row c hc; exact ⟨cs, t, x.get e⟩, h.inj, x.cellx h.ty⟩
/-- What errors.Is tells of e: it is the one with the number c, or none. -/
def IsAs (w : World) (ad : Nat → Addr) (e : Value) (c : Nat) : Prop := ∀ w', Ext w w' → ∀ d, 1 ≤ d ∧ d ≤ 11 → Calls Tryz.prog 63 #[e, .iface 207 (.pointer (some (ad d)))] w' fun r w'' => r = .returned (.bool (decide (d = c))) ∧ w' = w''
theorem IsAs.sent {w : World} {ad : Nat → Addr} (h : AllErrs w ad) (c : Nat) (hc : 1 ≤ c ∧ c ≤ 11) : IsAs w ad (.iface 207 (.pointer (some (ad c)))) c := by
  intro w' x d hd
  by_cases e : d = c
  · subst e
    rw [decide_eq_true rfl]
    exact is_same (ad d) w'
  · rw [decide_eq_false e]
    have h' := h.ext x
    obtain ⟨c1, t1, e1⟩ := h'.row c hc
    obtain ⟨c2, t2, e2⟩ := h'.row d hd
    exact is_other (ad c) (ad d) c1 c2 t1 t2 w' (fun e' => e (h.inj d c hd hc e'.symm)) e1 e2
theorem IsAs.fault {w : World} {ad : Nat → Addr} (h : AllErrs w ad) (c : Nat) (hc : 1 ≤ c ∧ c ≤ 11) (b : Nat) (hb : w.cell? ⟨b, 1, none⟩ = some (.iface 207 (.pointer (some (ad c))))) : IsAs w ad (.iface 101 (.pointer (some ⟨b, 0, none⟩))) c := by
  intro w' x d hd
  by_cases e : d = c
  · subst e
    rw [decide_eq_true rfl]
    exact is_wrap_same b (ad d) w' (x.cellx hb)
  · rw [decide_eq_false e]
    have h' := h.ext x
    obtain ⟨c1, t1, e1⟩ := h'.row c hc
    obtain ⟨c2, t2, e2⟩ := h'.row d hd
    exact is_wrap_other b (ad d) (ad c) c1 c2 t1 t2 w' (x.cellx hb) (fun e' => e (h.inj d c hd hc e'.symm)) e1 e2
/-- One that is none of them. -/
theorem IsAs.none {w : World} {ad : Nat → Addr} (h : AllErrs w ad) (a : Addr) (ha : ∃ cs t, w.heap[a.block]? = some (.cells cs t (0, 0))) (hne : ∀ c, 1 ≤ c ∧ c ≤ 11 → a ≠ ad c) : IsAs w ad (.iface 207 (.pointer (some a))) 0 := by
  intro w' x d hd
  rw [decide_eq_false (by omega)]
  obtain ⟨c1, t1, e1⟩ := ha
  obtain ⟨c2, t2, e2⟩ := (h.ext x).row d hd
  exact is_other a (ad d) c1 c2 t1 t2 w' (hne d hd) (x.get e1) e2

def codeV (c : Nat) : Int := if c = 0 then -1 else c

set_option maxRecDepth 100000 in
set_option maxHeartbeats 400000 in
theorem code_nil (w : World) : Calls Tryz.prog 32 #[.nilIface] w fun e w' => e = .returned (.tuple #[.int .i64 0, .int .i64 (-1)]) ∧ w = w' := by
  go_enter Tryz.func32, Tryz.ntmps32
  go_wp2
  go_ret2
  exact ⟨rfl, rfl⟩


set_option maxRecDepth 100000 in
set_option maxHeartbeats 3200000 in
theorem code_sent (w : World) (ad : Nat → Addr) (h : AllErrs w ad) (x : Value) (c : Nat) (hc : c ≤ 11) (hi : IsAs w ad (.iface 207 x) c) :
    Calls Tryz.prog 32 #[.iface 207 x] w fun e w' => e = .returned (.tuple #[.int .i64 (codeV c), .int .i64 (-1)]) ∧ Ext w w' := by
  have hA := hid (as_miss x ⟨w.heap.size, 0, none⟩ (.pointer none) (w.alloc (.cells #[.pointer none] 101)) (((Ext.refl w).alloc _).cellx h.ty) (by simp) (by simp))
  go_enter Tryz.func32, Tryz.ntmps32
  go_wp2_with fail
  refine hA.out.mono ?_
  intro e w1 hx
  obtain ⟨rfl, hx1⟩ := hx
  replace hx1 := ((Ext.refl w).alloc _).trans hx1
  clear hA
  have g0 := (h.ext hx1).at1
  have g1 := (h.ext hx1).at2
  have g2 := (h.ext hx1).at3
  have g3 := (h.ext hx1).at4
  have g4 := (h.ext hx1).at5
  have g5 := (h.ext hx1).at6
  have g6 := (h.ext hx1).at7
  have g7 := (h.ext hx1).at8
  have g8 := (h.ext hx1).at9
  have g9 := (h.ext hx1).at10
  have g10 := (h.ext hx1).at11
  obtain ⟨W, hW⟩ : ∃ W, W = w1.alloc (.cells #[.iface 207 (.pointer (some (ad 1))), .iface 207 (.pointer (some (ad 2))), .iface 207 (.pointer (some (ad 3))), .iface 207 (.pointer (some (ad 4))), .iface 207 (.pointer (some (ad 5))), .iface 207 (.pointer (some (ad 6))), .iface 207 (.pointer (some (ad 7))), .iface 207 (.pointer (some (ad 8))), .iface 207 (.pointer (some (ad 9))), .iface 207 (.pointer (some (ad 10))), .iface 207 (.pointer (some (ad 11)))] 38) := ⟨_, rfl⟩
  have hcell : ∀ k, k < 11 → W.cell? ⟨w1.heap.size, k, none⟩ = some (.iface 207 (.pointer (some (ad (k + 1))))) := fun k hk => by
    have hB := Blk.new w1 #[.iface 207 (.pointer (some (ad 1))), .iface 207 (.pointer (some (ad 2))), .iface 207 (.pointer (some (ad 3))), .iface 207 (.pointer (some (ad 4))), .iface 207 (.pointer (some (ad 5))), .iface 207 (.pointer (some (ad 6))), .iface 207 (.pointer (some (ad 7))), .iface 207 (.pointer (some (ad 8))), .iface 207 (.pointer (some (ad 9))), .iface 207 (.pointer (some (ad 10))), .iface 207 (.pointer (some (ad 11)))] 38
    rw [← hW] at hB
    rw [hB.cell k]
    rcases (by omega : k = 0 ∨ k = 1 ∨ k = 2 ∨ k = 3 ∨ k = 4 ∨ k = 5 ∨ k = 6 ∨ k = 7 ∨ k = 8 ∨ k = 9 ∨ k = 10) with rfl | rfl | rfl | rfl | rfl | rfl | rfl | rfl | rfl | rfl | rfl <;> rfl
  have hX : Ext w W := by rw [hW]; exact hx1.alloc _
  have HW := hid hW
  have Hc := fun k hk => hid (hcell k hk)
  have HI := hid (hi _ hX)
  have Hx := hid hX
  clear hcell hW hX hi
  go_wp2
  rw [← HW.out]
  clear g0 g1 g2 g3 g4 g5 g6 g7 g8 g9 g10 HW h hx1
  generalize w1.heap.size = N at *
  go_loop [3, 29] (fun t3 t29 => ∃ k : Nat, t29 = .int .i64 (k : Int) ∧ k ≤ 11 ∧ t3 = .int .i64 (-1) ∧ ∀ d, 1 ≤ d → d ≤ k → d ≠ c) (fun _ t29 => 11 - (intOf t29).toNat)
  case atStart => exact ⟨0, rfl, Nat.zero_le _, rfl, fun d h1 h2 => by omega⟩
  case round =>
    obtain ⟨k, rfl, hk, rfl, hne⟩ := hrel
    have Hne := hid hne
    clear hne
    by_cases hlt : k < 11
    · have hck := (Hc k hlt).out
      have hcall := hid (HI.out (k + 1) (by omega))
      by_cases he : k + 1 = c
      · have hcv : Hid (codeV c = (k : Int) + 1) := hid (by unfold codeV; rw [if_neg (by omega)]; omega)
        rw [decide_eq_true he] at hcall
        clear he
        have hlt2 : (k : Int) < 11 := by omega
        go_wp2_with fail
        refine hcall.out.mono ?_
        rintro e w3 ⟨rfl, rfl⟩
        go_wp2
        go_ret2
        exact ⟨by rw [hcv.out]; rfl, Hx.out⟩
      · rw [decide_eq_false he] at hcall
        have hlt2 : (k : Int) < 11 := by omega
        have He := hid he
        clear he
        go_wp2_with fail
        refine hcall.out.mono ?_
        rintro e w3 ⟨rfl, rfl⟩
        go_wp2
        go_round
        case rel => exact ⟨k + 1, by go_num, by omega, rfl, fun d h1 h2 => by
          by_cases hd : d = k + 1
          · rw [hd]; exact He.out
          · exact Hne.out d h1 (by omega)⟩
        case measure => simp [intOf]; omega
    · obtain rfl : k = 11 := by omega
      have hcv : Hid (codeV c = -1) := hid (by
        unfold codeV
        rw [if_pos]
        rcases Nat.eq_zero_or_pos c with h0 | h0
        · exact h0
        · exact absurd rfl (Hne.out c h0 hc))
      go_wp2
      go_ret2
      exact ⟨by rw [hcv.out]; rfl, Hx.out⟩

set_option maxRecDepth 100000 in
set_option maxHeartbeats 3200000 in
/-- A fault's code, and its place. -/
theorem code_fault (w : World) (ad : Nat → Addr) (h : AllErrs w ad) (b : Nat) (pl : Int) (c : Nat) (hc : c ≤ 11) (hpl : w.cell? ⟨b, 0, none⟩ = some (.int .i64 pl)) (hi : IsAs w ad (.iface 101 (.pointer (some ⟨b, 0, none⟩))) c) :
    Calls Tryz.prog 32 #[.iface 101 (.pointer (some ⟨b, 0, none⟩))] w fun e w' => e = .returned (.tuple #[.int .i64 (codeV c), .int .i64 pl]) ∧ Ext w w' := by
  have hA := hid (as_hit ⟨b, 0, none⟩ ⟨w.heap.size, 0, none⟩ (.pointer none) (w.alloc (.cells #[.pointer none] 101)) (((Ext.refl w).alloc _).cellx h.ty) (by simp) (by simp))
  go_enter Tryz.func32, Tryz.ntmps32
  go_wp2_with fail
  refine hA.out.mono ?_
  intro e w1 hx
  obtain ⟨rfl, hw1⟩ := hx
  have h3 := ((((Ext.refl (w.alloc (.cells #[.pointer none] 101))).alloc (.cells #[.pointer (some ⟨w.heap.size, 0, none⟩)] 105)).alloc (.cells #[.pointer (some ⟨15, 105, none⟩), .pointer (some ⟨(w.alloc (.cells #[.pointer none] 101)).heap.size, 0, none⟩), .int .u64 150] 125)).alloc (.cells #[.pointer (some ⟨15, 105, none⟩), .pointer (some ⟨(w.alloc (.cells #[.pointer none] 101)).heap.size, 0, none⟩), .int .u64 150] 125)).alloc (.cells #[.pointer (some ⟨b, 0, none⟩)] 101)
  have hB := ((Blk.new w #[.pointer none] 101).ext h3).set 0 (.pointer (some ⟨b, 0, none⟩))
  have hx1 : Ext w w1 := by
    rw [hw1]
    exact Keep.new (((Ext.refl w).alloc _).trans h3) (Keep.set (X := fun n => n = w.heap.size) (Keep.refl _ _) rfl _) fun n hn => by omega
  rw [← hw1] at hB
  have ht : w1.cell? ⟨w.heap.size, 0, none⟩ = some (.pointer (some ⟨b, 0, none⟩)) := (hB.cell 0).trans rfl
  have hp1 := hx1.cellx hpl
  clear hA hw1 h3 hB
  have g0 := (h.ext hx1).at1
  have g1 := (h.ext hx1).at2
  have g2 := (h.ext hx1).at3
  have g3 := (h.ext hx1).at4
  have g4 := (h.ext hx1).at5
  have g5 := (h.ext hx1).at6
  have g6 := (h.ext hx1).at7
  have g7 := (h.ext hx1).at8
  have g8 := (h.ext hx1).at9
  have g9 := (h.ext hx1).at10
  have g10 := (h.ext hx1).at11
  obtain ⟨W, hW⟩ : ∃ W, W = w1.alloc (.cells #[.iface 207 (.pointer (some (ad 1))), .iface 207 (.pointer (some (ad 2))), .iface 207 (.pointer (some (ad 3))), .iface 207 (.pointer (some (ad 4))), .iface 207 (.pointer (some (ad 5))), .iface 207 (.pointer (some (ad 6))), .iface 207 (.pointer (some (ad 7))), .iface 207 (.pointer (some (ad 8))), .iface 207 (.pointer (some (ad 9))), .iface 207 (.pointer (some (ad 10))), .iface 207 (.pointer (some (ad 11)))] 38) := ⟨_, rfl⟩
  have hcell : ∀ k, k < 11 → W.cell? ⟨w1.heap.size, k, none⟩ = some (.iface 207 (.pointer (some (ad (k + 1))))) := fun k hk => by
    have hB := Blk.new w1 #[.iface 207 (.pointer (some (ad 1))), .iface 207 (.pointer (some (ad 2))), .iface 207 (.pointer (some (ad 3))), .iface 207 (.pointer (some (ad 4))), .iface 207 (.pointer (some (ad 5))), .iface 207 (.pointer (some (ad 6))), .iface 207 (.pointer (some (ad 7))), .iface 207 (.pointer (some (ad 8))), .iface 207 (.pointer (some (ad 9))), .iface 207 (.pointer (some (ad 10))), .iface 207 (.pointer (some (ad 11)))] 38
    rw [← hW] at hB
    rw [hB.cell k]
    rcases (by omega : k = 0 ∨ k = 1 ∨ k = 2 ∨ k = 3 ∨ k = 4 ∨ k = 5 ∨ k = 6 ∨ k = 7 ∨ k = 8 ∨ k = 9 ∨ k = 10) with rfl | rfl | rfl | rfl | rfl | rfl | rfl | rfl | rfl | rfl | rfl <;> rfl
  have hX : Ext w W := by rw [hW]; exact hx1.alloc _
  have HW := hid hW
  have Hc := fun k hk => hid (hcell k hk)
  have HI := hid (hi _ hX)
  have Hx := hid hX
  clear hcell hW hX hi
  go_wp2
  rw [← HW.out]
  clear g0 g1 g2 g3 g4 g5 g6 g7 g8 g9 g10 HW h hx1
  generalize w1.heap.size = N at *
  go_loop [3, 29] (fun t3 t29 => ∃ k : Nat, t29 = .int .i64 (k : Int) ∧ k ≤ 11 ∧ t3 = .int .i64 pl ∧ ∀ d, 1 ≤ d → d ≤ k → d ≠ c) (fun _ t29 => 11 - (intOf t29).toNat)
  case atStart => exact ⟨0, rfl, Nat.zero_le _, rfl, fun d h1 h2 => by omega⟩
  case round =>
    obtain ⟨k, rfl, hk, rfl, hne⟩ := hrel
    have Hne := hid hne
    clear hne
    by_cases hlt : k < 11
    · have hck := (Hc k hlt).out
      have hcall := hid (HI.out (k + 1) (by omega))
      by_cases he : k + 1 = c
      · have hcv : Hid (codeV c = (k : Int) + 1) := hid (by unfold codeV; rw [if_neg (by omega)]; omega)
        rw [decide_eq_true he] at hcall
        clear he
        have hlt2 : (k : Int) < 11 := by omega
        go_wp2_with fail
        refine hcall.out.mono ?_
        rintro e w3 ⟨rfl, rfl⟩
        go_wp2
        go_ret2
        exact ⟨by rw [hcv.out]; rfl, Hx.out⟩
      · rw [decide_eq_false he] at hcall
        have hlt2 : (k : Int) < 11 := by omega
        have He := hid he
        clear he
        go_wp2_with fail
        refine hcall.out.mono ?_
        rintro e w3 ⟨rfl, rfl⟩
        go_wp2
        go_round
        case rel => exact ⟨k + 1, by go_num, by omega, rfl, fun d h1 h2 => by
          by_cases hd : d = k + 1
          · rw [hd]; exact He.out
          · exact Hne.out d h1 (by omega)⟩
        case measure => simp [intOf]; omega
    · obtain rfl : k = 11 := by omega
      have hcv : Hid (codeV c = -1) := hid (by
        unfold codeV
        rw [if_pos]
        rcases Nat.eq_zero_or_pos c with h0 | h0
        · exact h0
        · exact absurd rfl (Hne.out c h0 hc))
      go_wp2
      go_ret2
      exact ⟨by rw [hcv.out]; rfl, Hx.out⟩
end Go.Proofs.YtohfdecefikinaaGreatDoor


/- The laws' own word for an error's number is walked. -/
namespace Go.Proofs.YtohfdecefikinaaGreatDoor
set_option linter.unusedSimpArgs false
set_option linter.unusedVariables false
open Go Go.RowKit


/-- An error of a number, or none, that is asked for a number. -/
theorem code_err (w : World) (ad : Nat → Addr) (h : AllErrs w ad) (c : Nat) (hc : c ≤ 11) :
    Calls Tryz.prog 32 #[errv (evOf ad) c] w fun e w' => e = .returned (.tuple #[.int .i64 (c : Int), .int .i64 (-1)]) ∧ Ext w w' := by
  unfold errv
  by_cases h0 : c = 0
  · subst h0
    rw [if_pos rfl]
    exact (code_nil w).mono fun e w' ⟨h1, h2⟩ => ⟨h1, h2 ▸ Ext.refl _⟩
  · rw [if_neg h0]
    have := code_sent w ad h _ c hc (IsAs.sent h c (by omega))
    unfold codeV at this
    rw [if_neg h0] at this
    exact this

theorem AllErrs.errs {w : World} {ad : Nat → Addr} (h : AllErrs w ad) : Errs w (evOf ad) :=
  ⟨⟨h.at2, h.at3, h.at4, h.at8⟩, h.at1, h.at11⟩
end Go.Proofs.YtohfdecefikinaaGreatDoor


/- Faults that are told, in numbers. -/
namespace Go.Proofs.YtohfdecefikinaaGreatDoor
set_option linter.unusedSimpArgs false
set_option linter.unusedVariables false
open Go Go.RowKit

theorem PP.stmtErr_le (P : PP) (s : PS) : P.stmtErr s ≤ 9 := by
  unfold PP.stmtErr
  cases (!memB s.kind kindsS) <;> simp only [cond_true, cond_false] <;> try omega
  cases (!P.bound s) <;> simp only [cond_true, cond_false] <;> try omega
  cases (s.isK kCall && decide (3 < s.args.length)) <;> simp only [cond_true, cond_false] <;> try omega
  cases ((!s.isK kCall && decide (0 < s.args.length)) || (s.isK kNew && !decide (s.y = 0))) <;> simp
theorem PP.err1_le (P : PP) : P.err1 ≤ 9 := by
  unfold PP.err1
  cases P.big <;> simp only [cond_true, cond_false] <;> try omega
  split
  · omega
  · split
    · omega
    · unfold PP.funsErr
      cases (P.funs.any bad9) <;> simp only [cond_true, cond_false] <;> try omega
      cases (P.funs.any P.bad2) <;> simp only [cond_true, cond_false] <;> try omega
      cases (P.funs.any bad7) <;> simp

theorem PP.FirstBad.uniq {P : PP} {i j : Nat} {s t : PS} (h : P.FirstBad i s) (g : P.FirstBad j t) : i = j ∧ s = t := by
  obtain ⟨h1, h2, h3⟩ := h
  obtain ⟨g1, g2, g3⟩ := g
  have e : i = j := by
    rcases Nat.lt_trichotomy i j with e | e | e
    · exact absurd (g3 i s e h1) h2
    · exact e
    · exact absurd (h3 j t e g1) g2
  subst e
  exact ⟨rfl, Option.some.inj (h1.symm.trans g1)⟩
theorem PP.FirstBad.not {P : PP} {i : Nat} {s : PS} (h : P.FirstBad i s) : ¬ P.allWell := fun g => by
  obtain ⟨h1, h2, _⟩ := h
  have hi : i < P.stmts.length := by
    rcases Nat.lt_or_ge i P.stmts.length with e | e
    · exact e
    · rw [List.getElem?_eq_none e] at h1; cases h1
  exact h2 (g i s hi h1)
theorem FaultIs.uniq {P : PP} {c d : Nat} {p q : Int} (h : FaultIs P c p) (g : FaultIs P d q) : c = d ∧ p = q := by
  rcases h with ⟨h1, h2, h3⟩ | ⟨h1, h2, h3, h4⟩ | ⟨h1, i, s, h2, h3, h4⟩ <;> rcases g with ⟨g1, g2, g3⟩ | ⟨g1, g2, g3, g4⟩ | ⟨g1, j, t, g2, g3, g4⟩
  · exact ⟨h2.trans g2.symm, h3.trans g3.symm⟩
  · exact absurd g1 h1
  · exact absurd g1 h1
  · exact absurd h1 g1
  · exact ⟨h3.trans g3.symm, h4.trans g4.symm⟩
  · exact absurd h2 g2.not
  · exact absurd h1 g1
  · exact absurd g2 h2.not
  · obtain ⟨rfl, rfl⟩ := h2.uniq g2
    exact ⟨h3.trans g3.symm, h4.trans g4.symm⟩
theorem PP.FirstK.uniq {P : PP} {l : List Int} {i j : Nat} (h : P.FirstK l i) (g : P.FirstK l j) : i = j := by
  obtain ⟨x, h1, h2, h3⟩ := h
  obtain ⟨y, g1, g2, g3⟩ := g
  rcases Nat.lt_trichotomy i j with e | e | e
  · rw [g3 i x e h1] at h2; cases h2
  · exact e
  · rw [h3 j y e g1] at g2; cases g2

/-- The number of a run that is refused, and the place. -/
def RunFault (P : PP) (l : List Int) (c : Nat) (p : Int) : Prop :=
  (¬ (P.err1 = 0 ∧ P.allWell) ∧ FaultIs P c p) ∨ (P.err1 = 0 ∧ P.allWell ∧ 2000 < l.length ∧ c = 8 ∧ p = -1) ∨
  (P.err1 = 0 ∧ P.allWell ∧ l.length ≤ 2000 ∧ ∃ i : Nat, P.FirstK l i ∧ c = 2 ∧ p = (i : Int))
theorem RunFault.uniq {P : PP} {l : List Int} {c d : Nat} {p q : Int} (h : RunFault P l c p) (g : RunFault P l d q) : c = d ∧ p = q := by
  rcases h with ⟨h1, h2⟩ | ⟨h1, h2, h3, h4, h5⟩ | ⟨h1, h2, h3, i, h4, h5, h6⟩ <;> rcases g with ⟨g1, g2⟩ | ⟨g1, g2, g3, g4, g5⟩ | ⟨g1, g2, g3, j, g4, g5, g6⟩
  · exact h2.uniq g2
  · exact absurd ⟨g1, g2⟩ h1
  · exact absurd ⟨g1, g2⟩ h1
  · exact absurd ⟨h1, h2⟩ g1
  · exact ⟨h4.trans g4.symm, h5.trans g5.symm⟩
  · omega
  · exact absurd ⟨h1, h2⟩ g1
  · omega
  · obtain rfl := h4.uniq g4
    exact ⟨h5.trans g5.symm, h6.trans g6.symm⟩

theorem code_of (w : World) (ad : Nat → Addr) (h : AllErrs w ad) (c : Nat) (h0 : c ≠ 0) (hc : c ≤ 11) :
    Calls Tryz.prog 32 #[evOf ad c] w fun e w' => e = .returned (.tuple #[.int .i64 (c : Int), .int .i64 (-1)]) ∧ Ext w w' := by
  have := code_err w ad h c hc
  unfold errv at this
  rw [if_neg h0] at this
  exact this
theorem code_at (w : World) (ad : Nat → Addr) (h : AllErrs w ad) (c : Nat) (h0 : c ≠ 0) (hc : c ≤ 11) (b : Nat) (i : Int) (hb : Blk w b #[.int .i64 i, evOf ad c] 103) :
    Calls Tryz.prog 32 #[.iface 101 (.pointer (some ⟨b, 0, none⟩))] w fun e w' => e = .returned (.tuple #[.int .i64 (c : Int), .int .i64 i]) ∧ Ext w w' := by
  have := code_fault w ad h b i c hc ((hb.cell 0).trans rfl) (IsAs.fault h c (by omega) b ((hb.cell 1).trans rfl))
  unfold codeV at this
  rw [if_neg h0] at this
  exact this
/-- What a run that is refused tells, in numbers. -/
theorem code_no {ad : Nat → Addr} {P : PP} {l : List Int} {w : World} {v : Value} (h : RunNo ad P l w v) :
    ∃ c p, RunFault P l c p ∧ c ≠ 0 ∧ c ≤ 9 ∧ ∀ w1, Ext w w1 → AllErrs w1 ad → Calls Tryz.prog 32 #[v] w1 fun e w' => e = .returned (.tuple #[.int .i64 (c : Int), .int .i64 p]) ∧ Ext w1 w' := by
  rcases h with ⟨h1, h2⟩ | ⟨h1, h2, h3, rfl⟩ | ⟨h1, h2, h3, i, b, h4, rfl, hb⟩
  · rcases h2 with ⟨h3, rfl⟩ | ⟨h3, h4, rfl⟩ | ⟨h3, i, s, b, h4, rfl, hb⟩
    · have := P.err1_le
      exact ⟨P.err1, -1, .inl ⟨h1, .inl ⟨h3, rfl, rfl⟩⟩, h3, this, fun w1 x hA => code_of w1 ad hA _ h3 (by omega)⟩
    · exact absurd ⟨h3, h4⟩ h1
    · have := P.stmtErr_le s
      exact ⟨P.stmtErr s, i, .inl ⟨h1, .inr (.inr ⟨h3, i, s, h4, rfl, rfl⟩)⟩, h4.2.1, this, fun w1 x hA => code_at w1 ad hA _ h4.2.1 (by omega) b _ (hb.ext x)⟩
  · exact ⟨8, -1, .inr (.inl ⟨h1, h2, h3, rfl, rfl⟩), by decide, by decide, fun w1 x hA => code_of w1 ad hA 8 (by decide) (by decide)⟩
  · exact ⟨2, i, .inr (.inr ⟨h1, h2, h3, i, h4, rfl, rfl⟩), by decide, by decide, fun w1 x hA => code_at w1 ad hA 2 (by decide) (by decide) b _ (hb.ext x)⟩

set_option maxRecDepth 100000 in
set_option maxHeartbeats 800000 in
theorem faulted1_any (w : World) (v : Value) (c p : Int) (h : ∀ w1, Ext w w1 → Calls Tryz.prog 32 #[v] w1 fun e w' => e = .returned (.tuple #[.int .i64 c, .int .i64 p]) ∧ Ext w1 w') :
    Calls Tryz.prog 12 #[v, .agg #[.int .i64 c, .int .i64 p]] w fun e w' => e = .returned (.bool true) ∧ Ext w w' := by
  obtain ⟨W, hW⟩ : ∃ W, W = w.alloc (.cells #[.int .i64 c, .int .i64 p] 34) := ⟨_, rfl⟩
  have HX : Hid (Ext w W) := hid (by rw [hW]; exact (Ext.refl _).alloc _)
  have HB : Hid (Blk W w.heap.size #[.int .i64 c, .int .i64 p] 34) := hid (by rw [hW]; exact Blk.new _ _ _)
  have HWe := hid hW
  have HC := hid (h W HX.out)
  clear hW h
  go_enter Tryz.func12, Tryz.ntmps12
  go_wp2_with fail
  rw [← HWe.out]
  refine HC.out.mono ?_
  intro e w1 hx
  obtain ⟨rfl, hx1⟩ := hx
  have d0 := (HB.out.ext hx1).av 0 rfl
  have d1 := (HB.out.ext hx1).av 1 rfl
  simp only [List.getElem_toArray, List.getElem_cons_zero, List.getElem_cons_succ] at d0 d1
  have HX1 := hid (HX.out.trans hx1)
  clear HC HB HWe HX hx1
  by_cases h0 : c = 0
  · subst h0
    go_wp2
    go_ret
    exact ⟨rfl, HX1.out⟩
  · go_wp2
    go_ret
    exact ⟨rfl, HX1.out⟩
end Go.Proofs.YtohfdecefikinaaGreatDoor


/- RunParts: the walk: two runs. -/
namespace Go.Proofs.YtohfdecefikinaaGreatDoor
set_option linter.unusedSimpArgs false
set_option linter.unusedVariables false
open Go Go.RowKit

section
variable {P : Program} {ops : Array Oper} {X : Nat → Prop} {w0 : World} {Q : Act → World → Prop} {L : List Nat}
/-- j, then m, then p, q, r, whose values are known; i whenever; then all are done. -/
theorem Flow.par3j {listed : Array Bool} {C : World → Prop} {a : Act} (j m p q r i : Nat) (oj om op oq or' oi : Oper) (hoj : ops[j]? = some oj) (hom : ops[m]? = some om) (hop : ops[p]? = some op) (hoq : ops[q]? = some oq) (hor : ops[r]? = some or') (hoi : ops[i]? = some oi)
    (hij : i ≠ j) (him : i ≠ m) (hip : i ≠ p) (hiq : i ≠ q) (hir : i ≠ r) (hpL : p ∉ L) (hqL : q ∉ L) (hrL : r ∉ L)
    (hsi : ∀ cs b, oi.op ≠ .select cs b) (hsj : ∀ cs b, oj.op ≠ .select cs b) (hsm : ∀ cs b, om.op ≠ .select cs b) (hsp : ∀ cs b, op.op ≠ .select cs b) (hsq : ∀ cs b, oq.op ≠ .select cs b) (hsr : ∀ cs b, or'.op ≠ .select cs b)
    (hap : oi.apart ops oj = true) (hap2 : oi.apart ops om = true) (hap3 : oi.apart ops op = true) (hap4 : oi.apart ops oq = true) (hap5 : oi.apart ops or' = true)
    (r0 : (Region.ready .any ops listed == [j, i]) = true) (r1 : (Region.ready .any ops (listed.setIfInBounds i true) == [j]) = true) (r2 : (Region.ready .any ops ((listed.setIfInBounds i true).setIfInBounds j true) == [m]) = true)
    (r3 : (Region.ready .any ops (listed.setIfInBounds j true) == [m, i]) = true)
    (rp : (Region.ready .any ops ((listed.setIfInBounds j true).setIfInBounds m true)).contains p = true) (rq : (Region.ready .any ops (((listed.setIfInBounds j true).setIfInBounds m true).setIfInBounds p true)).contains q = true)
    (rr : (Region.ready .any ops ((((listed.setIfInBounds j true).setIfInBounds m true).setIfInBounds p true).setIfInBounds q true)).contains r = true)
    (r4 : (Region.ready .any ops (((((listed.setIfInBounds j true).setIfInBounds m true).setIfInBounds p true).setIfInBounds q true).setIfInBounds r true) == [i]) = true)
    (sp : (Region.ready .any ops (((listed.setIfInBounds i true).setIfInBounds j true).setIfInBounds m true)).contains p = true) (sq : (Region.ready .any ops ((((listed.setIfInBounds i true).setIfInBounds j true).setIfInBounds m true).setIfInBounds p true)).contains q = true)
    (sr : (Region.ready .any ops (((((listed.setIfInBounds i true).setIfInBounds j true).setIfInBounds m true).setIfInBounds p true).setIfInBounds q true)).contains r = true)
    (A B : Value → World → Prop) (AB D : Value → Value → World → Prop) (F : Value → Value → Value → World → Prop) (T : Value → Prop) (fp fq fr : Value → Value)
    (sA : ∀ v w w', A v w → Ext w w' → A v w') (sB : ∀ v w w', B v w → Ext w w' → B v w') (sAB : ∀ u v w w', AB u v w → Ext w w' → AB u v w') (sD : ∀ u v w w', D u v w → Ext w w' → D u v w') (sF : ∀ t u v w w', F t u v w → Ext w w' → F t u v w')
    (tD : ∀ vj vm w, D vj vm w → T vm) (tF : ∀ vi vj vm w, F vi vj vm w → T vm)
    (i0 : ∀ w, C w → Keep X w0 w → does P ops oi a w (ActR X w0 A))
    (j0 : ∀ w, C w → Keep X w0 w → does P ops oj a w (ActR X w0 B))
    (i1 : ∀ vj w, B vj w → Keep X w0 w → does P ops oi a w (ActR X w0 fun v => AB v vj))
    (j1 : ∀ vi w, A vi w → Keep X w0 w → does P ops oj a w (ActR X w0 (AB vi)))
    (m1 : ∀ vj w, B vj w → Keep X w0 w → does P ops om (a.put oj.dst vj) w (ActR X w0 (D vj)))
    (m2 : ∀ vi vj w, AB vi vj w → Keep X w0 w → does P ops om (a.put oj.dst vj) w (ActR X w0 (F vi vj)))
    (dp : ∀ vj vm w, T vm → Keep X w0 w → does P ops op ((a.put oj.dst vj).put om.dst vm) w (DetR (fp vm) w))
    (dq : ∀ vj vm w, T vm → Keep X w0 w → does P ops oq (((a.put oj.dst vj).put om.dst vm).put op.dst (fp vm)) w (DetR (fq vm) w))
    (dr : ∀ vj vm w, T vm → Keep X w0 w → does P ops or' ((((a.put oj.dst vj).put om.dst vm).put op.dst (fp vm)).put oq.dst (fq vm)) w (DetR (fr vm) w))
    (i2 : ∀ vj vm w, D vj vm w → Keep X w0 w → does P ops oi a w (ActR X w0 fun u => F u vj vm))
    (k : ∀ vi vj vm, (∃ w, F vi vj vm w) → Flow P ops w0 Q X L ((((((listed.setIfInBounds i true).setIfInBounds j true).setIfInBounds m true).setIfInBounds p true).setIfInBounds q true).setIfInBounds r true) (F vi vj vm)
      ((((((a.put oi.dst vi).put oj.dst vj).put om.dst vm).put op.dst (fp vm)).put oq.dst (fq vm)).put or'.dst (fr vm))) :
    Flow P ops w0 Q X L listed C a := by
  have hs := Oper.apart_spec hap
  have hs2 := Oper.apart_spec hap2
  have hs3 := Oper.apart_spec hap3
  have hs4 := Oper.apart_spec hap4
  have hs5 := Oper.apart_spec hap5
  refine Flow.par3g j m i oj om oi hoj hom hoi hij him hsi hsj hsm hap hap2 r0 r1 r2 r3 A B AB D F sA sB sAB sD sF i0 j0 i1 j1 m1 m2 (fun vi vj vm h => ?_) (fun vj vm h => ?_)
  · have hT : T vm := by obtain ⟨w, hw⟩ := h; exact tF _ _ _ w hw
    refine Flow.d p op hop hpL sp (fun w hk => ?_) (Flow.d q oq hoq hqL sq (fun w hk => ?_) (Flow.d r or' hor hrL sr (fun w hk => ?_) (k vi vj vm h)))
    · rw [Act.put_comm a vi vj hs.2.1, Act.put_comm _ vi vm hs2.2.1, does_put hsp hs3.1]
      exact dp vj vm w hT hk
    · rw [Act.put_comm a vi vj hs.2.1, Act.put_comm _ vi vm hs2.2.1, Act.put_comm _ vi (fp vm) hs3.2.1, does_put hsq hs4.1]
      exact dq vj vm w hT hk
    · rw [Act.put_comm a vi vj hs.2.1, Act.put_comm _ vi vm hs2.2.1, Act.put_comm _ vi (fp vm) hs3.2.1, Act.put_comm _ vi (fq vm) hs4.2.1, does_put hsr hs5.1]
      exact dr vj vm w hT hk
  · have hT : T vm := by obtain ⟨w, hw⟩ := h; exact tD _ _ w hw
    refine Flow.d p op hop hpL rp (fun w hk => dp vj vm w hT hk) (Flow.d q oq hoq hqL rq (fun w hk => dq vj vm w hT hk) (Flow.d r or' hor hrL rr (fun w hk => dr vj vm w hT hk) (Flow.one i oi hoi r4 (fun u => F u vj vm) (fun _ _ _ h x => sF _ _ _ _ _ h x) (fun w h hk => ?_) (fun u hu => ?_))))
    · rw [does_put hsi hs5.2.2, does_put hsi hs4.2.2, does_put hsi hs3.2.2, does_put hsi hs2.2.2, does_put hsi hs.2.2]
      exact i2 vj vm w h hk
    · have h3 := k u vj vm hu
      rw [Array.setIfInBounds_comm _ _ hij, Array.setIfInBounds_comm _ _ him, Array.setIfInBounds_comm _ _ hip, Array.setIfInBounds_comm _ _ hiq, Array.setIfInBounds_comm _ _ hir,
        Act.put_comm a u vj hs.2.1, Act.put_comm _ u vm hs2.2.1, Act.put_comm _ u (fp vm) hs3.2.1, Act.put_comm _ u (fq vm) hs4.2.1, Act.put_comm _ u (fr vm) hs5.2.1] at h3
      exact h3
end

/-- Numbers that were copied. -/
def IntsNew (W : World) (l : List Int) (v : Value) (w : World) : Prop := (∃ a n c, v = .slice a n c) ∧ IntsR w w.heap.size v l ∧ Ext W w
theorem IntsNew.ext {W w w' : World} {l : List Int} {v : Value} (h : IntsNew W l v w) (x : Ext w w') : IntsNew W l v w' := ⟨h.1, ElR.lift (h.2.1.old (x.old _)) x.size, h.2.2.trans x⟩
/-- What a run answered. -/
def RunNew (W : World) (P : PP) (l : List Int) (t : Value) (w : World) : Prop := (∃ a1 n1 c1 a2 n2 c2 a3 n3 c3 ev, t = .tuple #[.agg #[.slice a1 n1 c1, .slice a2 n2 c2, .slice a3 n3 c3], ev] ∧ RunOut P l W.heap.size w (.agg #[.slice a1 n1 c1, .slice a2 n2 c2, .slice a3 n3 c3]) ev) ∧ Ext W w
theorem RunNew.ext {W w w' : World} {P : PP} {l : List Int} {t : Value} (h : RunNew W P l t w) (x : Ext w w') : RunNew W P l t w' := by
  obtain ⟨⟨a1, n1, c1, a2, n2, c2, a3, n3, c3, ev, h1, h2⟩, h3⟩ := h
  exact ⟨⟨a1, n1, c1, a2, n2, c2, a3, n3, c3, ev, h1, h2.ext x⟩, h3.trans x⟩
theorem RunNew.tup {W w : World} {P : PP} {l : List Int} {t : Value} (h : RunNew W P l t w) : ∃ u v, t = .tuple #[u, v] := by
  obtain ⟨⟨a1, n1, c1, a2, n2, c2, a3, n3, c3, ev, h1, h2⟩, h3⟩ := h
  exact ⟨_, _, h1⟩
/-- The parts of a run's answer. -/
def tup0 : Value → Value
  | .tuple cs => cs.getD 0 undef
  | _ => undef
def tup1 : Value → Value
  | .tuple cs => cs.getD 1 undef
  | _ => undef
def IsTup (t : Value) : Prop := ∃ u v, t = .tuple #[u, v]
end Go.Proofs.YtohfdecefikinaaGreatDoor


/- What run.Do answers, whole (with the state's rows, or the error to the letter). -/
namespace Go.Proofs.YtohfdecefikinaaGreatDoor
set_option linter.unusedSimpArgs false
set_option linter.unusedVariables false
open Go Go.RowKit

theorem ErrIs.ext {ad : Nat → Addr} {P : PP} {w w' : World} {v : Value} (h : ErrIs ad P w v) (x : Ext w w') : ErrIs ad P w' v := by
  rcases h with h | h | ⟨h1, i, s, b, h2, h3, h4⟩
  · exact .inl h
  · exact .inr (.inl h)
  · exact .inr (.inr ⟨h1, i, s, b, h2, h3, h4.ext x⟩)
theorem RunNo.ext {ad : Nat → Addr} {P : PP} {l : List Int} {w w' : World} {v : Value} (h : RunNo ad P l w v) (x : Ext w w') : RunNo ad P l w' v := by
  rcases h with ⟨h1, h2⟩ | h | ⟨h1, h2, h3, i, b, h4, h5, h6⟩
  · exact .inl ⟨h1, h2.ext x⟩
  · exact .inr (.inl h)
  · exact .inr (.inr ⟨h1, h2, h3, i, b, h4, h5, h6.ext x⟩)
end Go.Proofs.YtohfdecefikinaaGreatDoor


/- RunDoes: numbers copied and a program run, whatever order Go takes. -/
namespace Go.Proofs.YtohfdecefikinaaGreatDoor
set_option linter.unusedSimpArgs false
set_option linter.unusedVariables false
open Go Go.RowKit

set_option maxRecDepth 100000 in
set_option maxHeartbeats 800000 in
theorem ownintsR_more (v : Value) (l : List Int) (w : World) (n0 : Nat) (h : IntsR w n0 v l) (hl : l.length ≤ 3000) :
    Calls Tryz.prog 22 #[v] w fun e w' => ∃ v', e = .returned v' ∧ Ext w w' ∧ w'.ownsRow w.heap.size 3 1 v' l.length (icells l) := by
  obtain ⟨a, cap, rfl, h'⟩ := id h
  have Hs := hid h.src
  have hl2 : 0 + l.length ≤ 1000000 := by omega
  clear h h'
  go_enter Tryz.func22, Tryz.ntmps22
  go_wp2_with (at_builtin; refine wpList_append_src w.heap.size (Nat.le_refl _) 42 3 (.int .i64 0) 1 8 Tryz.underlying42 ints_info rfl (by omega) (by omega) rfl _ _ rfl (.slice none 0 0) 0 [] rfl (World.ownsRow_nil _ _ _ _) a l.length cap (icells l) rfl Hs.out hl2 ?_; intro v' w' h1 h2 h4; have h3 := Keep.new (Ext.refl w) h2 (fun k hk => by cases hk))
  go_ret
  exact ⟨_, rfl, h3, by simpa using h1⟩


theorem FaultIs.zero {P : PP} {p : Int} (h : FaultIs P 0 p) : P.err1 = 0 ∧ P.allWell ∧ p = -1 := by
  rcases h with ⟨h1, h2, _⟩ | ⟨h1, h2, _, h4⟩ | ⟨h1, i, s, h2, h3, _⟩
  · exact absurd h2.symm h1
  · exact ⟨h1, h2, h4⟩
  · exact absurd h3.symm h2.2.1
theorem FaultIs.pos {P : PP} {c : Nat} {p : Int} (h : FaultIs P c p) (hc : c ≠ 0) : ¬ (P.err1 = 0 ∧ P.allWell) := fun g => by
  rcases h with ⟨h1, _, _⟩ | ⟨_, _, h3, _⟩ | ⟨_, i, s, h2, _, _⟩
  · exact h1 g.1
  · exact hc h3
  · exact h2.not g.2
end Go.Proofs.YtohfdecefikinaaGreatDoor
