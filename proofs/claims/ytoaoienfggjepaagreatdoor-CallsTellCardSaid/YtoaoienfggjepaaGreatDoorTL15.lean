/- Texts of one proof, put together: PC CD WJ V9 WK Z8 Z9 E6. -/
import Derived.Test.YtoaoienfggjepaaGreatDoorTL01
import Derived.Test.YtoaoienfggjepaaGreatDoorTL02
import Derived.Test.YtoaoienfggjepaaGreatDoorTL05
import Derived.Test.YtoaoienfggjepaaGreatDoorTL06
import Derived.Test.YtoaoienfggjepaaGreatDoorTL07
import Derived.Test.YtoaoienfggjepaaGreatDoorTL09
import Derived.Test.YtoaoienfggjepaaGreatDoorTL11
import Derived.Test.YtoaoienfggjepaaGreatDoorTL12
import Derived.Test.YtoaoienfggjepaaGreatDoorTL14

/- plain.Code walked: an error's number, and its place. -/
namespace Go.Proofs.YtoaoienfggjepaaGreatDoor
set_option linter.unusedSimpArgs false
set_option linter.unusedVariables false
open Go Go.RowKit

/-- All errors lie as they were laid. -/
structure AllErrs (w : World) (ad : Nat → Addr) : Prop where
  var : ∀ c, 1 ≤ c ∧ c ≤ 11 → w.cell? ⟨gE c, 0, none⟩ = some (.iface 271 (.pointer (some (ad c))))
  row : ∀ c, 1 ≤ c ∧ c ≤ 11 → ∃ cs t, w.heap[(ad c).block]? = some (.cells cs t (0, 0))
  inj : ∀ c d, 1 ≤ c ∧ c ≤ 11 → 1 ≤ d ∧ d ≤ 11 → ad c = ad d → c = d
  ty : w.cell? ⟨11, 0, none⟩ = some (.iface 248 (.agg #[.pointer (some ⟨20, 25, none⟩)]))
theorem AllErrs.at1 {w : World} {ad : Nat → Addr} (h : AllErrs w ad) : w.cell? ⟨1, 0, none⟩ = some (.iface 271 (.pointer (some (ad 1)))) := h.var 1 (by omega)
theorem AllErrs.at2 {w : World} {ad : Nat → Addr} (h : AllErrs w ad) : w.cell? ⟨0, 0, none⟩ = some (.iface 271 (.pointer (some (ad 2)))) := h.var 2 (by omega)
theorem AllErrs.at3 {w : World} {ad : Nat → Addr} (h : AllErrs w ad) : w.cell? ⟨6, 0, none⟩ = some (.iface 271 (.pointer (some (ad 3)))) := h.var 3 (by omega)
theorem AllErrs.at4 {w : World} {ad : Nat → Addr} (h : AllErrs w ad) : w.cell? ⟨7, 0, none⟩ = some (.iface 271 (.pointer (some (ad 4)))) := h.var 4 (by omega)
theorem AllErrs.at5 {w : World} {ad : Nat → Addr} (h : AllErrs w ad) : w.cell? ⟨4, 0, none⟩ = some (.iface 271 (.pointer (some (ad 5)))) := h.var 5 (by omega)
theorem AllErrs.at6 {w : World} {ad : Nat → Addr} (h : AllErrs w ad) : w.cell? ⟨8, 0, none⟩ = some (.iface 271 (.pointer (some (ad 6)))) := h.var 6 (by omega)
theorem AllErrs.at7 {w : World} {ad : Nat → Addr} (h : AllErrs w ad) : w.cell? ⟨5, 0, none⟩ = some (.iface 271 (.pointer (some (ad 7)))) := h.var 7 (by omega)
theorem AllErrs.at8 {w : World} {ad : Nat → Addr} (h : AllErrs w ad) : w.cell? ⟨3, 0, none⟩ = some (.iface 271 (.pointer (some (ad 8)))) := h.var 8 (by omega)
theorem AllErrs.at9 {w : World} {ad : Nat → Addr} (h : AllErrs w ad) : w.cell? ⟨9, 0, none⟩ = some (.iface 271 (.pointer (some (ad 9)))) := h.var 9 (by omega)
theorem AllErrs.at10 {w : World} {ad : Nat → Addr} (h : AllErrs w ad) : w.cell? ⟨2, 0, none⟩ = some (.iface 271 (.pointer (some (ad 10)))) := h.var 10 (by omega)
theorem AllErrs.at11 {w : World} {ad : Nat → Addr} (h : AllErrs w ad) : w.cell? ⟨10, 0, none⟩ = some (.iface 271 (.pointer (some (ad 11)))) := h.var 11 (by omega)
theorem AllErrs.ext {w w' : World} {ad : Nat → Addr} (h : AllErrs w ad) (x : Ext w w') : AllErrs w' ad :=
  ⟨fun c hc => x.cellx (h.var c hc), fun c hc => by obtain ⟨cs, t, e⟩ := h.row c hc; exact ⟨cs, t, x.get e⟩, h.inj, x.cellx h.ty⟩
/-- What errors.Is tells of e: it is the one with the number c, or none. -/
def IsAs (w : World) (ad : Nat → Addr) (e : Value) (c : Nat) : Prop := ∀ w', Ext w w' → ∀ d, 1 ≤ d ∧ d ≤ 11 → Calls Tryz.prog 127 #[e, .iface 271 (.pointer (some (ad d)))] w' fun r w'' => r = .returned (.bool (decide (d = c))) ∧ w' = w''
theorem IsAs.sent {w : World} {ad : Nat → Addr} (h : AllErrs w ad) (c : Nat) (hc : 1 ≤ c ∧ c ≤ 11) : IsAs w ad (.iface 271 (.pointer (some (ad c)))) c := by
  intro w' x d hd
  by_cases e : d = c
  · subst e
    rw [decide_eq_true rfl]
    exact is_same (ad d) w'
  · rw [decide_eq_false e]
    have h' := h.ext x
    obtain ⟨c1, t1, e1⟩ := h'.row c hc
    obtain ⟨c2, t2, e2⟩ := h'.row d hd
    exact is_other (ad c) (ad d) c1 c2 t1 t2 w' (fun e' => e (h.inj d c hd hc e'.symm)) e1 e2
theorem IsAs.fault {w : World} {ad : Nat → Addr} (h : AllErrs w ad) (c : Nat) (hc : 1 ≤ c ∧ c ≤ 11) (b : Nat) (hb : w.cell? ⟨b, 1, none⟩ = some (.iface 271 (.pointer (some (ad c))))) : IsAs w ad (.iface 104 (.pointer (some ⟨b, 0, none⟩))) c := by
  intro w' x d hd
  by_cases e : d = c
  · subst e
    rw [decide_eq_true rfl]
    exact is_wrap_same b (ad d) w' (x.cellx hb)
  · rw [decide_eq_false e]
    have h' := h.ext x
    obtain ⟨c1, t1, e1⟩ := h'.row c hc
    obtain ⟨c2, t2, e2⟩ := h'.row d hd
    exact is_wrap_other b (ad d) (ad c) c1 c2 t1 t2 w' (x.cellx hb) (fun e' => e (h.inj d c hd hc e'.symm)) e1 e2
/-- One that is none of them. -/
theorem IsAs.none {w : World} {ad : Nat → Addr} (h : AllErrs w ad) (a : Addr) (ha : ∃ cs t, w.heap[a.block]? = some (.cells cs t (0, 0))) (hne : ∀ c, 1 ≤ c ∧ c ≤ 11 → a ≠ ad c) : IsAs w ad (.iface 271 (.pointer (some a))) 0 := by
  intro w' x d hd
  rw [decide_eq_false (by omega)]
  obtain ⟨c1, t1, e1⟩ := ha
  obtain ⟨c2, t2, e2⟩ := (h.ext x).row d hd
  exact is_other a (ad d) c1 c2 t1 t2 w' (hne d hd) (x.get e1) e2

def codeV (c : Nat) : Int := if c = 0 then -1 else c

set_option maxRecDepth 100000 in
set_option maxHeartbeats 400000 in
theorem code_nil (w : World) : Calls Tryz.prog 85 #[.nilIface] w fun e w' => e = .returned (.tuple #[.int .i64 0, .int .i64 (-1)]) ∧ w = w' := by
  go_enter Tryz.func85, Tryz.ntmps85
  go_wp2
  go_ret2
  exact ⟨rfl, rfl⟩


set_option maxRecDepth 100000 in
set_option maxHeartbeats 3200000 in
theorem code_sent (w : World) (ad : Nat → Addr) (h : AllErrs w ad) (x : Value) (c : Nat) (hc : c ≤ 11) (hi : IsAs w ad (.iface 271 x) c) :
    Calls Tryz.prog 85 #[.iface 271 x] w fun e w' => e = .returned (.tuple #[.int .i64 (codeV c), .int .i64 (-1)]) ∧ Ext w w' := by
  have hA := hid (as_miss x ⟨w.heap.size, 0, none⟩ (.pointer none) (w.alloc (.cells #[.pointer none] 104)) (((Ext.refl w).alloc _).cellx h.ty) (by simp) (by simp))
  go_enter Tryz.func85, Tryz.ntmps85
  go_wp2_with fail
  refine hA.out.mono ?_
  intro e w1 hx
  obtain ⟨rfl, hx1⟩ := hx
  replace hx1 := ((Ext.refl w).alloc _).trans hx1
  clear hA
  have g0 := (h.ext hx1).at1
  have g1 := (h.ext hx1).at2
  have g2 := (h.ext hx1).at3
  have g3 := (h.ext hx1).at4
  have g4 := (h.ext hx1).at5
  have g5 := (h.ext hx1).at6
  have g6 := (h.ext hx1).at7
  have g7 := (h.ext hx1).at8
  have g8 := (h.ext hx1).at9
  have g9 := (h.ext hx1).at10
  have g10 := (h.ext hx1).at11
  obtain ⟨W, hW⟩ : ∃ W, W = w1.alloc (.cells #[.iface 271 (.pointer (some (ad 1))), .iface 271 (.pointer (some (ad 2))), .iface 271 (.pointer (some (ad 3))), .iface 271 (.pointer (some (ad 4))), .iface 271 (.pointer (some (ad 5))), .iface 271 (.pointer (some (ad 6))), .iface 271 (.pointer (some (ad 7))), .iface 271 (.pointer (some (ad 8))), .iface 271 (.pointer (some (ad 9))), .iface 271 (.pointer (some (ad 10))), .iface 271 (.pointer (some (ad 11)))] 25) := ⟨_, rfl⟩
  have hcell : ∀ k, k < 11 → W.cell? ⟨w1.heap.size, k, none⟩ = some (.iface 271 (.pointer (some (ad (k + 1))))) := fun k hk => by
    have hB := Blk.new w1 #[.iface 271 (.pointer (some (ad 1))), .iface 271 (.pointer (some (ad 2))), .iface 271 (.pointer (some (ad 3))), .iface 271 (.pointer (some (ad 4))), .iface 271 (.pointer (some (ad 5))), .iface 271 (.pointer (some (ad 6))), .iface 271 (.pointer (some (ad 7))), .iface 271 (.pointer (some (ad 8))), .iface 271 (.pointer (some (ad 9))), .iface 271 (.pointer (some (ad 10))), .iface 271 (.pointer (some (ad 11)))] 25
    rw [← hW] at hB
    rw [hB.cell k]
    rcases (by omega : k = 0 ∨ k = 1 ∨ k = 2 ∨ k = 3 ∨ k = 4 ∨ k = 5 ∨ k = 6 ∨ k = 7 ∨ k = 8 ∨ k = 9 ∨ k = 10) with rfl | rfl | rfl | rfl | rfl | rfl | rfl | rfl | rfl | rfl | rfl <;> rfl
  have hX : Ext w W := by rw [hW]; exact hx1.alloc _
  have HW := hid hW
  have Hc := fun k hk => hid (hcell k hk)
  have HI := hid (hi _ hX)
  have Hx := hid hX
  clear hcell hW hX hi
  go_wp2
  rw [← HW.out]
  clear g0 g1 g2 g3 g4 g5 g6 g7 g8 g9 g10 HW h hx1
  generalize w1.heap.size = N at *
  go_loop [3, 29] (fun t3 t29 => ∃ k : Nat, t29 = .int .i64 (k : Int) ∧ k ≤ 11 ∧ t3 = .int .i64 (-1) ∧ ∀ d, 1 ≤ d → d ≤ k → d ≠ c) (fun _ t29 => 11 - (intOf t29).toNat)
  case atStart => exact ⟨0, rfl, Nat.zero_le _, rfl, fun d h1 h2 => by omega⟩
  case round =>
    obtain ⟨k, rfl, hk, rfl, hne⟩ := hrel
    have Hne := hid hne
    clear hne
    by_cases hlt : k < 11
    · have hck := (Hc k hlt).out
      have hcall := hid (HI.out (k + 1) (by omega))
      by_cases he : k + 1 = c
      · have hcv : Hid (codeV c = (k : Int) + 1) := hid (by unfold codeV; rw [if_neg (by omega)]; omega)
        rw [decide_eq_true he] at hcall
        clear he
        have hlt2 : (k : Int) < 11 := by omega
        go_wp2_with fail
        refine hcall.out.mono ?_
        rintro e w3 ⟨rfl, rfl⟩
        go_wp2
        go_ret2
        exact ⟨by rw [hcv.out]; rfl, Hx.out⟩
      · rw [decide_eq_false he] at hcall
        have hlt2 : (k : Int) < 11 := by omega
        have He := hid he
        clear he
        go_wp2_with fail
        refine hcall.out.mono ?_
        rintro e w3 ⟨rfl, rfl⟩
        go_wp2
        go_round
        case rel => exact ⟨k + 1, by go_num, by omega, rfl, fun d h1 h2 => by
          by_cases hd : d = k + 1
          · rw [hd]; exact He.out
          · exact Hne.out d h1 (by omega)⟩
        case measure => simp [intOf]; omega
    · obtain rfl : k = 11 := by omega
      have hcv : Hid (codeV c = -1) := hid (by
        unfold codeV
        rw [if_pos]
        rcases Nat.eq_zero_or_pos c with h0 | h0
        · exact h0
        · exact absurd rfl (Hne.out c h0 hc))
      go_wp2
      go_ret2
      exact ⟨by rw [hcv.out]; rfl, Hx.out⟩

set_option maxRecDepth 100000 in
set_option maxHeartbeats 3200000 in
/-- A fault's code, and its place. -/
theorem code_fault (w : World) (ad : Nat → Addr) (h : AllErrs w ad) (b : Nat) (pl : Int) (c : Nat) (hc : c ≤ 11) (hpl : w.cell? ⟨b, 0, none⟩ = some (.int .i64 pl)) (hi : IsAs w ad (.iface 104 (.pointer (some ⟨b, 0, none⟩))) c) :
    Calls Tryz.prog 85 #[.iface 104 (.pointer (some ⟨b, 0, none⟩))] w fun e w' => e = .returned (.tuple #[.int .i64 (codeV c), .int .i64 pl]) ∧ Ext w w' := by
  have hA := hid (as_hit ⟨b, 0, none⟩ ⟨w.heap.size, 0, none⟩ (.pointer none) (w.alloc (.cells #[.pointer none] 104)) (((Ext.refl w).alloc _).cellx h.ty) (by simp) (by simp))
  go_enter Tryz.func85, Tryz.ntmps85
  go_wp2_with fail
  refine hA.out.mono ?_
  intro e w1 hx
  obtain ⟨rfl, hw1⟩ := hx
  have h3 := ((((Ext.refl (w.alloc (.cells #[.pointer none] 104))).alloc (.cells #[.pointer (some ⟨w.heap.size, 0, none⟩)] 169)).alloc (.cells #[.pointer (some ⟨20, 169, none⟩), .pointer (some ⟨(w.alloc (.cells #[.pointer none] 104)).heap.size, 0, none⟩), .int .u64 150] 210)).alloc (.cells #[.pointer (some ⟨20, 169, none⟩), .pointer (some ⟨(w.alloc (.cells #[.pointer none] 104)).heap.size, 0, none⟩), .int .u64 150] 210)).alloc (.cells #[.pointer (some ⟨b, 0, none⟩)] 104)
  have hB := ((Blk.new w #[.pointer none] 104).ext h3).set 0 (.pointer (some ⟨b, 0, none⟩))
  have hx1 : Ext w w1 := by
    rw [hw1]
    exact Keep.new (((Ext.refl w).alloc _).trans h3) (Keep.set (X := fun n => n = w.heap.size) (Keep.refl _ _) rfl _) fun n hn => by omega
  rw [← hw1] at hB
  have ht : w1.cell? ⟨w.heap.size, 0, none⟩ = some (.pointer (some ⟨b, 0, none⟩)) := (hB.cell 0).trans rfl
  have hp1 := hx1.cellx hpl
  clear hA hw1 h3 hB
  have g0 := (h.ext hx1).at1
  have g1 := (h.ext hx1).at2
  have g2 := (h.ext hx1).at3
  have g3 := (h.ext hx1).at4
  have g4 := (h.ext hx1).at5
  have g5 := (h.ext hx1).at6
  have g6 := (h.ext hx1).at7
  have g7 := (h.ext hx1).at8
  have g8 := (h.ext hx1).at9
  have g9 := (h.ext hx1).at10
  have g10 := (h.ext hx1).at11
  obtain ⟨W, hW⟩ : ∃ W, W = w1.alloc (.cells #[.iface 271 (.pointer (some (ad 1))), .iface 271 (.pointer (some (ad 2))), .iface 271 (.pointer (some (ad 3))), .iface 271 (.pointer (some (ad 4))), .iface 271 (.pointer (some (ad 5))), .iface 271 (.pointer (some (ad 6))), .iface 271 (.pointer (some (ad 7))), .iface 271 (.pointer (some (ad 8))), .iface 271 (.pointer (some (ad 9))), .iface 271 (.pointer (some (ad 10))), .iface 271 (.pointer (some (ad 11)))] 25) := ⟨_, rfl⟩
  have hcell : ∀ k, k < 11 → W.cell? ⟨w1.heap.size, k, none⟩ = some (.iface 271 (.pointer (some (ad (k + 1))))) := fun k hk => by
    have hB := Blk.new w1 #[.iface 271 (.pointer (some (ad 1))), .iface 271 (.pointer (some (ad 2))), .iface 271 (.pointer (some (ad 3))), .iface 271 (.pointer (some (ad 4))), .iface 271 (.pointer (some (ad 5))), .iface 271 (.pointer (some (ad 6))), .iface 271 (.pointer (some (ad 7))), .iface 271 (.pointer (some (ad 8))), .iface 271 (.pointer (some (ad 9))), .iface 271 (.pointer (some (ad 10))), .iface 271 (.pointer (some (ad 11)))] 25
    rw [← hW] at hB
    rw [hB.cell k]
    rcases (by omega : k = 0 ∨ k = 1 ∨ k = 2 ∨ k = 3 ∨ k = 4 ∨ k = 5 ∨ k = 6 ∨ k = 7 ∨ k = 8 ∨ k = 9 ∨ k = 10) with rfl | rfl | rfl | rfl | rfl | rfl | rfl | rfl | rfl | rfl | rfl <;> rfl
  have hX : Ext w W := by rw [hW]; exact hx1.alloc _
  have HW := hid hW
  have Hc := fun k hk => hid (hcell k hk)
  have HI := hid (hi _ hX)
  have Hx := hid hX
  clear hcell hW hX hi
  go_wp2
  rw [← HW.out]
  clear g0 g1 g2 g3 g4 g5 g6 g7 g8 g9 g10 HW h hx1
  generalize w1.heap.size = N at *
  go_loop [3, 29] (fun t3 t29 => ∃ k : Nat, t29 = .int .i64 (k : Int) ∧ k ≤ 11 ∧ t3 = .int .i64 pl ∧ ∀ d, 1 ≤ d → d ≤ k → d ≠ c) (fun _ t29 => 11 - (intOf t29).toNat)
  case atStart => exact ⟨0, rfl, Nat.zero_le _, rfl, fun d h1 h2 => by omega⟩
  case round =>
    obtain ⟨k, rfl, hk, rfl, hne⟩ := hrel
    have Hne := hid hne
    clear hne
    by_cases hlt : k < 11
    · have hck := (Hc k hlt).out
      have hcall := hid (HI.out (k + 1) (by omega))
      by_cases he : k + 1 = c
      · have hcv : Hid (codeV c = (k : Int) + 1) := hid (by unfold codeV; rw [if_neg (by omega)]; omega)
        rw [decide_eq_true he] at hcall
        clear he
        have hlt2 : (k : Int) < 11 := by omega
        go_wp2_with fail
        refine hcall.out.mono ?_
        rintro e w3 ⟨rfl, rfl⟩
        go_wp2
        go_ret2
        exact ⟨by rw [hcv.out]; rfl, Hx.out⟩
      · rw [decide_eq_false he] at hcall
        have hlt2 : (k : Int) < 11 := by omega
        have He := hid he
        clear he
        go_wp2_with fail
        refine hcall.out.mono ?_
        rintro e w3 ⟨rfl, rfl⟩
        go_wp2
        go_round
        case rel => exact ⟨k + 1, by go_num, by omega, rfl, fun d h1 h2 => by
          by_cases hd : d = k + 1
          · rw [hd]; exact He.out
          · exact Hne.out d h1 (by omega)⟩
        case measure => simp [intOf]; omega
    · obtain rfl : k = 11 := by omega
      have hcv : Hid (codeV c = -1) := hid (by
        unfold codeV
        rw [if_pos]
        rcases Nat.eq_zero_or_pos c with h0 | h0
        · exact h0
        · exact absurd rfl (Hne.out c h0 hc))
      go_wp2
      go_ret2
      exact ⟨by rw [hcv.out]; rfl, Hx.out⟩
end Go.Proofs.YtoaoienfggjepaaGreatDoor



/- The laws' own word for an error's number is walked. -/
namespace Go.Proofs.YtoaoienfggjepaaGreatDoor
set_option linter.unusedSimpArgs false
set_option linter.unusedVariables false
open Go Go.RowKit


/-- An error of a number, or none, that is asked for a number. -/
theorem code_err (w : World) (ad : Nat → Addr) (h : AllErrs w ad) (c : Nat) (hc : c ≤ 11) :
    Calls Tryz.prog 85 #[errv (evOf ad) c] w fun e w' => e = .returned (.tuple #[.int .i64 (c : Int), .int .i64 (-1)]) ∧ Ext w w' := by
  unfold errv
  by_cases h0 : c = 0
  · subst h0
    rw [if_pos rfl]
    exact (code_nil w).mono fun e w' ⟨h1, h2⟩ => ⟨h1, h2 ▸ Ext.refl _⟩
  · rw [if_neg h0]
    have := code_sent w ad h _ c hc (IsAs.sent h c (by omega))
    unfold codeV at this
    rw [if_neg h0] at this
    exact this

theorem AllErrs.errs {w : World} {ad : Nat → Addr} (h : AllErrs w ad) : Errs w (evOf ad) :=
  ⟨⟨h.at2, h.at3, h.at4, h.at8⟩, h.at1, h.at11⟩
end Go.Proofs.YtoaoienfggjepaaGreatDoor



/- Faults that are told, in numbers. -/
namespace Go.Proofs.YtoaoienfggjepaaGreatDoor
set_option linter.unusedSimpArgs false
set_option linter.unusedVariables false
open Go Go.RowKit

theorem PP.stmtErr_le (P : PP) (s : PS) : P.stmtErr s ≤ 9 := by
  unfold PP.stmtErr
  cases (!memB s.kind kindsS) <;> simp only [cond_true, cond_false] <;> try omega
  cases (!P.bound s) <;> simp only [cond_true, cond_false] <;> try omega
  cases (s.isK kCall && decide (3 < s.args.length)) <;> simp only [cond_true, cond_false] <;> try omega
  cases ((!s.isK kCall && decide (0 < s.args.length)) || (s.isK kNew && !decide (s.y = 0))) <;> simp
theorem PP.err1_le (P : PP) : P.err1 ≤ 9 := by
  unfold PP.err1
  cases P.big <;> simp only [cond_true, cond_false] <;> try omega
  split
  · omega
  · split
    · omega
    · unfold PP.funsErr
      cases (P.funs.any bad9) <;> simp only [cond_true, cond_false] <;> try omega
      cases (P.funs.any P.bad2) <;> simp only [cond_true, cond_false] <;> try omega
      cases (P.funs.any bad7) <;> simp

theorem PP.FirstBad.uniq {P : PP} {i j : Nat} {s t : PS} (h : P.FirstBad i s) (g : P.FirstBad j t) : i = j ∧ s = t := by
  obtain ⟨h1, h2, h3⟩ := h
  obtain ⟨g1, g2, g3⟩ := g
  have e : i = j := by
    rcases Nat.lt_trichotomy i j with e | e | e
    · exact absurd (g3 i s e h1) h2
    · exact e
    · exact absurd (h3 j t e g1) g2
  subst e
  exact ⟨rfl, Option.some.inj (h1.symm.trans g1)⟩
theorem PP.FirstBad.not {P : PP} {i : Nat} {s : PS} (h : P.FirstBad i s) : ¬ P.allWell := fun g => by
  obtain ⟨h1, h2, _⟩ := h
  have hi : i < P.stmts.length := by
    rcases Nat.lt_or_ge i P.stmts.length with e | e
    · exact e
    · rw [List.getElem?_eq_none e] at h1; cases h1
  exact h2 (g i s hi h1)
theorem FaultIs.uniq {P : PP} {c d : Nat} {p q : Int} (h : FaultIs P c p) (g : FaultIs P d q) : c = d ∧ p = q := by
  rcases h with ⟨h1, h2, h3⟩ | ⟨h1, h2, h3, h4⟩ | ⟨h1, i, s, h2, h3, h4⟩ <;> rcases g with ⟨g1, g2, g3⟩ | ⟨g1, g2, g3, g4⟩ | ⟨g1, j, t, g2, g3, g4⟩
  · exact ⟨h2.trans g2.symm, h3.trans g3.symm⟩
  · exact absurd g1 h1
  · exact absurd g1 h1
  · exact absurd h1 g1
  · exact ⟨h3.trans g3.symm, h4.trans g4.symm⟩
  · exact absurd h2 g2.not
  · exact absurd h1 g1
  · exact absurd g2 h2.not
  · obtain ⟨rfl, rfl⟩ := h2.uniq g2
    exact ⟨h3.trans g3.symm, h4.trans g4.symm⟩
theorem PP.FirstK.uniq {P : PP} {l : List Int} {i j : Nat} (h : P.FirstK l i) (g : P.FirstK l j) : i = j := by
  obtain ⟨x, h1, h2, h3⟩ := h
  obtain ⟨y, g1, g2, g3⟩ := g
  rcases Nat.lt_trichotomy i j with e | e | e
  · rw [g3 i x e h1] at h2; cases h2
  · exact e
  · rw [h3 j y e g1] at g2; cases g2

/-- The number of a run that is refused, and the place. -/
def RunFault (P : PP) (l : List Int) (c : Nat) (p : Int) : Prop :=
  (¬ (P.err1 = 0 ∧ P.allWell) ∧ FaultIs P c p) ∨ (P.err1 = 0 ∧ P.allWell ∧ 2000 < l.length ∧ c = 8 ∧ p = -1) ∨
  (P.err1 = 0 ∧ P.allWell ∧ l.length ≤ 2000 ∧ ∃ i : Nat, P.FirstK l i ∧ c = 2 ∧ p = (i : Int))
theorem RunFault.uniq {P : PP} {l : List Int} {c d : Nat} {p q : Int} (h : RunFault P l c p) (g : RunFault P l d q) : c = d ∧ p = q := by
  rcases h with ⟨h1, h2⟩ | ⟨h1, h2, h3, h4, h5⟩ | ⟨h1, h2, h3, i, h4, h5, h6⟩ <;> rcases g with ⟨g1, g2⟩ | ⟨g1, g2, g3, g4, g5⟩ | ⟨g1, g2, g3, j, g4, g5, g6⟩
  · exact h2.uniq g2
  · exact absurd ⟨g1, g2⟩ h1
  · exact absurd ⟨g1, g2⟩ h1
  · exact absurd ⟨h1, h2⟩ g1
  · exact ⟨h4.trans g4.symm, h5.trans g5.symm⟩
  · omega
  · exact absurd ⟨h1, h2⟩ g1
  · omega
  · obtain rfl := h4.uniq g4
    exact ⟨h5.trans g5.symm, h6.trans g6.symm⟩

theorem code_of (w : World) (ad : Nat → Addr) (h : AllErrs w ad) (c : Nat) (h0 : c ≠ 0) (hc : c ≤ 11) :
    Calls Tryz.prog 85 #[evOf ad c] w fun e w' => e = .returned (.tuple #[.int .i64 (c : Int), .int .i64 (-1)]) ∧ Ext w w' := by
  have := code_err w ad h c hc
  unfold errv at this
  rw [if_neg h0] at this
  exact this
theorem code_at (w : World) (ad : Nat → Addr) (h : AllErrs w ad) (c : Nat) (h0 : c ≠ 0) (hc : c ≤ 11) (b : Nat) (i : Int) (hb : Blk w b #[.int .i64 i, evOf ad c] 106) :
    Calls Tryz.prog 85 #[.iface 104 (.pointer (some ⟨b, 0, none⟩))] w fun e w' => e = .returned (.tuple #[.int .i64 (c : Int), .int .i64 i]) ∧ Ext w w' := by
  have := code_fault w ad h b i c hc ((hb.cell 0).trans rfl) (IsAs.fault h c (by omega) b ((hb.cell 1).trans rfl))
  unfold codeV at this
  rw [if_neg h0] at this
  exact this
end Go.Proofs.YtoaoienfggjepaaGreatDoor



/- RunParts: the walk: two runs. -/
namespace Go.Proofs.YtoaoienfggjepaaGreatDoor
set_option linter.unusedSimpArgs false
set_option linter.unusedVariables false
open Go Go.RowKit

section
variable {P : Program} {ops : Array Oper} {X : Nat → Prop} {w0 : World} {Q : Act → World → Prop} {L : List Nat}
end

/-- A state's block that is new. -/
def StNew (W : World) (u : Value) (w : World) : Prop := (∃ b, u = .pointer (some ⟨b, 0, none⟩) ∧ Blk w b zcells 52 ∧ W.heap.size ≤ b) ∧ Ext W w
theorem StNew.ext {W w w' : World} {u : Value} (h : StNew W u w) (x : Ext w w') : StNew W u w' := by
  obtain ⟨⟨b, h1, h2, h3⟩, h4⟩ := h
  exact ⟨⟨b, h1, h2.ext x, h3⟩, h4.trans x⟩
theorem StNew.mk {W w : World} (h : Ext W w) : StNew W (.pointer (some ⟨w.heap.size, 0, none⟩)) (w.alloc (.cells #[.slice none 0 0, .slice none 0 0, .slice none 0 0] 52)) := ⟨⟨_, rfl, Blk.new _ _ _, h.size⟩, h.alloc _⟩
/-- Numbers that were copied. -/
def IntsNew (W : World) (l : List Int) (v : Value) (w : World) : Prop := (∃ a n c, v = .slice a n c) ∧ IntsR w w.heap.size v l ∧ Ext W w
theorem IntsNew.ext {W w w' : World} {l : List Int} {v : Value} (h : IntsNew W l v w) (x : Ext w w') : IntsNew W l v w' := ⟨h.1, ElR.lift (h.2.1.old (x.old _)) x.size, h.2.2.trans x⟩
/-- What a run answered. -/
def RunNew (W : World) (P : PP) (l : List Int) (t : Value) (w : World) : Prop := (∃ a1 n1 c1 a2 n2 c2 a3 n3 c3 ev, t = .tuple #[.agg #[.slice a1 n1 c1, .slice a2 n2 c2, .slice a3 n3 c3], ev] ∧ RunOut P l W.heap.size w (.agg #[.slice a1 n1 c1, .slice a2 n2 c2, .slice a3 n3 c3]) ev) ∧ Ext W w
theorem RunNew.ext {W w w' : World} {P : PP} {l : List Int} {t : Value} (h : RunNew W P l t w) (x : Ext w w') : RunNew W P l t w' := by
  obtain ⟨⟨a1, n1, c1, a2, n2, c2, a3, n3, c3, ev, h1, h2⟩, h3⟩ := h
  exact ⟨⟨a1, n1, c1, a2, n2, c2, a3, n3, c3, ev, h1, h2.ext x⟩, h3.trans x⟩
/-- .. and where its state lies. -/
structure RunAt (W : World) (P : PP) (l : List Int) (b : Nat) (a1 a2 a3 : Option Addr) (n1 n2 n3 c1 c2 c3 : Nat) (ev : Value) (w : World) : Prop where
  blk : Blk w b #[.slice a1 n1 c1, .slice a2 n2 c2, .slice a3 n3 c3] 52
  out : RunOut P l W.heap.size w (.agg #[.slice a1 n1 c1, .slice a2 n2 c2, .slice a3 n3 c3]) ev
  ext : Ext W w
theorem RunAt.on {W w w' : World} {P : PP} {l : List Int} {b : Nat} {a1 a2 a3 : Option Addr} {n1 n2 n3 c1 c2 c3 : Nat} {ev : Value} (h : RunAt W P l b a1 a2 a3 n1 n2 n3 c1 c2 c3 ev w) (x : Ext w w') : RunAt W P l b a1 a2 a3 n1 n2 n3 c1 c2 c3 ev w' := ⟨h.blk.ext x, h.out.ext x, h.ext.trans x⟩

/-- The parts of a run's answer. -/
def tup0 : Value → Value
  | .tuple cs => cs.getD 0 undef
  | _ => undef
def tup1 : Value → Value
  | .tuple cs => cs.getD 1 undef
  | _ => undef
def IsTup (t : Value) : Prop := ∃ u v, t = .tuple #[u, v]
end Go.Proofs.YtoaoienfggjepaaGreatDoor



/- What run.Do answers, whole (with the state's rows, or the error to the letter). -/
namespace Go.Proofs.YtoaoienfggjepaaGreatDoor
set_option linter.unusedSimpArgs false
set_option linter.unusedVariables false
open Go Go.RowKit

theorem ErrIs.ext {ad : Nat → Addr} {P : PP} {w w' : World} {v : Value} (h : ErrIs ad P w v) (x : Ext w w') : ErrIs ad P w' v := by
  rcases h with h | h | ⟨h1, i, s, b, h2, h3, h4⟩
  · exact .inl h
  · exact .inr (.inl h)
  · exact .inr (.inr ⟨h1, i, s, b, h2, h3, h4.ext x⟩)
theorem RunNo.ext {ad : Nat → Addr} {P : PP} {l : List Int} {w w' : World} {v : Value} (h : RunNo ad P l w v) (x : Ext w w') : RunNo ad P l w' v := by
  rcases h with ⟨h1, h2⟩ | h | ⟨h1, h2, h3, i, b, h4, h5, h6⟩
  · exact .inl ⟨h1, h2.ext x⟩
  · exact .inr (.inl h)
  · exact .inr (.inr ⟨h1, h2, h3, i, b, h4, h5, h6.ext x⟩)
theorem RunNo.keep {X : Nat → Prop} {ad : Nat → Addr} {P : PP} {l : List Int} {w w' : World} {v : Value} (h : RunNo ad P l w v) (k : Keep X w w') (hX : ∀ i, X i → ∃ c, Blk w i c 52) : RunNo ad P l w' v := by
  rcases h with ⟨h1, h2⟩ | h | ⟨h1, h2, h3, i, b, h4, h5, h6⟩
  · exact .inl ⟨h1, h2.keep k hX⟩
  · exact .inr (.inl h)
  · exact .inr (.inr ⟨h1, h2, h3, i, b, h4, h5, h6.keep k fun e => by
      obtain ⟨d, hd⟩ := hX b e
      exact Blk.ty_ne h6 hd (by decide) rfl⟩)
theorem RnRows.keep {X : Nat → Prop} {w w' : World} {n0 : Nat} {vv tv pv : Value} {s : Rn} (h : RnRows w n0 vv tv pv s) (k : Keep X w w') (hX : ∀ i, X i → ∃ c, Blk w i c 52) : RnRows w' n0 vv tv pv s := by
  refine ⟨row_keep h.vars k fun i hi e => ?_, row_keep h.things k fun i hi e => ?_, row_keep h.places k fun i hi e => ?_⟩
  · obtain ⟨c, hc⟩ := own_ty h.vars hi
    obtain ⟨d, hd⟩ := hX i e
    exact Blk.ty_ne hc hd (by decide) rfl
  · obtain ⟨c, hc⟩ := own_ty h.things hi
    obtain ⟨d, hd⟩ := hX i e
    exact Blk.ty_ne hc hd (by decide) rfl
  · obtain ⟨c, hc⟩ := own_ty h.places hi
    obtain ⟨d, hd⟩ := hX i e
    exact Blk.ty_ne hc hd (by decide) rfl
/-- What run.Do answers. -/
def RdOut (ad : Nat → Addr) (P : PP) (l : List Int) (n0 : Nat) (w : World) (a1 a2 a3 : Option Addr) (m1 m2 m3 c1 c2 c3 : Nat) (ev : Value) : Prop :=
  (P.Runs l ∧ ev = .nilIface ∧ RnRows w n0 (.slice a1 m1 c1) (.slice a2 m2 c2) (.slice a3 m3 c3) (Rn.run P (l.map Int.toNat))) ∨
  (¬ P.Runs l ∧ m1 = 0 ∧ m2 = 0 ∧ m3 = 0 ∧ RunNo ad P l w ev)
theorem RdOut.ext {ad : Nat → Addr} {P : PP} {l : List Int} {n0 : Nat} {w w' : World} {a1 a2 a3 : Option Addr} {m1 m2 m3 c1 c2 c3 : Nat} {ev : Value} (h : RdOut ad P l n0 w a1 a2 a3 m1 m2 m3 c1 c2 c3 ev) (x : Ext w w') : RdOut ad P l n0 w' a1 a2 a3 m1 m2 m3 c1 c2 c3 ev := by
  rcases h with ⟨h1, h2, h3⟩ | ⟨h1, h2, h3, h4, h5⟩
  · exact .inl ⟨h1, h2, h3.ext x⟩
  · exact .inr ⟨h1, h2, h3, h4, h5.ext x⟩
theorem RdOut.keep {X : Nat → Prop} {ad : Nat → Addr} {P : PP} {l : List Int} {n0 : Nat} {w w' : World} {a1 a2 a3 : Option Addr} {m1 m2 m3 c1 c2 c3 : Nat} {ev : Value} (h : RdOut ad P l n0 w a1 a2 a3 m1 m2 m3 c1 c2 c3 ev) (k : Keep X w w') (hX : ∀ i, X i → ∃ c, Blk w i c 52) : RdOut ad P l n0 w' a1 a2 a3 m1 m2 m3 c1 c2 c3 ev := by
  rcases h with ⟨h1, h2, h3⟩ | ⟨h1, h2, h3, h4, h5⟩
  · exact .inl ⟨h1, h2, h3.keep k hX⟩
  · exact .inr ⟨h1, h2, h3, h4, h5.keep k hX⟩
end Go.Proofs.YtoaoienfggjepaaGreatDoor



/- calls.Alias: are two nodes one? -/
namespace Go.Proofs.YtoaoienfggjepaaGreatDoor
set_option linter.unusedSimpArgs false
set_option linter.unusedVariables false
open Go Go.RowKit

set_option maxRecDepth 100000 in
set_option maxHeartbeats 800000 in
theorem indexfi_al (b c0 : Value) (p : Int → Bool) (v : Value) (l : List Int) (w : World) (n0 : Nat) (h : IntsR w n0 v l) (hF : ∀ n w1, Ext w w1 → Calls Tryz.prog 63 #[.int .i64 n, b, c0] w1 fun e w' => e = .returned (.bool (p n)) ∧ Ext w1 w') :
    Calls Tryz.prog 67 #[v, .func (.func 63) #[] #[b, c0]] w fun e w' => ∃ r : Int, e = .returned (.int .i64 r) ∧ IdxF p l r ∧ Ext w w' := by
  have HS := hid h
  have HF := hid hF
  obtain ⟨a, cap, rfl, h2, h3, h4, _⟩ := h
  have H4 := hid h4
  have hml : (l.length : Int) ≤ 9223372036854775807 := by omega
  clear h2 h3 h4 hF
  go_enter Tryz.func67, Tryz.ntmps67
  go_wp2
  go_loopw [8] (fun t8 wr => ∃ k : Nat, t8 = .int .i64 (k : Int) ∧ k ≤ l.length ∧ (∀ j t, j < k → l[j]? = some t → p t = false) ∧ Ext w wr) (fun t8 _ => l.length - (intOf t8).toNat)
  case atStart => exact ⟨0, rfl, Nat.zero_le _, fun j t h => by omega, Ext.refl _⟩
  case round =>
    obtain ⟨k, rfl, hk, hne, hx⟩ := hrel
    have Hne := hid hne
    clear hne
    by_cases hlt : k < l.length
    · obtain ⟨y, rfl⟩ := H4.out (by omega)
      have hxk : l[k]? = some (l[k]'hlt) := List.getElem?_eq_getElem hlt
      obtain ⟨t, ht⟩ : ∃ t, t = l[k]'hlt := ⟨_, rfl⟩
      rw [← ht] at hxk
      obtain ⟨a', cap', h1, _, _, _, h5⟩ := HS.out.old (hx.old n0)
      obtain ⟨rfl, rfl⟩ : some y = a' ∧ cap = cap' := by simpa using h1
      have hc := (h5 y rfl (by omega)).2 k hlt t hxk
      have HN := hid (HF.out t wr hx)
      have Hxk := hid hxk
      have Hx := hid hx
      clear hxk ht h1 h5 hx
      go_wp2_with fail
      refine HN.out.mono ?_
      intro e w1 hx1
      obtain ⟨rfl, hx1⟩ := hx1
      have Hx1 := hid (Hx.out.trans hx1)
      clear HN hx1 Hx hc
      cases he : p t with
      | true =>
        have Hin := hid (show IdxF p l (k : Int) from .inr ⟨k, t, rfl, hlt, Hxk.out, he, Hne.out⟩)
        go_wp2
        go_ret
        exact ⟨(k : Int), rfl, Hin.out, Hx1.out⟩
      | false =>
        have Hf := hid he
        clear he
        go_wp2
        go_roundw
        case rel =>
          refine ⟨k + 1, by go_num, by omega, fun j u hj hu => ?_, Hx1.out⟩
          by_cases hjk : j = k
          · subst hjk
            obtain rfl := Option.some.inj (Hxk.out.symm.trans hu)
            exact Hf.out
          · exact Hne.out j u (by omega) hu
        case measure => simp [intOf]; omega
    · obtain rfl : k = l.length := by omega
      have Hx := hid hx
      clear hx
      have Hnot := hid (show IdxF p l (-1) from .inl ⟨rfl, fun x hx => by
        obtain ⟨j, hj, e2⟩ := List.mem_iff_getElem.1 hx
        exact Hne.out j x hj (by rw [List.getElem?_eq_getElem hj, e2])⟩)
      go_wp2
      go_ret
      exact ⟨(-1 : Int), rfl, Hnot.out, Hx.out⟩

set_option maxRecDepth 100000 in
set_option maxHeartbeats 800000 in
theorem containsfi_al (b c0 : Value) (p : Int → Bool) (v : Value) (l : List Int) (w : World) (n0 : Nat) (h : IntsR w n0 v l) (hF : ∀ n w1, Ext w w1 → Calls Tryz.prog 63 #[.int .i64 n, b, c0] w1 fun e w' => e = .returned (.bool (p n)) ∧ Ext w1 w') :
    Calls Tryz.prog 60 #[v, .func (.func 63) #[] #[b, c0]] w fun e w' => e = .returned (.bool (l.any p)) ∧ Ext w w' := by
  have H := hid (indexfi_al b c0 p v l w n0 h hF)
  obtain ⟨a, cap, rfl, h2, h3, _⟩ := h
  have hml : (l.length : Int) ≤ 9223372036854775807 := by omega
  clear hF
  go_enter Tryz.func60, Tryz.ntmps60
  go_wp2_with fail
  refine H.out.mono ?_
  intro e w1 hx
  obtain ⟨r, rfl, hr, hx⟩ := hx
  clear H
  rcases hr with ⟨rfl, hr⟩ | ⟨i, x, rfl, hi, hxi, hp, _⟩
  · have Hr := hid (show l.any p = false from List.any_eq_false.2 fun x hx => by rw [hr x hx]; simp)
    clear hr
    go_wp2
    go_ret
    exact ⟨by rw [Hr.out]; rfl, hx⟩
  · have Hr := hid (show l.any p = true from List.any_eq_true.2 ⟨x, List.mem_of_getElem? hxi, hp⟩)
    clear hp hxi
    go_wp2
    go_ret
    exact ⟨by rw [Hr.out]; rfl, hx⟩
def aliasV (S : List (List Int)) (x y : Nat) : Bool := (S.getD x []).any fun o => decide (o ∈ S.getD y [])
set_option maxRecDepth 100000 in
set_option maxHeartbeats 800000 in
theorem callsaliasc_any (gs gy : Nat) (ah : Option Addr) (ch : Nat) (S : List (List Int)) (y : Nat) (n : Int) (w : World) (n0 : Nat) (hB : Blk w gs #[.slice ah S.length ch] 44) (hY : Blk w gy #[.int .i64 (y : Int)] 3) (hh : SetsR w n0 (.slice ah S.length ch) S) (hy : y < S.length) :
    Calls Tryz.prog 63 #[.int .i64 n, .pointer (some ⟨gs, 0, none⟩), .pointer (some ⟨gy, 0, none⟩)] w fun e w' => e = .returned (.bool (decide (n ∈ S.getD y []))) ∧ Ext w w' := by
  have hhl := hh.len
  obtain ⟨z, l, bl, cl, rfl, hl, hc, hI⟩ := hh.at hy
  have e : S.getD y [] = l := by rw [List.getD_eq_getElem?_getD, hl]; rfl
  have H := hid (sethas_any (.slice bl l.length cl) l n w n0 hI)
  rw [e]
  have g0 := hB.av 0 rfl
  have g1 := hY.av 0 rfl
  simp only [List.getElem_toArray, List.getElem_cons_zero] at g0 g1
  generalize decide (n ∈ l) = d at *
  clear hB hY hh hl hI e
  go_enter Tryz.func63, Tryz.ntmps63
  go_wp2_with fail
  refine H.out.mono ?_
  intro e w1 hx
  obtain ⟨rfl, rfl⟩ := hx
  clear H g0 g1 hc
  go_wp2
  go_ret
  exact ⟨rfl, Ext.refl _⟩
set_option maxRecDepth 100000 in
set_option maxHeartbeats 1600000 in
theorem callsalias_no (a1 a2 a3 : Option Addr) (c1 c2 c3 : Nat) (P : PP) (x y : Int) (w : World) (n0 : Nat) (ad : Nat → Addr) (h : PS0 w n0 ad a1 a2 a3 c1 c2 c3 P) (hn : n0 ≤ w.heap.size) (hw : ¬ P.Well) :
    Calls Tryz.prog 24 #[pval a1 a2 a3 c1 c2 c3 P, .int .i64 x, .int .i64 y] w fun e w' => ∃ t z, e = .returned (.tuple #[.bool false, .iface t (.pointer (some z))]) ∧ ErrIs ad P w' (.iface t (.pointer (some z))) ∧ Ext w w' := by
  obtain ⟨W0, hW0⟩ : ∃ W0, W0 = w.alloc (.cells (pcells a1 a2 a3 c1 c2 c3 P) 39) := ⟨_, rfl⟩
  obtain ⟨W, hW⟩ : ∃ W, W = W0.alloc (.cells #[.int .i64 y] 3) := ⟨_, rfl⟩
  have hx0 : Ext w W0 := by rw [hW0]; exact (Ext.refl _).alloc _
  have hx1 : Ext W0 W := by rw [hW]; exact (Ext.refl _).alloc _
  have HX : Hid (Ext w W) := hid (hx0.trans hx1)
  have HBx : Hid (Blk W w.heap.size (pcells a1 a2 a3 c1 c2 c3 P) 39) := hid ((show Blk W0 w.heap.size (pcells a1 a2 a3 c1 c2 c3 P) 39 by rw [hW0]; exact Blk.new _ _ _).ext hx1)
  have HBy : Hid (Blk W W0.heap.size #[.int .i64 y] 3) := hid (by rw [hW]; exact Blk.new _ _ _)
  have HWe : Hid (W = (w.alloc (.cells #[.slice a1 P.vars.length c1, .slice a2 P.funs.length c2, .slice a3 P.stmts.length c3] 39)).alloc (.cells #[.int .i64 y] 3)) := hid (by rw [hW, hW0]; rfl)
  have HWs : Hid (W0.heap.size = w.heap.size + 1) := hid (by rw [hW0, heap_size_alloc])
  have d0 := HBx.out.av 0 rfl
  have d1 := HBx.out.av 1 rfl
  have d2 := HBx.out.av 2 rfl
  simp only [pcells, List.getElem_toArray, List.getElem_cons_zero, List.getElem_cons_succ] at d0 d1 d2
  rw [HWe.out] at d0 d1 d2
  have HL := hid (fixleast_no a1 a2 a3 c1 c2 c3 P W W.heap.size ad (h.on hn HX.out) hw)
  clear h hw
  unfold pval at HL ⊢
  clear hW0 hW hx0 hx1
  go_enter Tryz.func24, Tryz.ntmps24
  go_wp2_with fail
  rw [← HWe.out]
  refine HL.out.mono ?_
  intro e w1 hx
  obtain ⟨t, z, rfl, hei, hx1⟩ := hx
  have Hei := hid hei
  have Hx1 := hid (HX.out.trans hx1)
  have HG : Hid (Ext w1 (w1.alloc (.cells #[.slice none 0 0] 44))) := hid ((Ext.refl _).alloc _)
  clear HL hei hx1 d0 d1 d2
  go_wp2
  go_ret2
  exact ⟨t, z, rfl, Hei.out.ext HG.out, Hx1.out.trans HG.out⟩
set_option maxRecDepth 100000 in
set_option maxHeartbeats 1600000 in
theorem callsalias_out (a1 a2 a3 : Option Addr) (c1 c2 c3 : Nat) (P : PP) (x y : Int) (w : World) (ad : Nat → Addr) (h : PW w w.heap.size ad a1 a2 a3 c1 c2 c3 P) (hS : ErrS w ad) (n : Nat) (S : List (List Int)) (hL : LeastAt P n S) (hb : ¬ (0 ≤ x ∧ x < S.length ∧ 0 ≤ y ∧ y < S.length)) :
    Calls Tryz.prog 24 #[pval a1 a2 a3 c1 c2 c3 P, .int .i64 x, .int .i64 y] w fun e w' => e = .returned (.tuple #[.bool false, evOf ad 2]) ∧ Ext w w' := by
  have hS126 : S.length ≤ 126 := by
    have h1 := h.well.few
    have h2 := nodesV_le P h.well
    have := (hL.good h.well).2.1
    omega
  have HSl := hid (hL.good h.well).2.1
  obtain ⟨W0, hW0⟩ : ∃ W0, W0 = w.alloc (.cells (pcells a1 a2 a3 c1 c2 c3 P) 39) := ⟨_, rfl⟩
  obtain ⟨W, hW⟩ : ∃ W, W = W0.alloc (.cells #[.int .i64 y] 3) := ⟨_, rfl⟩
  have hx0 : Ext w W0 := by rw [hW0]; exact (Ext.refl _).alloc _
  have hx1 : Ext W0 W := by rw [hW]; exact (Ext.refl _).alloc _
  have HX : Hid (Ext w W) := hid (hx0.trans hx1)
  have HBx : Hid (Blk W w.heap.size (pcells a1 a2 a3 c1 c2 c3 P) 39) := hid ((show Blk W0 w.heap.size (pcells a1 a2 a3 c1 c2 c3 P) 39 by rw [hW0]; exact Blk.new _ _ _).ext hx1)
  have HBy : Hid (Blk W W0.heap.size #[.int .i64 y] 3) := hid (by rw [hW]; exact Blk.new _ _ _)
  have HWe : Hid (W = (w.alloc (.cells #[.slice a1 P.vars.length c1, .slice a2 P.funs.length c2, .slice a3 P.stmts.length c3] 39)).alloc (.cells #[.int .i64 y] 3)) := hid (by rw [hW, hW0]; rfl)
  have HWs : Hid (W0.heap.size = w.heap.size + 1) := hid (by rw [hW0, heap_size_alloc])
  have d0 := HBx.out.av 0 rfl
  have d1 := HBx.out.av 1 rfl
  have d2 := HBx.out.av 2 rfl
  simp only [pcells, List.getElem_toArray, List.getElem_cons_zero, List.getElem_cons_succ] at d0 d1 d2
  rw [HWe.out] at d0 d1 d2
  have HL := hid (fixleast_ok a1 a2 a3 c1 c2 c3 P W ad ((h.ext HX.out).lift HX.out.size) (hS.ext HX.out) n S hL)
  rw [← HSl.out] at HL
  have HE := hid (hS.ext HX.out)
  clear h hS hL
  unfold pval at HL ⊢
  clear hW0 hW hx0 hx1
  go_enter Tryz.func24, Tryz.ntmps24
  go_wp2_with fail
  rw [← HWe.out]
  refine HL.out.mono ?_
  intro e w1 hx
  obtain ⟨a, c, rfl, hs, hx1⟩ := hx
  obtain ⟨V, hV⟩ : ∃ V, V = w1.alloc (.cells #[.slice a S.length c] 44) := ⟨_, rfl⟩
  have hxV : Ext w1 V := by rw [hV]; exact (Ext.refl _).alloc _
  have HVe := hid hV
  have HBs : Hid (Blk V w1.heap.size #[.slice a S.length c] 44) := hid (by rw [hV]; exact Blk.new _ _ _)
  have HsV := hid ((hs.ext hxV).lift hxV.size)
  have Hx1 := hid (HX.out.trans (hx1.trans hxV))
  have HxV := hid (hx1.trans hxV)
  have y0 := (HBy.out.ext HxV.out).av 0 rfl
  have s0 := HBs.out.av 0 rfl
  simp only [List.getElem_toArray, List.getElem_cons_zero] at y0 s0
  rw [HWs.out] at y0
  rw [HVe.out] at y0 s0
  clear HL hs hx1 hxV hV d0 d1 d2
  have e0 : ∀ w2, Keep (fun _ => False) V w2 → w2.cell? ⟨0, 0, none⟩ = some (evOf ad 2) := fun w2 k => (HE.out.ext (HxV.out.trans k.ext)).at2
  rcases (by omega : x < 0 ∨ (0 ≤ x ∧ S.length ≤ x) ∨ (0 ≤ x ∧ x < S.length ∧ y < 0) ∨ (0 ≤ x ∧ x < S.length ∧ 0 ≤ y ∧ S.length ≤ y)) with hc | hc | hc | hc
  all_goals
    clear hb
    go_wp2
    rw [← HVe.out]
    refine wp_flowT (fun _ => False) (by kernel_rfl) (by kernel_rfl) ?_
    repeat (apply FlowT.d; (intro w1 hk; unfold does; go_simp; (try go_ints); (first | exact DetR.mk | (simp only [↓IntWalk.iteOmega, Oper.doesUpon_value]; exact DetR.mk) | (simp only [↓IntWalk.iteOmega]; go_simp; (try go_ints); exact DetR.mk))); simp only [Act.put, List.setIfInBounds_toArray, List.set_cons_zero, List.set_cons_succ])
    refine FlowT.fin fun w2 _ hk2 => ?_
    have Hx2 := hid (Hx1.out.trans hk2.ext)
    clear hk2 e0 y0 s0
    go_wp2
    go_ret2
    exact ⟨rfl, Hx2.out⟩
set_option maxRecDepth 100000 in
set_option maxHeartbeats 1600000 in
theorem callsalias_ok (a1 a2 a3 : Option Addr) (c1 c2 c3 : Nat) (P : PP) (x y : Nat) (w : World) (ad : Nat → Addr) (h : PW w w.heap.size ad a1 a2 a3 c1 c2 c3 P) (hS : ErrS w ad) (n : Nat) (S : List (List Int)) (hL : LeastAt P n S) (hxs : x < S.length) (hys : y < S.length) :
    Calls Tryz.prog 24 #[pval a1 a2 a3 c1 c2 c3 P, .int .i64 (x : Int), .int .i64 (y : Int)] w fun e w' => e = .returned (.tuple #[.bool (aliasV S x y), .nilIface]) ∧ Ext w w' := by
  have hS126 : S.length ≤ 126 := by
    have h1 := h.well.few
    have h2 := nodesV_le P h.well
    have := (hL.good h.well).2.1
    omega
  have HSl := hid (hL.good h.well).2.1
  obtain ⟨d, hd⟩ : ∃ d, d = aliasV S x y := ⟨_, rfl⟩
  rw [← hd]
  obtain ⟨W0, hW0⟩ : ∃ W0, W0 = w.alloc (.cells (pcells a1 a2 a3 c1 c2 c3 P) 39) := ⟨_, rfl⟩
  obtain ⟨W, hW⟩ : ∃ W, W = W0.alloc (.cells #[.int .i64 (y : Int)] 3) := ⟨_, rfl⟩
  have hx0 : Ext w W0 := by rw [hW0]; exact (Ext.refl _).alloc _
  have hx1 : Ext W0 W := by rw [hW]; exact (Ext.refl _).alloc _
  have HX : Hid (Ext w W) := hid (hx0.trans hx1)
  have HBx : Hid (Blk W w.heap.size (pcells a1 a2 a3 c1 c2 c3 P) 39) := hid ((show Blk W0 w.heap.size (pcells a1 a2 a3 c1 c2 c3 P) 39 by rw [hW0]; exact Blk.new _ _ _).ext hx1)
  have HBy : Hid (Blk W W0.heap.size #[.int .i64 (y : Int)] 3) := hid (by rw [hW]; exact Blk.new _ _ _)
  have HWe : Hid (W = (w.alloc (.cells #[.slice a1 P.vars.length c1, .slice a2 P.funs.length c2, .slice a3 P.stmts.length c3] 39)).alloc (.cells #[.int .i64 (y : Int)] 3)) := hid (by rw [hW, hW0]; rfl)
  have HWs : Hid (W0.heap.size = w.heap.size + 1) := hid (by rw [hW0, heap_size_alloc])
  have d0 := HBx.out.av 0 rfl
  have d1 := HBx.out.av 1 rfl
  have d2 := HBx.out.av 2 rfl
  simp only [pcells, List.getElem_toArray, List.getElem_cons_zero, List.getElem_cons_succ] at d0 d1 d2
  rw [HWe.out] at d0 d1 d2
  have HL := hid (fixleast_ok a1 a2 a3 c1 c2 c3 P W ad ((h.ext HX.out).lift HX.out.size) (hS.ext HX.out) n S hL)
  rw [← HSl.out] at HL
  have Hd := hid hd
  clear h hS hL hd
  unfold pval at HL ⊢
  clear hW0 hW hx0 hx1
  go_enter Tryz.func24, Tryz.ntmps24
  go_wp2_with fail
  rw [← HWe.out]
  refine HL.out.mono ?_
  intro e w1 hx
  obtain ⟨a, c, rfl, hs, hx1⟩ := hx
  obtain ⟨V, hV⟩ : ∃ V, V = w1.alloc (.cells #[.slice a S.length c] 44) := ⟨_, rfl⟩
  have hxV : Ext w1 V := by rw [hV]; exact (Ext.refl _).alloc _
  have HVe := hid hV
  have HBs : Hid (Blk V w1.heap.size #[.slice a S.length c] 44) := hid (by rw [hV]; exact Blk.new _ _ _)
  have HsV := hid ((hs.ext hxV).lift hxV.size)
  have Hx1 := hid (HX.out.trans (hx1.trans hxV))
  have HxV := hid (hx1.trans hxV)
  have y0 := (HBy.out.ext HxV.out).av 0 rfl
  have s0 := HBs.out.av 0 rfl
  simp only [List.getElem_toArray, List.getElem_cons_zero] at y0 s0
  rw [HWs.out] at y0
  rw [HVe.out] at y0 s0
  clear HL hs hx1 hxV hV d0 d1 d2
  obtain ⟨z, l, bl, cl, hz, hl, hc, hI⟩ := HsV.out.at hxs
  subst hz
  have hDl : S.getD x [] = l := by rw [List.getD_eq_getElem?_getD, hl]; rfl
  have HC := hid (containsfi_al (.pointer (some ⟨w1.heap.size, 0, none⟩)) (.pointer (some ⟨w.heap.size + 1, 0, none⟩)) (fun o => decide (o ∈ S.getD y [])) (.slice bl l.length cl) l V V.heap.size hI (fun n w2 x2 => callsaliasc_any w1.heap.size (w.heap.size + 1) _ c S y n w2 V.heap.size (HBs.out.ext x2) (by have := HBy.out.ext (HxV.out.trans x2); rw [HWs.out] at this; exact this) (HsV.out.ext x2) hys))
  have hd2 : (l.any fun o => decide (o ∈ S.getD y [])) = d := by rw [Hd.out]; unfold aliasV; rw [hDl]
  rw [hd2] at HC
  rw [HVe.out] at hc
  clear hI hl hd2 hDl
  go_wp2_with fail
  rw [← HVe.out]
  refine HC.out.mono ?_
  intro e w2 hx
  obtain ⟨rfl, hx2⟩ := hx
  have Hx2 := hid (Hx1.out.trans hx2)
  clear HC hx2 y0 s0 hc
  go_wp2
  go_ret2
  exact ⟨rfl, Hx2.out⟩
end Go.Proofs.YtoaoienfggjepaaGreatDoor



/- calls.called: the functions that a statement may call. -/
namespace Go.Proofs.YtoaoienfggjepaaGreatDoor
set_option linter.unusedSimpArgs false
set_option linter.unusedVariables false
open Go Go.RowKit

/-- Is an object a function that takes as many as come? -/
def PP.fitsV (P : PP) (x : PS) (o : Int) : Bool := decide (0 ≤ P.funV o) && decide ((P.funs.getD (P.funV o).toNat ⟨⟨#[]⟩, [], 0⟩).params.length = x.args.length)
def calledL (P : PP) (S : List (List Int)) (x : PS) : List Int := bif x.isK kCall then ((S.getD x.y.toNat []).filter (P.fitsV x)).map P.funV else []
theorem calledL_len {P : PP} {S : List (List Int)} (hg : P.GoodS S) (x : PS) : (calledL P S x).length ≤ 1000 := by
  unfold calledL
  cases x.isK kCall with
  | false => simp
  | true =>
    rw [cond_true, List.length_map]
    have h1 := List.length_filter_le (P.fitsV x) (S.getD x.y.toNat [])
    have h2 : (S.getD x.y.toNat []).length ≤ 1000 := by
      rw [List.getD_eq_getElem?_getD]
      cases hl : S[x.y.toNat]? with
      | none => simp
      | some l => exact srt_few (hg.ok.ok l (List.mem_of_getElem? hl)).1
    omega
set_option maxRecDepth 100000 in
set_option maxHeartbeats 3200000 in
theorem callscalled_any (a1 a2 a3 : Option Addr) (c1 c2 c3 : Nat) (P : PP) (ah : Option Addr) (ch : Nat) (S : List (List Int)) (k : Nat) (x : PS) (w : World) (n0 : Nat) (ad : Nat → Addr) (h : PW w n0 ad a1 a2 a3 c1 c2 c3 P) (hh : SetsR w n0 (.slice ah S.length ch) S) (hg : P.GoodS S) (hk : P.stmts[k]? = some x) (hn0 : n0 ≤ w.heap.size) :
    Calls Tryz.prog 75 #[pval a1 a2 a3 c1 c2 c3 P, .slice ah S.length ch, .int .i64 (k : Int)] w fun e w' => ∃ v, e = .returned v ∧ IRow w.heap.size w' v (calledL P S x) ∧ Ext w w' := by
  have hkl : k < P.stmts.length := by
    rcases Nat.lt_or_ge k P.stmts.length with g | g
    · exact g
    · rw [List.getElem?_eq_none g] at hk; cases hk
  obtain ⟨hf1, hf2, hf3⟩ := h.well.few
  have hgd := PP.good (h.well.2 k x hkl hk)
  obtain ⟨W, hW⟩ : ∃ W, W = w.alloc (.cells (pcells a1 a2 a3 c1 c2 c3 P) 39) := ⟨_, rfl⟩
  have hx1 : Ext w W := by rw [hW]; exact (Ext.refl _).alloc _
  obtain ⟨y, x', aa, ca, rfl, hxk', e0, e1, e2, e3, hIa⟩ := (h.prog.ext hx1).stmts.at hkl
  obtain rfl : x = x' := Option.some.inj (hk.symm.trans hxk')
  have hal := hIa.len
  obtain ⟨V, hV⟩ : ∃ V, V = W.alloc (.cells #[.string x.kind, .int .i64 x.x, .int .i64 x.y, .slice aa x.args.length ca] 48) := ⟨_, rfl⟩
  have hxV : Ext W V := by rw [hV]; exact (Ext.refl _).alloc _
  have sW : W.heap.size = w.heap.size + 1 := by rw [hW, heap_size_alloc]
  have HX : Hid (Ext w V) := hid (hx1.trans hxV)
  have HBp : Hid (Blk V w.heap.size (pcells a1 a2 (some y) c1 c2 c3 P) 39) := hid ((show Blk W w.heap.size (pcells a1 a2 (some y) c1 c2 c3 P) 39 by rw [hW]; exact Blk.new _ _ _).ext hxV)
  have HBs : Hid (Blk V (w.heap.size + 1) #[.string x.kind, .int .i64 x.x, .int .i64 x.y, .slice aa x.args.length ca] 48) := hid (by rw [← sW, hV]; exact Blk.new _ _ _)
  have d2 : W.cell? ⟨w.heap.size, 2, none⟩ = some (.slice (some y) P.stmts.length c3) := (show Blk W w.heap.size (pcells a1 a2 (some y) c1 c2 c3 P) 39 by rw [hW]; exact Blk.new _ _ _).av 2 rfl
  have HWe : Hid (W = w.alloc (.cells #[.slice a1 P.vars.length c1, .slice a2 P.funs.length c2, .slice (some y) P.stmts.length c3] 39)) := hid (by rw [hW]; rfl)
  have HVe : Hid (V = (w.alloc (.cells #[.slice a1 P.vars.length c1, .slice a2 P.funs.length c2, .slice (some y) P.stmts.length c3] 39)).alloc (.cells #[.string x.kind, .int .i64 x.x, .int .i64 x.y, .slice aa x.args.length ca] 48)) := hid (by rw [hV, hW]; rfl)
  have HPW := hid h
  have HG := hid hg
  have HH := hid hh
  have hhl := hh.len
  have s0 := HBs.out.av 0 rfl
  have s2 := HBs.out.av 2 rfl
  simp only [List.getElem_toArray, List.getElem_cons_zero, List.getElem_cons_succ] at s0 s2
  rw [HVe.out] at s0 s2
  rw [HWe.out] at d2 e0 e1 e2 e3
  unfold pval
  clear hW hx1 hxV hV sW hIa hxk' h hg hh
  cases hkc : (x.kind.toList == [99, 97, 108, 108]) with
  | false =>
    have Hr : Hid (calledL P S x = []) := hid (by unfold calledL PS.isK kCall; rw [hkc]; rfl)
    go_enter Tryz.func75, Tryz.ntmps75
    go_wp2
    rw [← HVe.out]
    go_ret
    exact ⟨_, rfl, by rw [Hr.out]; exact IRow.nil _ _, HX.out⟩
  | true =>
    have hyv := hgd.yv (isK_ne (k := kCall) hkc (by decide)) (isK_ne (k := kCall) hkc (by decide))
    obtain ⟨Y, hY⟩ := Int.eq_ofNat_of_zero_le hyv.1
    have hnv := nodes_vars P
    have hYl : Y < S.length := by have := HG.out.2.1; omega
    obtain ⟨z, l, bl, cl, hz, hl, hc, hI⟩ := (HH.out.ext HX.out).at hYl
    subst hz
    have hlk := (HG.out.ok.ok l (List.mem_of_getElem? hl))
    have hl1000 := srt_few hlk.1
    have Hin := hid (chkE_zero.1 hlk.1).1
    have Hr : Hid (calledL P S x = (l.filter (P.fitsV x)).map P.funV) := hid (by
      unfold calledL PS.isK kCall
      rw [hkc, hY, Int.toNat_natCast, List.getD_eq_getElem?_getD, hl]; rfl)
    have HI := hid hI
    have HPF := fun o w1 (x : Ext V w1) (ho : 0 ≤ o ∧ o < 1000) => hid (progfun_any a1 a2 (some y) c1 c2 c3 P o w1 n0 ad (HPW.out.ext (HX.out.trans x)) ho)
    have hc' := hc
    rw [hY] at e2 s2 s0
    have HVz : Hid (V = (w.alloc (.cells #[.slice a1 P.vars.length c1, .slice a2 P.funs.length c2, .slice (some y) P.stmts.length c3] 39)).alloc (.cells #[.string x.kind, .int .i64 x.x, .int .i64 (Y : Int), .slice aa x.args.length ca] 48)) := hid (by rw [HVe.out, hY])
    rw [HVz.out] at hc'
    unfold pval at HPF
    clear hl hI hlk hc hyv hnv
    go_enter Tryz.func75, Tryz.ntmps75
    go_wp2
    rw [← HVz.out]
    clear s0 s2 d2 e0 e1 e2 e3 hc'
    go_loopw [7, 26] (fun t7 t26 wr => ∃ (k : Nat) (M : List Int), t26 = .int .i64 (k : Int) ∧ k ≤ l.length ∧ M = ((l.take k).filter (P.fitsV x)).map P.funV ∧ M.length ≤ k ∧ IRow V.heap.size wr t7 M ∧ Ext V wr) (fun _ t26 _ => l.length - (intOf t26).toNat)
    case atStart => exact ⟨0, [], rfl, Nat.zero_le _, rfl, Nat.zero_le _, IRow.nil _ _, Ext.refl _⟩
    case round =>
      obtain ⟨k, M, rfl, hk2, hM, hMl, hr, hx⟩ := hrel
      obtain ⟨a7, c7, rfl⟩ := hr.form
      have Hr7 := hid hr
      have Hx := hid hx
      have HM := hid hM
      clear hr hx hM
      by_cases hlt : k < l.length
      · obtain ⟨yl, o, hyl, ho, hco⟩ := (HI.out.old (Hx.out.old n0)).at hlt
        subst hyl
        have hob := Hin.out o (List.mem_of_getElem? ho)
        have HF := HPF o wr Hx.out hob
        have hnext := take_filter (p := P.fitsV x) ho
        obtain ⟨F, hF⟩ : ∃ F, F = P.funV o := ⟨_, rfl⟩
        rw [← hF] at HF
        have HFe := hid hF
        have Hnext := hid hnext
        have d0 := (HBp.out.ext Hx.out).av 0 rfl
        have d1 := (HBp.out.ext Hx.out).av 1 rfl
        have d2 := (HBp.out.ext Hx.out).av 2 rfl
        simp only [pcells, List.getElem_toArray, List.getElem_cons_zero, List.getElem_cons_succ] at d0 d1 d2
        clear ho hob hF hnext
        go_wp2_with fail
        refine HF.out.mono ?_
        intro e w1 hx
        obtain ⟨rfl, hx1⟩ := hx
        have Hx1 := hid (Hx.out.trans hx1)
        have Hr1 := hid (Hr7.out.ext hx1)
        clear HF hx1 hco d0 d1 d2
        have d1 := (HBp.out.ext Hx1.out).kc (X := fun _ => False) (fun e => e) 1 rfl
        have m3 := (HBs.out.ext Hx1.out).kc (X := fun _ => False) (fun e => e) 3 rfl
        simp only [pcells, List.getElem_toArray, List.getElem_cons_zero, List.getElem_cons_succ] at d1 m3
        by_cases hF0 : 0 ≤ F
        · obtain ⟨N, rfl⟩ := Int.eq_ofNat_of_zero_le hF0
          have hN : N < P.funs.length := by have := funV_lt (P := P) (o := o) (by rw [← HFe.out]; exact hF0); rw [← HFe.out] at this; omega
          obtain ⟨yf, f, afp, cfp, hyf, hfk, g0, g1, g2, hIp⟩ := (HPW.out.prog.ext HX.out).funs.at hN
          subst hyf
          have hpl := hIp.len
          have f1 : ∀ wx, Keep (fun _ => False) w1 wx → wx.cell? ⟨(yf.add (N * 3)).block, (yf.add (N * 3)).off + 1, none⟩ = some (.slice afp f.params.length cfp) := fun wx kk => (Hx1.out.trans kk.ext).cellx g1
          have hfit : P.fitsV x o = decide (f.params.length = x.args.length) := by
            unfold PP.fitsV
            rw [← HFe.out, decide_eq_true hF0, Bool.true_and, Int.toNat_natCast, List.getD_eq_getElem?_getD, hfk]; rfl
          have Hfit := hid hfit
          clear hfk g0 g1 g2 hIp hfit
          by_cases heq : f.params.length = x.args.length
          · have hb : ((f.params.length : Int) == (x.args.length : Int)) = true := beq_iff_eq.2 (by omega)
            have Hn : Hid (((l.take (k + 1)).filter (P.fitsV x)).map P.funV = M ++ [(N : Int)]) := hid (by
              rw [Hnext.out, Hfit.out, decide_eq_true heq, if_pos rfl, List.map_append, ← HM.out, HFe.out]; rfl)
            clear heq
            go_wp2
            refine wp_flowT (fun _ => False) (by kernel_rfl) (by kernel_rfl) ?_
            repeat (apply FlowT.d; (intro w1 hk; unfold does; go_simp; (try go_ints); (first | exact DetR.mk | (simp only [↓IntWalk.iteOmega, Oper.doesUpon_value]; exact DetR.mk) | (simp only [↓IntWalk.iteOmega]; go_simp; (try go_ints); exact DetR.mk))); simp only [Act.put, List.setIfInBounds_toArray, List.set_cons_zero, List.set_cons_succ])
            refine FlowT.fin fun w2 _ hk3 => ?_
            have Hx2 := hid (Hx1.out.trans hk3.ext)
            have Hr2 := hid (Hr1.out.ext hk3.ext)
            clear hk3 f1 d1 m3 hb
            have hxa : Hid (Ext V (w2.alloc (.cells #[.int .i64 (N : Int)] 3))) := hid (Hx2.out.alloc _)
            have Hra : Hid (IRow V.heap.size (w2.alloc (.cells #[.int .i64 (N : Int)] 3)) (.slice a7 M.length c7) M) := hid (Hr2.out.ext ((Ext.refl _).alloc _))
            go_wp2_with (at_builtin; refine wpList_append_el V.heap.size hxa.out.size 22 3 (.int .i64 0) 1 8 Tryz.underlying22 ints_info rfl (by omega) (by omega) rfl _ _ rfl (.slice a7 M.length c7) M.length (icells M) rfl Hra.out w2.heap.size [.int .i64 (N : Int)] rfl (by simp [Value.oneCell']) rfl (Blk.new _ _ _) (by omega) ?_; intro v' w' h1 h2 h4; obtain ⟨a', c', rfl⟩ := row_form h1; have h3 := hid (Keep.new hxa.out h2 (fun k hk => (Hra.out.lt hk).1)); have h1 := hid h1; clear h2 h4)
            go_roundw
            case rel => exact ⟨k + 1, M ++ [(N : Int)], by go_num, by omega, Hn.out.symm, by rw [List.length_append]; simp; omega, by have := h1.out; unfold IRow; rw [icells_append, List.length_append]; exact this, h3.out⟩
            case measure => simp [intOf]; omega
          · have hb : ((f.params.length : Int) == (x.args.length : Int)) = false := beq_eq_false_iff_ne.2 (by omega)
            have Hn : Hid (((l.take (k + 1)).filter (P.fitsV x)).map P.funV = M) := hid (by
              rw [Hnext.out, Hfit.out, decide_eq_false heq, if_neg (by decide), List.append_nil, ← HM.out])
            clear heq
            go_wp2
            refine wp_flowT (fun _ => False) (by kernel_rfl) (by kernel_rfl) ?_
            repeat (apply FlowT.d; (intro w1 hk; unfold does; go_simp; (try go_ints); (first | exact DetR.mk | (simp only [↓IntWalk.iteOmega, Oper.doesUpon_value]; exact DetR.mk) | (simp only [↓IntWalk.iteOmega]; go_simp; (try go_ints); exact DetR.mk))); simp only [Act.put, List.setIfInBounds_toArray, List.set_cons_zero, List.set_cons_succ])
            refine FlowT.fin fun w2 _ hk3 => ?_
            have Hx2 := hid (Hx1.out.trans hk3.ext)
            have Hr2 := hid (Hr1.out.ext hk3.ext)
            clear hk3 f1 d1 m3 hb
            go_wp2
            go_roundw
            case rel => exact ⟨k + 1, M, by go_num, by omega, Hn.out.symm, by omega, Hr2.out, Hx2.out⟩
            case measure => simp [intOf]; omega
        · have Hn : Hid (((l.take (k + 1)).filter (P.fitsV x)).map P.funV = M) := hid (by
            have hfit : P.fitsV x o = false := by
              unfold PP.fitsV
              rw [← HFe.out, decide_eq_false hF0, Bool.false_and]
            rw [Hnext.out, hfit, if_neg (by decide), List.append_nil, ← HM.out])
          go_wp2
          refine wp_flowT (fun _ => False) (by kernel_rfl) (by kernel_rfl) ?_
          repeat (apply FlowT.d; (intro w1 hk; unfold does; go_simp; (try go_ints); (first | exact DetR.mk | (simp only [↓IntWalk.iteOmega, Oper.doesUpon_value]; exact DetR.mk) | (simp only [↓IntWalk.iteOmega]; go_simp; (try go_ints); exact DetR.mk))); simp only [Act.put, List.setIfInBounds_toArray, List.set_cons_zero, List.set_cons_succ])
          refine FlowT.fin fun w2 _ hk3 => ?_
          have Hx2 := hid (Hx1.out.trans hk3.ext)
          have Hr2 := hid (Hr1.out.ext hk3.ext)
          clear hk3 d1 m3
          go_wp2
          go_roundw
          case rel => exact ⟨k + 1, M, by go_num, by omega, Hn.out.symm, by omega, Hr2.out, Hx2.out⟩
          case measure => simp [intOf]; omega
      · obtain rfl : k = l.length := by omega
        have HEn : Hid (calledL P S x = M) := hid (by rw [Hr.out, HM.out, List.take_of_length_le (Nat.le_refl _)])
        go_wp2
        go_ret
        exact ⟨_, rfl, by rw [HEn.out]; exact own_low Hr7.out HX.out.size, HX.out.trans Hx.out⟩
end Go.Proofs.YtoaoienfggjepaaGreatDoor



/- Least answers: the reference's comparison of sets; the law's own small program. -/
namespace Go.Proofs.YtoaoienfggjepaaGreatDoor
set_option linter.unusedSimpArgs false
set_option linter.unusedVariables false
open Go Go.RowKit

theorem setok_few {l : List Int} (h : chkE l = 0) (i : Nat) : l.getD i 0 ≤ 9223372036854775807 := by
  rw [List.getD_eq_getElem?_getD]
  cases hx : l[i]? with
  | none => exact (by decide : (0 : Int) ≤ 9223372036854775807)
  | some x =>
    have := (chkE_zero.1 h).1 x (List.mem_of_getElem? hx)
    show x ≤ _
    omega
set_option maxRecDepth 100000 in
set_option maxHeartbeats 1600000 in
theorem samesets_any (va vb : Value) (A B : List (List Int)) (w : World) (n0 : Nat) (ha : SetsR w n0 va A) (hb : SetsR w n0 vb B) (ka : ∀ l ∈ A, chkE l = 0) (kb : ∀ l ∈ B, chkE l = 0) :
    Calls Tryz.prog 37 #[va, vb] w fun e w' => e = .returned (.bool (decide (A = B))) ∧ Ext w w' := by
  have hal := ha.len
  have hbl := hb.len
  have HA := hid ha
  have HB := hid hb
  have HKa := hid ka
  have HKb := hid kb
  obtain ⟨aa, ca, rfl⟩ := ha.form
  obtain ⟨ab, cb, rfl⟩ := hb.form
  clear ha hb ka kb
  by_cases hl : A.length = B.length
  · have Hl := hid hl
    have e0 : ((A.length : Int) != (B.length : Int)) = false := by rw [hl]; simp
    clear hl
    go_enter Tryz.func37, Tryz.ntmps37
    go_wp2
    clear e0
    go_loopw [5] (fun t5 wr => ∃ k : Nat, t5 = .int .i64 (k : Int) ∧ k ≤ A.length ∧ (∀ j, j < k → A[j]? = B[j]?) ∧ Ext w wr) (fun t5 _ => A.length - (intOf t5).toNat)
    case atStart => exact ⟨0, rfl, Nat.zero_le _, fun j h => by omega, Ext.refl _⟩
    case round =>
      obtain ⟨k, rfl, hk, hp, hx⟩ := hrel
      have Hp := hid hp
      have Hx := hid hx
      clear hp hx
      by_cases hlt : k < A.length
      · have hlt2 : k < B.length := by rw [← Hl.out]; exact hlt
        obtain ⟨ya, l, bl, cl, hya, hpk, hcp, hI⟩ := (HA.out.ext Hx.out).at hlt
        subst hya
        obtain ⟨yb, m, bm, cm, hyb, hqk, hcq, hI'⟩ := (HB.out.ext Hx.out).at hlt2
        subst hyb
        have hll := hI.len
        have hml := hI'.len
        have HC := fun w1 (x : Ext wr w1) => hid (sameints_any bl bm l.length m.length cl cm l m w1 (IntsR.ints (hI.old (x.old _)) (setok_few (HKa.out l (List.mem_of_getElem? hpk)))) (IntsR.ints (hI'.old (x.old _)) (setok_few (HKb.out m (List.mem_of_getElem? hqk)))) hll hml)
        have c0 : ∀ w1, Keep (fun _ => False) wr w1 → w1.cell? (ya.add k) = some (.slice bl l.length cl) := fun w1 k => k.ext.cellx hcp
        have c1 : ∀ w1, Keep (fun _ => False) wr w1 → w1.cell? (yb.add k) = some (.slice bm m.length cm) := fun w1 k => k.ext.cellx hcq
        obtain ⟨d, hd⟩ : ∃ d, d = decide (l = m) := ⟨_, rfl⟩
        rw [← hd] at HC
        have Hd := hid hd
        have Hpk := hid hpk
        have Hqk := hid hqk
        clear hpk hqk hI hI' hd hcp hcq
        go_wp2
        refine wp_flowT (fun _ => False) (by kernel_rfl) (by kernel_rfl) ?_
        repeat (apply FlowT.d; (intro w1 hk; unfold does; go_simp; (try go_ints); (first | exact DetR.mk | (simp only [↓IntWalk.iteOmega, Oper.doesUpon_value]; exact DetR.mk) | (simp only [↓IntWalk.iteOmega]; go_simp; (try go_ints); exact DetR.mk))); simp only [Act.put, List.setIfInBounds_toArray, List.set_cons_zero, List.set_cons_succ])
        apply FlowT.d
        · intro w1 hk
          unfold does
          go_simp
          exact CallR.det ((HC w1 hk.ext).out)
        simp only [Act.put, List.setIfInBounds_toArray, List.set_cons_zero, List.set_cons_succ]
        repeat (apply FlowT.d; (intro w1 hk; unfold does; go_simp; (try go_ints); (first | exact DetR.mk | (simp only [↓IntWalk.iteOmega, Oper.doesUpon_value]; exact DetR.mk) | (simp only [↓IntWalk.iteOmega]; go_simp; (try go_ints); exact DetR.mk))); simp only [Act.put, List.setIfInBounds_toArray, List.set_cons_zero, List.set_cons_succ])
        refine FlowT.fin fun w1 hx1 hk1 => ?_
        have Hx1 := hid (Hx.out.trans hx1)
        clear HC hx1 hk1 c0 c1
        cases d with
        | true =>
          have He : Hid (l = m) := hid (of_decide_eq_true Hd.out.symm)
          go_wp2
          go_roundw
          case rel =>
            refine ⟨k + 1, by go_num, by omega, fun j hj => ?_, Hx1.out⟩
            by_cases hjk : j = k
            · subst hjk; rw [Hpk.out, Hqk.out, He.out]
            · exact Hp.out j (by omega)
          case measure => simp [intOf]; omega
        | false =>
          have Hne : Hid (decide (A = B) = false) := hid (decide_eq_false fun h => (of_decide_eq_false Hd.out.symm) (by
            have h1 := Hpk.out
            rw [h] at h1
            exact Option.some.inj (h1.symm.trans Hqk.out)))
          go_wp2
          go_ret
          exact ⟨by rw [Hne.out]; rfl, Hx1.out⟩
      · have Heq : Hid (decide (A = B) = true) := hid (decide_eq_true (ext_take Hl.out fun j hj => Hp.out j (by omega)))
        obtain rfl : k = A.length := by omega
        go_wp2
        go_ret
        exact ⟨by rw [Heq.out]; rfl, Hx.out⟩
  · have e0 : ((A.length : Int) != (B.length : Int)) = true := bne_iff_ne.2 (fun h => hl (Int.ofNat_inj.1 h))
    have Hne : Hid (decide (A = B) = false) := hid (decide_eq_false fun h => hl (by rw [h]))
    clear hl
    go_enter Tryz.func37, Tryz.ntmps37
    go_wp2
    go_ret
    exact ⟨by rw [Hne.out]; rfl, Ext.refl _⟩

def fixedP : PP := ⟨[⟨#[97]⟩, ⟨#[98]⟩], [], [⟨⟨#[97, 100, 100, 114]⟩, 0, 1, []⟩, ⟨⟨#[99, 111, 112, 121]⟩, 1, 0, []⟩]⟩
def fixedS : Array Value := #[.string ⟨#[97, 100, 100, 114]⟩, .int .i64 0, .int .i64 1, .slice none 0 0, .string ⟨#[99, 111, 112, 121]⟩, .int .i64 1, .int .i64 0, .slice none 0 0]
end Go.Proofs.YtoaoienfggjepaaGreatDoor

