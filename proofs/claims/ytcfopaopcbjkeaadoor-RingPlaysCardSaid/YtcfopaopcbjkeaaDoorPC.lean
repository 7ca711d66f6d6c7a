
/- plain.Code walked: an error's number, and its place. -/
import Derived.Test.YtcfopaopcbjkeaaDoorAS
import Derived.Test.YtcfopaopcbjkeaaDoorSE
namespace Go.Proofs.YtcfopaopcbjkeaaDoor
set_option linter.unusedSimpArgs false
set_option linter.unusedVariables false
open Go Go.RowKit

/-- All errors lie as they were laid. -/
structure AllErrs (w : World) (ad : Nat → Addr) : Prop where
  var : ∀ c, 1 ≤ c ∧ c ≤ 11 → w.cell? ⟨gE c, 0, none⟩ = some (.iface 230 (.pointer (some (ad c))))
  row : ∀ c, 1 ≤ c ∧ c ≤ 11 → ∃ cs t, w.heap[(ad c).block]? = some (.cells cs t (0, 0))
  inj : ∀ c d, 1 ≤ c ∧ c ≤ 11 → 1 ≤ d ∧ d ≤ 11 → ad c = ad d → c = d
  ty : w.cell? ⟨11, 0, none⟩ = some (.iface 192 (.agg #[.pointer (some ⟨15, 26, none⟩)]))
theorem AllErrs.at1 {w : World} {ad : Nat → Addr} (h : AllErrs w ad) : w.cell? ⟨4, 0, none⟩ = some (.iface 230 (.pointer (some (ad 1)))) := h.var 1 (by omega)
theorem AllErrs.at2 {w : World} {ad : Nat → Addr} (h : AllErrs w ad) : w.cell? ⟨3, 0, none⟩ = some (.iface 230 (.pointer (some (ad 2)))) := h.var 2 (by omega)
theorem AllErrs.at3 {w : World} {ad : Nat → Addr} (h : AllErrs w ad) : w.cell? ⟨2, 0, none⟩ = some (.iface 230 (.pointer (some (ad 3)))) := h.var 3 (by omega)
theorem AllErrs.at4 {w : World} {ad : Nat → Addr} (h : AllErrs w ad) : w.cell? ⟨0, 0, none⟩ = some (.iface 230 (.pointer (some (ad 4)))) := h.var 4 (by omega)
theorem AllErrs.at5 {w : World} {ad : Nat → Addr} (h : AllErrs w ad) : w.cell? ⟨5, 0, none⟩ = some (.iface 230 (.pointer (some (ad 5)))) := h.var 5 (by omega)
theorem AllErrs.at6 {w : World} {ad : Nat → Addr} (h : AllErrs w ad) : w.cell? ⟨6, 0, none⟩ = some (.iface 230 (.pointer (some (ad 6)))) := h.var 6 (by omega)
theorem AllErrs.at7 {w : World} {ad : Nat → Addr} (h : AllErrs w ad) : w.cell? ⟨7, 0, none⟩ = some (.iface 230 (.pointer (some (ad 7)))) := h.var 7 (by omega)
theorem AllErrs.at8 {w : World} {ad : Nat → Addr} (h : AllErrs w ad) : w.cell? ⟨1, 0, none⟩ = some (.iface 230 (.pointer (some (ad 8)))) := h.var 8 (by omega)
theorem AllErrs.at9 {w : World} {ad : Nat → Addr} (h : AllErrs w ad) : w.cell? ⟨8, 0, none⟩ = some (.iface 230 (.pointer (some (ad 9)))) := h.var 9 (by omega)
theorem AllErrs.at10 {w : World} {ad : Nat → Addr} (h : AllErrs w ad) : w.cell? ⟨9, 0, none⟩ = some (.iface 230 (.pointer (some (ad 10)))) := h.var 10 (by omega)
theorem AllErrs.at11 {w : World} {ad : Nat → Addr} (h : AllErrs w ad) : w.cell? ⟨10, 0, none⟩ = some (.iface 230 (.pointer (some (ad 11)))) := h.var 11 (by omega)
theorem AllErrs.ext {w w' : World} {ad : Nat → Addr} (h : AllErrs w ad) (x : Ext w w') : AllErrs w' ad :=
  ⟨fun c hc => x.cellx (h.var c hc), fun c hc => by obtain ⟨cs, t, e⟩ := h.row c hc; exact ⟨cs, t, x.get e⟩, h.inj, x.cellx h.ty⟩
/-- What errors.Is tells of e: it is the one with the number c, or none. -/
def IsAs (w : World) (ad : Nat → Addr) (e : Value) (c : Nat) : Prop := ∀ w', Ext w w' → ∀ d, 1 ≤ d ∧ d ≤ 11 → Calls Tryd.prog 77 #[e, .iface 230 (.pointer (some (ad d)))] w' fun r w'' => r = .returned (.bool (decide (d = c))) ∧ w' = w''
theorem IsAs.sent {w : World} {ad : Nat → Addr} (h : AllErrs w ad) (c : Nat) (hc : 1 ≤ c ∧ c ≤ 11) : IsAs w ad (.iface 230 (.pointer (some (ad c)))) c := by
  intro w' x d hd
  by_cases e : d = c
  · subst e
    rw [decide_eq_true rfl]
    exact is_same (ad d) w'
  · rw [decide_eq_false e]
    have h' := h.ext x
    obtain ⟨c1, t1, e1⟩ := h'.row c hc
    obtain ⟨c2, t2, e2⟩ := h'.row d hd
    exact is_other (ad c) (ad d) c1 c2 t1 t2 w' (fun e' => e (h.inj d c hd hc e'.symm)) e1 e2
theorem IsAs.fault {w : World} {ad : Nat → Addr} (h : AllErrs w ad) (c : Nat) (hc : 1 ≤ c ∧ c ≤ 11) (b : Nat) (hb : w.cell? ⟨b, 1, none⟩ = some (.iface 230 (.pointer (some (ad c))))) : IsAs w ad (.iface 138 (.pointer (some ⟨b, 0, none⟩))) c := by
  intro w' x d hd
  by_cases e : d = c
  · subst e
    rw [decide_eq_true rfl]
    exact is_wrap_same b (ad d) w' (x.cellx hb)
  · rw [decide_eq_false e]
    have h' := h.ext x
    obtain ⟨c1, t1, e1⟩ := h'.row c hc
    obtain ⟨c2, t2, e2⟩ := h'.row d hd
    exact is_wrap_other b (ad d) (ad c) c1 c2 t1 t2 w' (x.cellx hb) (fun e' => e (h.inj d c hd hc e'.symm)) e1 e2
/-- One that is none of them. -/
theorem IsAs.none {w : World} {ad : Nat → Addr} (h : AllErrs w ad) (a : Addr) (ha : ∃ cs t, w.heap[a.block]? = some (.cells cs t (0, 0))) (hne : ∀ c, 1 ≤ c ∧ c ≤ 11 → a ≠ ad c) : IsAs w ad (.iface 230 (.pointer (some a))) 0 := by
  intro w' x d hd
  rw [decide_eq_false (by omega)]
  obtain ⟨c1, t1, e1⟩ := ha
  obtain ⟨c2, t2, e2⟩ := (h.ext x).row d hd
  exact is_other a (ad d) c1 c2 t1 t2 w' (hne d hd) (x.get e1) e2

def codeV (c : Nat) : Int := if c = 0 then -1 else c

set_option maxRecDepth 100000 in
set_option maxHeartbeats 400000 in
theorem code_nil (w : World) : Calls Tryd.prog 54 #[.nilIface] w fun e w' => e = .returned (.tuple #[.int .i64 0, .int .i64 (-1)]) ∧ w = w' := by
  go_enter Tryd.func54, Tryd.ntmps54
  go_wp2
  go_ret2
  exact ⟨rfl, rfl⟩


set_option maxRecDepth 100000 in
set_option maxHeartbeats 3200000 in
theorem code_sent (w : World) (ad : Nat → Addr) (h : AllErrs w ad) (x : Value) (c : Nat) (hc : c ≤ 11) (hi : IsAs w ad (.iface 230 x) c) :
    Calls Tryd.prog 54 #[.iface 230 x] w fun e w' => e = .returned (.tuple #[.int .i64 (codeV c), .int .i64 (-1)]) ∧ Ext w w' := by
  have hA := hid (as_miss x ⟨w.heap.size, 0, none⟩ (.pointer none) (w.alloc (.cells #[.pointer none] 138)) (((Ext.refl w).alloc _).cellx h.ty) (by simp) (by simp))
  go_enter Tryd.func54, Tryd.ntmps54
  go_wp2_with fail
  refine hA.out.mono ?_
  intro e w1 hx
  obtain ⟨rfl, hx1⟩ := hx
  replace hx1 := ((Ext.refl w).alloc _).trans hx1
  clear hA
  have g0 := (h.ext hx1).at1
  have g1 := (h.ext hx1).at2
  have g2 := (h.ext hx1).at3
  have g3 := (h.ext hx1).at4
  have g4 := (h.ext hx1).at5
  have g5 := (h.ext hx1).at6
  have g6 := (h.ext hx1).at7
  have g7 := (h.ext hx1).at8
  have g8 := (h.ext hx1).at9
  have g9 := (h.ext hx1).at10
  have g10 := (h.ext hx1).at11
  obtain ⟨W, hW⟩ : ∃ W, W = w1.alloc (.cells #[.iface 230 (.pointer (some (ad 1))), .iface 230 (.pointer (some (ad 2))), .iface 230 (.pointer (some (ad 3))), .iface 230 (.pointer (some (ad 4))), .iface 230 (.pointer (some (ad 5))), .iface 230 (.pointer (some (ad 6))), .iface 230 (.pointer (some (ad 7))), .iface 230 (.pointer (some (ad 8))), .iface 230 (.pointer (some (ad 9))), .iface 230 (.pointer (some (ad 10))), .iface 230 (.pointer (some (ad 11)))] 26) := ⟨_, rfl⟩
  have hcell : ∀ k, k < 11 → W.cell? ⟨w1.heap.size, k, none⟩ = some (.iface 230 (.pointer (some (ad (k + 1))))) := fun k hk => by
    have hB := Blk.new w1 #[.iface 230 (.pointer (some (ad 1))), .iface 230 (.pointer (some (ad 2))), .iface 230 (.pointer (some (ad 3))), .iface 230 (.pointer (some (ad 4))), .iface 230 (.pointer (some (ad 5))), .iface 230 (.pointer (some (ad 6))), .iface 230 (.pointer (some (ad 7))), .iface 230 (.pointer (some (ad 8))), .iface 230 (.pointer (some (ad 9))), .iface 230 (.pointer (some (ad 10))), .iface 230 (.pointer (some (ad 11)))] 26
    rw [← hW] at hB
    rw [hB.cell k]
    rcases (by omega : k = 0 ∨ k = 1 ∨ k = 2 ∨ k = 3 ∨ k = 4 ∨ k = 5 ∨ k = 6 ∨ k = 7 ∨ k = 8 ∨ k = 9 ∨ k = 10) with rfl | rfl | rfl | rfl | rfl | rfl | rfl | rfl | rfl | rfl | rfl <;> rfl
  have hX : Ext w W := by rw [hW]; exact hx1.alloc _
  have HW := hid hW
  have Hc := fun k hk => hid (hcell k hk)
  have HI := hid (hi _ hX)
  have Hx := hid hX
  clear hcell hW hX hi
  go_wp2
  rw [← HW.out]
  clear g0 g1 g2 g3 g4 g5 g6 g7 g8 g9 g10 HW h hx1
  generalize w1.heap.size = N at *
  go_loop [3, 29] (fun t3 t29 => ∃ k : Nat, t29 = .int .i64 (k : Int) ∧ k ≤ 11 ∧ t3 = .int .i64 (-1) ∧ ∀ d, 1 ≤ d → d ≤ k → d ≠ c) (fun _ t29 => 11 - (intOf t29).toNat)
  case atStart => exact ⟨0, rfl, Nat.zero_le _, rfl, fun d h1 h2 => by omega⟩
  case round =>
    obtain ⟨k, rfl, hk, rfl, hne⟩ := hrel
    have Hne := hid hne
    clear hne
    by_cases hlt : k < 11
    · have hck := (Hc k hlt).out
      have hcall := hid (HI.out (k + 1) (by omega))
      by_cases he : k + 1 = c
      · have hcv : Hid (codeV c = (k : Int) + 1) := hid (by unfold codeV; rw [if_neg (by omega)]; omega)
        rw [decide_eq_true he] at hcall
        clear he
        have hlt2 : (k : Int) < 11 := by omega
        go_wp2_with fail
        refine hcall.out.mono ?_
        rintro e w3 ⟨rfl, rfl⟩
        go_wp2
        go_ret2
        exact ⟨by rw [hcv.out]; rfl, Hx.out⟩
      · rw [decide_eq_false he] at hcall
        have hlt2 : (k : Int) < 11 := by omega
        have He := hid he
        clear he
        go_wp2_with fail
        refine hcall.out.mono ?_
        rintro e w3 ⟨rfl, rfl⟩
        go_wp2
        go_round
        case rel => exact ⟨k + 1, by go_num, by omega, rfl, fun d h1 h2 => by
          by_cases hd : d = k + 1
          · rw [hd]; exact He.out
          · exact Hne.out d h1 (by omega)⟩
        case measure => simp [intOf]; omega
    · obtain rfl : k = 11 := by omega
      have hcv : Hid (codeV c = -1) := hid (by
        unfold codeV
        rw [if_pos]
        rcases Nat.eq_zero_or_pos c with h0 | h0
        · exact h0
        · exact absurd rfl (Hne.out c h0 hc))
      go_wp2
      go_ret2
      exact ⟨by rw [hcv.out]; rfl, Hx.out⟩

set_option maxRecDepth 100000 in
set_option maxHeartbeats 3200000 in
/-- A fault's code, and its place. -/
theorem code_fault (w : World) (ad : Nat → Addr) (h : AllErrs w ad) (b : Nat) (pl : Int) (c : Nat) (hc : c ≤ 11) (hpl : w.cell? ⟨b, 0, none⟩ = some (.int .i64 pl)) (hi : IsAs w ad (.iface 138 (.pointer (some ⟨b, 0, none⟩))) c) :
    Calls Tryd.prog 54 #[.iface 138 (.pointer (some ⟨b, 0, none⟩))] w fun e w' => e = .returned (.tuple #[.int .i64 (codeV c), .int .i64 pl]) ∧ Ext w w' := by
  have hA := hid (as_hit ⟨b, 0, none⟩ ⟨w.heap.size, 0, none⟩ (.pointer none) (w.alloc (.cells #[.pointer none] 138)) (((Ext.refl w).alloc _).cellx h.ty) (by simp) (by simp))
  go_enter Tryd.func54, Tryd.ntmps54
  go_wp2_with fail
  refine hA.out.mono ?_
  intro e w1 hx
  obtain ⟨rfl, hw1⟩ := hx
  have h3 := ((((Ext.refl (w.alloc (.cells #[.pointer none] 138))).alloc (.cells #[.pointer (some ⟨w.heap.size, 0, none⟩)] 152)).alloc (.cells #[.pointer (some ⟨15, 152, none⟩), .pointer (some ⟨(w.alloc (.cells #[.pointer none] 138)).heap.size, 0, none⟩), .int .u64 150] 174)).alloc (.cells #[.pointer (some ⟨15, 152, none⟩), .pointer (some ⟨(w.alloc (.cells #[.pointer none] 138)).heap.size, 0, none⟩), .int .u64 150] 174)).alloc (.cells #[.pointer (some ⟨b, 0, none⟩)] 138)
  have hB := ((Blk.new w #[.pointer none] 138).ext h3).set 0 (.pointer (some ⟨b, 0, none⟩))
  have hx1 : Ext w w1 := by
    rw [hw1]
    exact Keep.new (((Ext.refl w).alloc _).trans h3) (Keep.set (X := fun n => n = w.heap.size) (Keep.refl _ _) rfl _) fun n hn => by omega
  rw [← hw1] at hB
  have ht : w1.cell? ⟨w.heap.size, 0, none⟩ = some (.pointer (some ⟨b, 0, none⟩)) := (hB.cell 0).trans rfl
  have hp1 := hx1.cellx hpl
  clear hA hw1 h3 hB
  have g0 := (h.ext hx1).at1
  have g1 := (h.ext hx1).at2
  have g2 := (h.ext hx1).at3
  have g3 := (h.ext hx1).at4
  have g4 := (h.ext hx1).at5
  have g5 := (h.ext hx1).at6
  have g6 := (h.ext hx1).at7
  have g7 := (h.ext hx1).at8
  have g8 := (h.ext hx1).at9
  have g9 := (h.ext hx1).at10
  have g10 := (h.ext hx1).at11
  obtain ⟨W, hW⟩ : ∃ W, W = w1.alloc (.cells #[.iface 230 (.pointer (some (ad 1))), .iface 230 (.pointer (some (ad 2))), .iface 230 (.pointer (some (ad 3))), .iface 230 (.pointer (some (ad 4))), .iface 230 (.pointer (some (ad 5))), .iface 230 (.pointer (some (ad 6))), .iface 230 (.pointer (some (ad 7))), .iface 230 (.pointer (some (ad 8))), .iface 230 (.pointer (some (ad 9))), .iface 230 (.pointer (some (ad 10))), .iface 230 (.pointer (some (ad 11)))] 26) := ⟨_, rfl⟩
  have hcell : ∀ k, k < 11 → W.cell? ⟨w1.heap.size, k, none⟩ = some (.iface 230 (.pointer (some (ad (k + 1))))) := fun k hk => by
    have hB := Blk.new w1 #[.iface 230 (.pointer (some (ad 1))), .iface 230 (.pointer (some (ad 2))), .iface 230 (.pointer (some (ad 3))), .iface 230 (.pointer (some (ad 4))), .iface 230 (.pointer (some (ad 5))), .iface 230 (.pointer (some (ad 6))), .iface 230 (.pointer (some (ad 7))), .iface 230 (.pointer (some (ad 8))), .iface 230 (.pointer (some (ad 9))), .iface 230 (.pointer (some (ad 10))), .iface 230 (.pointer (some (ad 11)))] 26
    rw [← hW] at hB
    rw [hB.cell k]
    rcases (by omega : k = 0 ∨ k = 1 ∨ k = 2 ∨ k = 3 ∨ k = 4 ∨ k = 5 ∨ k = 6 ∨ k = 7 ∨ k = 8 ∨ k = 9 ∨ k = 10) with rfl | rfl | rfl | rfl | rfl | rfl | rfl | rfl | rfl | rfl | rfl <;> rfl
  have hX : Ext w W := by rw [hW]; exact hx1.alloc _
  have HW := hid hW
  have Hc := fun k hk => hid (hcell k hk)
  have HI := hid (hi _ hX)
  have Hx := hid hX
  clear hcell hW hX hi
  go_wp2
  rw [← HW.out]
  clear g0 g1 g2 g3 g4 g5 g6 g7 g8 g9 g10 HW h hx1
  generalize w1.heap.size = N at *
  go_loop [3, 29] (fun t3 t29 => ∃ k : Nat, t29 = .int .i64 (k : Int) ∧ k ≤ 11 ∧ t3 = .int .i64 pl ∧ ∀ d, 1 ≤ d → d ≤ k → d ≠ c) (fun _ t29 => 11 - (intOf t29).toNat)
  case atStart => exact ⟨0, rfl, Nat.zero_le _, rfl, fun d h1 h2 => by omega⟩
  case round =>
    obtain ⟨k, rfl, hk, rfl, hne⟩ := hrel
    have Hne := hid hne
    clear hne
    by_cases hlt : k < 11
    · have hck := (Hc k hlt).out
      have hcall := hid (HI.out (k + 1) (by omega))
      by_cases he : k + 1 = c
      · have hcv : Hid (codeV c = (k : Int) + 1) := hid (by unfold codeV; rw [if_neg (by omega)]; omega)
        rw [decide_eq_true he] at hcall
        clear he
        have hlt2 : (k : Int) < 11 := by omega
        go_wp2_with fail
        refine hcall.out.mono ?_
        rintro e w3 ⟨rfl, rfl⟩
        go_wp2
        go_ret2
        exact ⟨by rw [hcv.out]; rfl, Hx.out⟩
      · rw [decide_eq_false he] at hcall
        have hlt2 : (k : Int) < 11 := by omega
        have He := hid he
        clear he
        go_wp2_with fail
        refine hcall.out.mono ?_
        rintro e w3 ⟨rfl, rfl⟩
        go_wp2
        go_round
        case rel => exact ⟨k + 1, by go_num, by omega, rfl, fun d h1 h2 => by
          by_cases hd : d = k + 1
          · rw [hd]; exact He.out
          · exact Hne.out d h1 (by omega)⟩
        case measure => simp [intOf]; omega
    · obtain rfl : k = 11 := by omega
      have hcv : Hid (codeV c = -1) := hid (by
        unfold codeV
        rw [if_pos]
        rcases Nat.eq_zero_or_pos c with h0 | h0
        · exact h0
        · exact absurd rfl (Hne.out c h0 hc))
      go_wp2
      go_ret2
      exact ⟨by rw [hcv.out]; rfl, Hx.out⟩
end Go.Proofs.YtcfopaopcbjkeaaDoor
