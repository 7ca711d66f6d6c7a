/- plain.Code walked: an error's number, and its place. -/
import Derived.Test.YtmdcjfgdmmncpaaDoorAS
import Derived.Test.YtmdcjfgdmmncpaaDoorSE
namespace Go.Proofs.YtmdcjfgdmmncpaaDoor
set_option linter.unusedSimpArgs false
set_option linter.unusedVariables false
open Go Go.RowKit

/-- All errors lie as they were laid. -/
structure AllErrs (w : World) (ad : Nat → Addr) : Prop where
  var : ∀ c, 1 ≤ c ∧ c ≤ 11 → w.cell? ⟨c - 1, 0, none⟩ = some (.iface 134 (.pointer (some (ad c))))
  row : ∀ c, 1 ≤ c ∧ c ≤ 11 → ∃ cs t, w.heap[(ad c).block]? = some (.cells cs t (0, 0))
  inj : ∀ c d, 1 ≤ c ∧ c ≤ 11 → 1 ≤ d ∧ d ≤ 11 → ad c = ad d → c = d
  ty : w.cell? ⟨11, 0, none⟩ = some (.iface 173 (.agg #[.pointer (some ⟨12, 27, none⟩)]))
theorem AllErrs.ext {w w' : World} {ad : Nat → Addr} (h : AllErrs w ad) (x : Ext w w') : AllErrs w' ad :=
  ⟨fun c hc => x.cellx (h.var c hc), fun c hc => by obtain ⟨cs, t, e⟩ := h.row c hc; exact ⟨cs, t, x.get e⟩, h.inj, x.cellx h.ty⟩
/-- What errors.Is tells of e: it is the one with the number c, or none. -/
def IsAs (w : World) (ad : Nat → Addr) (e : Value) (c : Nat) : Prop := ∀ w', Ext w w' → ∀ d, 1 ≤ d ∧ d ≤ 11 → Calls Tryd.prog 72 #[e, .iface 134 (.pointer (some (ad d)))] w' fun r w'' => r = .returned (.bool (decide (d = c))) ∧ w' = w''
theorem IsAs.sent {w : World} {ad : Nat → Addr} (h : AllErrs w ad) (c : Nat) (hc : 1 ≤ c ∧ c ≤ 11) : IsAs w ad (.iface 134 (.pointer (some (ad c)))) c := by
  intro w' x d hd
  by_cases e : d = c
  · subst e
    rw [decide_eq_true rfl]
    exact is_same (ad d) w'
  · rw [decide_eq_false e]
    have h' := h.ext x
    obtain ⟨c1, t1, e1⟩ := h'.row c hc
    obtain ⟨c2, t2, e2⟩ := h'.row d hd
    exact is_other (ad c) (ad d) c1 c2 t1 t2 w' (fun e' => e (h.inj d c hd hc e'.symm)) e1 e2
theorem IsAs.fault {w : World} {ad : Nat → Addr} (h : AllErrs w ad) (c : Nat) (hc : 1 ≤ c ∧ c ≤ 11) (b : Nat) (hb : w.cell? ⟨b, 1, none⟩ = some (.iface 134 (.pointer (some (ad c))))) : IsAs w ad (.iface 58 (.pointer (some ⟨b, 0, none⟩))) c := by
  intro w' x d hd
  by_cases e : d = c
  · subst e
    rw [decide_eq_true rfl]
    exact is_wrap_same b (ad d) w' (x.cellx hb)
  · rw [decide_eq_false e]
    have h' := h.ext x
    obtain ⟨c1, t1, e1⟩ := h'.row c hc
    obtain ⟨c2, t2, e2⟩ := h'.row d hd
    exact is_wrap_other b (ad d) (ad c) c1 c2 t1 t2 w' (x.cellx hb) (fun e' => e (h.inj d c hd hc e'.symm)) e1 e2
/-- One that is none of them. -/
theorem IsAs.none {w : World} {ad : Nat → Addr} (h : AllErrs w ad) (a : Addr) (ha : ∃ cs t, w.heap[a.block]? = some (.cells cs t (0, 0))) (hne : ∀ c, 1 ≤ c ∧ c ≤ 11 → a ≠ ad c) : IsAs w ad (.iface 134 (.pointer (some a))) 0 := by
  intro w' x d hd
  rw [decide_eq_false (by omega)]
  obtain ⟨c1, t1, e1⟩ := ha
  obtain ⟨c2, t2, e2⟩ := (h.ext x).row d hd
  exact is_other a (ad d) c1 c2 t1 t2 w' (hne d hd) (x.get e1) e2

def codeV (c : Nat) : Int := if c = 0 then -1 else c

set_option maxRecDepth 100000 in
set_option maxHeartbeats 400000 in
theorem code_nil (w : World) : Calls Tryd.prog 34 #[.nilIface] w fun e w' => e = .returned (.tuple #[.int .i64 0, .int .i64 (-1)]) ∧ w = w' := by
  go_enter Tryd.func34, Tryd.ntmps34
  go_wp2
  go_ret2
  exact ⟨rfl, rfl⟩


set_option maxRecDepth 100000 in
set_option maxHeartbeats 3200000 in
theorem code_sent (w : World) (ad : Nat → Addr) (h : AllErrs w ad) (x : Value) (c : Nat) (hc : c ≤ 11) (hi : IsAs w ad (.iface 134 x) c) :
    Calls Tryd.prog 34 #[.iface 134 x] w fun e w' => e = .returned (.tuple #[.int .i64 (codeV c), .int .i64 (-1)]) ∧ Ext w w' := by
  have hA := hid (as_miss x ⟨w.heap.size, 0, none⟩ (.pointer none) (w.alloc (.cells #[.pointer none] 58)) (((Ext.refl w).alloc _).cellx h.ty) (by simp) (by simp))
  go_enter Tryd.func34, Tryd.ntmps34
  go_wp2_with fail
  refine hA.out.mono ?_
  intro e w1 hx
  obtain ⟨rfl, hx1⟩ := hx
  replace hx1 := ((Ext.refl w).alloc _).trans hx1
  clear hA
  have g0 := (h.ext hx1).var 1 (by omega)
  have g1 := (h.ext hx1).var 2 (by omega)
  have g2 := (h.ext hx1).var 3 (by omega)
  have g3 := (h.ext hx1).var 4 (by omega)
  have g4 := (h.ext hx1).var 5 (by omega)
  have g5 := (h.ext hx1).var 6 (by omega)
  have g6 := (h.ext hx1).var 7 (by omega)
  have g7 := (h.ext hx1).var 8 (by omega)
  have g8 := (h.ext hx1).var 9 (by omega)
  have g9 := (h.ext hx1).var 10 (by omega)
  have g10 := (h.ext hx1).var 11 (by omega)
  simp only [Nat.sub_self, Nat.reduceSub] at g0 g1 g2 g3 g4 g5 g6 g7 g8 g9 g10
  obtain ⟨W, hW⟩ : ∃ W, W = w1.alloc (.cells #[.iface 134 (.pointer (some (ad 1))), .iface 134 (.pointer (some (ad 2))), .iface 134 (.pointer (some (ad 3))), .iface 134 (.pointer (some (ad 4))), .iface 134 (.pointer (some (ad 5))), .iface 134 (.pointer (some (ad 6))), .iface 134 (.pointer (some (ad 7))), .iface 134 (.pointer (some (ad 8))), .iface 134 (.pointer (some (ad 9))), .iface 134 (.pointer (some (ad 10))), .iface 134 (.pointer (some (ad 11)))] 27) := ⟨_, rfl⟩
  have hcell : ∀ k, k < 11 → W.cell? ⟨w1.heap.size, k, none⟩ = some (.iface 134 (.pointer (some (ad (k + 1))))) := fun k hk => by
    have hB := Blk.new w1 #[.iface 134 (.pointer (some (ad 1))), .iface 134 (.pointer (some (ad 2))), .iface 134 (.pointer (some (ad 3))), .iface 134 (.pointer (some (ad 4))), .iface 134 (.pointer (some (ad 5))), .iface 134 (.pointer (some (ad 6))), .iface 134 (.pointer (some (ad 7))), .iface 134 (.pointer (some (ad 8))), .iface 134 (.pointer (some (ad 9))), .iface 134 (.pointer (some (ad 10))), .iface 134 (.pointer (some (ad 11)))] 27
    rw [← hW] at hB
    rw [hB.cell k]
    rcases (by omega : k = 0 ∨ k = 1 ∨ k = 2 ∨ k = 3 ∨ k = 4 ∨ k = 5 ∨ k = 6 ∨ k = 7 ∨ k = 8 ∨ k = 9 ∨ k = 10) with rfl | rfl | rfl | rfl | rfl | rfl | rfl | rfl | rfl | rfl | rfl <;> rfl
  have hX : Ext w W := by rw [hW]; exact hx1.alloc _
  have HW := hid hW
  have Hc := fun k hk => hid (hcell k hk)
  have HI := hid (hi _ hX)
  have Hx := hid hX
  clear hcell hW hX hi
  go_wp2
  rw [← HW.out]
  clear g0 g1 g2 g3 g4 g5 g6 g7 g8 g9 g10 HW h hx1
  generalize w1.heap.size = N at *
  go_loop [3, 29] (fun t3 t29 => ∃ k : Nat, t29 = .int .i64 (k : Int) ∧ k ≤ 11 ∧ t3 = .int .i64 (-1) ∧ ∀ d, 1 ≤ d → d ≤ k → d ≠ c) (fun _ t29 => 11 - (intOf t29).toNat)
  case atStart => exact ⟨0, rfl, Nat.zero_le _, rfl, fun d h1 h2 => by omega⟩
  case round =>
    obtain ⟨k, rfl, hk, rfl, hne⟩ := hrel
    have Hne := hid hne
    clear hne
    by_cases hlt : k < 11
    · have hck := (Hc k hlt).out
      have hcall := hid (HI.out (k + 1) (by omega))
      by_cases he : k + 1 = c
      · have hcv : Hid (codeV c = (k : Int) + 1) := hid (by unfold codeV; rw [if_neg (by omega)]; omega)
        rw [decide_eq_true he] at hcall
        clear he
        have hlt2 : (k : Int) < 11 := by omega
        go_wp2_with fail
        refine hcall.out.mono ?_
        rintro e w3 ⟨rfl, rfl⟩
        go_wp2
        go_ret2
        exact ⟨by rw [hcv.out]; rfl, Hx.out⟩
      · rw [decide_eq_false he] at hcall
        have hlt2 : (k : Int) < 11 := by omega
        have He := hid he
        clear he
        go_wp2_with fail
        refine hcall.out.mono ?_
        rintro e w3 ⟨rfl, rfl⟩
        go_wp2
        go_round
        case rel => exact ⟨k + 1, by go_num, by omega, rfl, fun d h1 h2 => by
          by_cases hd : d = k + 1
          · rw [hd]; exact He.out
          · exact Hne.out d h1 (by omega)⟩
        case measure => simp [intOf]; omega
    · obtain rfl : k = 11 := by omega
      have hcv : Hid (codeV c = -1) := hid (by
        unfold codeV
        rw [if_pos]
        rcases Nat.eq_zero_or_pos c with h0 | h0
        · exact h0
        · exact absurd rfl (Hne.out c h0 hc))
      go_wp2
      go_ret2
      exact ⟨by rw [hcv.out]; rfl, Hx.out⟩

set_option maxRecDepth 100000 in
set_option maxHeartbeats 3200000 in
/-- A fault's code, and its place. -/
theorem code_fault (w : World) (ad : Nat → Addr) (h : AllErrs w ad) (b : Nat) (pl : Int) (c : Nat) (hc : c ≤ 11) (hpl : w.cell? ⟨b, 0, none⟩ = some (.int .i64 pl)) (hi : IsAs w ad (.iface 58 (.pointer (some ⟨b, 0, none⟩))) c) :
    Calls Tryd.prog 34 #[.iface 58 (.pointer (some ⟨b, 0, none⟩))] w fun e w' => e = .returned (.tuple #[.int .i64 (codeV c), .int .i64 pl]) ∧ Ext w w' := by
  have hA := hid (as_hit ⟨b, 0, none⟩ ⟨w.heap.size, 0, none⟩ (.pointer none) (w.alloc (.cells #[.pointer none] 58)) (((Ext.refl w).alloc _).cellx h.ty) (by simp) (by simp))
  go_enter Tryd.func34, Tryd.ntmps34
  go_wp2_with fail
  refine hA.out.mono ?_
  intro e w1 hx
  obtain ⟨rfl, hw1⟩ := hx
  have h3 := ((((Ext.refl (w.alloc (.cells #[.pointer none] 58))).alloc (.cells #[.pointer (some ⟨w.heap.size, 0, none⟩)] 132)).alloc (.cells #[.pointer (some ⟨12, 132, none⟩), .pointer (some ⟨(w.alloc (.cells #[.pointer none] 58)).heap.size, 0, none⟩), .int .u64 150] 154)).alloc (.cells #[.pointer (some ⟨12, 132, none⟩), .pointer (some ⟨(w.alloc (.cells #[.pointer none] 58)).heap.size, 0, none⟩), .int .u64 150] 154)).alloc (.cells #[.pointer (some ⟨b, 0, none⟩)] 58)
  have hB := ((Blk.new w #[.pointer none] 58).ext h3).set 0 (.pointer (some ⟨b, 0, none⟩))
  have hx1 : Ext w w1 := by
    rw [hw1]
    exact Keep.new (((Ext.refl w).alloc _).trans h3) (Keep.set (X := fun n => n = w.heap.size) (Keep.refl _ _) rfl _) fun n hn => by omega
  rw [← hw1] at hB
  have ht : w1.cell? ⟨w.heap.size, 0, none⟩ = some (.pointer (some ⟨b, 0, none⟩)) := (hB.cell 0).trans rfl
  have hp1 := hx1.cellx hpl
  clear hA hw1 h3 hB
  have g0 := (h.ext hx1).var 1 (by omega)
  have g1 := (h.ext hx1).var 2 (by omega)
  have g2 := (h.ext hx1).var 3 (by omega)
  have g3 := (h.ext hx1).var 4 (by omega)
  have g4 := (h.ext hx1).var 5 (by omega)
  have g5 := (h.ext hx1).var 6 (by omega)
  have g6 := (h.ext hx1).var 7 (by omega)
  have g7 := (h.ext hx1).var 8 (by omega)
  have g8 := (h.ext hx1).var 9 (by omega)
  have g9 := (h.ext hx1).var 10 (by omega)
  have g10 := (h.ext hx1).var 11 (by omega)
  simp only [Nat.sub_self, Nat.reduceSub] at g0 g1 g2 g3 g4 g5 g6 g7 g8 g9 g10
  obtain ⟨W, hW⟩ : ∃ W, W = w1.alloc (.cells #[.iface 134 (.pointer (some (ad 1))), .iface 134 (.pointer (some (ad 2))), .iface 134 (.pointer (some (ad 3))), .iface 134 (.pointer (some (ad 4))), .iface 134 (.pointer (some (ad 5))), .iface 134 (.pointer (some (ad 6))), .iface 134 (.pointer (some (ad 7))), .iface 134 (.pointer (some (ad 8))), .iface 134 (.pointer (some (ad 9))), .iface 134 (.pointer (some (ad 10))), .iface 134 (.pointer (some (ad 11)))] 27) := ⟨_, rfl⟩
  have hcell : ∀ k, k < 11 → W.cell? ⟨w1.heap.size, k, none⟩ = some (.iface 134 (.pointer (some (ad (k + 1))))) := fun k hk => by
    have hB := Blk.new w1 #[.iface 134 (.pointer (some (ad 1))), .iface 134 (.pointer (some (ad 2))), .iface 134 (.pointer (some (ad 3))), .iface 134 (.pointer (some (ad 4))), .iface 134 (.pointer (some (ad 5))), .iface 134 (.pointer (some (ad 6))), .iface 134 (.pointer (some (ad 7))), .iface 134 (.pointer (some (ad 8))), .iface 134 (.pointer (some (ad 9))), .iface 134 (.pointer (some (ad 10))), .iface 134 (.pointer (some (ad 11)))] 27
    rw [← hW] at hB
    rw [hB.cell k]
    rcases (by omega : k = 0 ∨ k = 1 ∨ k = 2 ∨ k = 3 ∨ k = 4 ∨ k = 5 ∨ k = 6 ∨ k = 7 ∨ k = 8 ∨ k = 9 ∨ k = 10) with rfl | rfl | rfl | rfl | rfl | rfl | rfl | rfl | rfl | rfl | rfl <;> rfl
  have hX : Ext w W := by rw [hW]; exact hx1.alloc _
  have HW := hid hW
  have Hc := fun k hk => hid (hcell k hk)
  have HI := hid (hi _ hX)
  have Hx := hid hX
  clear hcell hW hX hi
  go_wp2
  rw [← HW.out]
  clear g0 g1 g2 g3 g4 g5 g6 g7 g8 g9 g10 HW h hx1
  generalize w1.heap.size = N at *
  go_loop [3, 29] (fun t3 t29 => ∃ k : Nat, t29 = .int .i64 (k : Int) ∧ k ≤ 11 ∧ t3 = .int .i64 pl ∧ ∀ d, 1 ≤ d → d ≤ k → d ≠ c) (fun _ t29 => 11 - (intOf t29).toNat)
  case atStart => exact ⟨0, rfl, Nat.zero_le _, rfl, fun d h1 h2 => by omega⟩
  case round =>
    obtain ⟨k, rfl, hk, rfl, hne⟩ := hrel
    have Hne := hid hne
    clear hne
    by_cases hlt : k < 11
    · have hck := (Hc k hlt).out
      have hcall := hid (HI.out (k + 1) (by omega))
      by_cases he : k + 1 = c
      · have hcv : Hid (codeV c = (k : Int) + 1) := hid (by unfold codeV; rw [if_neg (by omega)]; omega)
        rw [decide_eq_true he] at hcall
        clear he
        have hlt2 : (k : Int) < 11 := by omega
        go_wp2_with fail
        refine hcall.out.mono ?_
        rintro e w3 ⟨rfl, rfl⟩
        go_wp2
        go_ret2
        exact ⟨by rw [hcv.out]; rfl, Hx.out⟩
      · rw [decide_eq_false he] at hcall
        have hlt2 : (k : Int) < 11 := by omega
        have He := hid he
        clear he
        go_wp2_with fail
        refine hcall.out.mono ?_
        rintro e w3 ⟨rfl, rfl⟩
        go_wp2
        go_round
        case rel => exact ⟨k + 1, by go_num, by omega, rfl, fun d h1 h2 => by
          by_cases hd : d = k + 1
          · rw [hd]; exact He.out
          · exact Hne.out d h1 (by omega)⟩
        case measure => simp [intOf]; omega
    · obtain rfl : k = 11 := by omega
      have hcv : Hid (codeV c = -1) := hid (by
        unfold codeV
        rw [if_pos]
        rcases Nat.eq_zero_or_pos c with h0 | h0
        · exact h0
        · exact absurd rfl (Hne.out c h0 hc))
      go_wp2
      go_ret2
      exact ⟨by rw [hcv.out]; rfl, Hx.out⟩
end Go.Proofs.YtmdcjfgdmmncpaaDoor
