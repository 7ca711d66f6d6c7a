
/- The ring: a play of one's own, number upon number. -/
import Derived.Test.YtcfopaopcbjkeaaDoorR8
import Derived.Test.YtcfopaopcbjkeaaDoorRL
namespace Go.Proofs.YtcfopaopcbjkeaaDoor
set_option linter.unusedSimpArgs false
set_option linter.unusedVariables false
open Go Go.RowKit

/-- What a play writes, seen from the world W in which it was made. -/
def fpW (W : World) (p b1 b2 : Nat) : Nat → Prop := fun k => k = p ∨ k = b1 ∨ k = b2 ∨ W.heap.size ≤ k
structure RIn (W : World) (p b1 b2 : Nat) (s : RS) (w : World) : Prop where
  keep : Keep (fpW W p b1 b2) W w
  play : ∃ su, RingAt w p b1 b2 su s ∧ ∀ k, su.ownBlock = some k → W.heap.size ≤ k

theorem RIn.start {W : World} {p b1 b2 : Nat} {su : Value} {s : RS} (h : RingAt W p b1 b2 su s) (hn : su.ownBlock = none) : RIn W p b1 b2 s W :=
  ⟨Keep.refl _ _, su, h, fun k hk => by rw [hn] at hk; cases hk⟩
theorem RIn.ext {W w w' : World} {p b1 b2 : Nat} {s : RS} (h : RIn W p b1 b2 s w) (x : Ext w w') : RIn W p b1 b2 s w' := by
  obtain ⟨hk, su, hr, ho⟩ := h
  exact ⟨hk.ext_r x, su, hr.ext x, ho⟩
theorem RIn.cell {W w : World} {p b1 b2 : Nat} {s : RS} (h : RIn W p b1 b2 s w) {x : Addr} {v : Value} (hc : W.cell? x = some v) (h1 : x.block ≠ p) (h2 : x.block ≠ b1) (h3 : x.block ≠ b2) : w.cell? x = some v := by
  have hlt : x.block < W.heap.size := by
    rcases Nat.lt_or_ge x.block W.heap.size with h4 | h4
    · exact h4
    · simp [World.cell?, Array.getElem?_eq_none h4] at hc
  have hb := h.keep.block x.block hlt fun e => e.elim h1 fun e => e.elim h2 fun e => e.elim h3 fun e => by omega
  unfold World.cell? at *
  rw [hb]
  exact hc
theorem RIn.does {W w : World} {p b1 b2 : Nat} {s : RS} (h : RIn W p b1 b2 s w) {m : Nat} (ok : s.Ok m) (hm : m ≤ 1000000) (v : Int) (hv : v ≤ 9223372036854775807) :
    Calls Tryd.prog 26 #[.pointer (some ⟨p, 0, none⟩), .int .i64 v] w fun e w' => e = .returned (.tuple #[]) ∧ RIn W p b1 b2 (s.does v) w' := by
  obtain ⟨hk, su, hr, ho⟩ := h
  refine (do_any s m ok hm v w p b1 b2 su hr hv).mono fun e w' ⟨he, su', hr', hk', ho'⟩ => ⟨he, ?_, su', hr', fun k hk2 => ?_⟩
  · refine hk.trans ?_
    refine hk'.mono fun k hlt hx => ?_
    rcases hx with hx | hx | hx | hx
    · exact .inl hx
    · exact .inr (.inl hx)
    · exact .inr (.inr (.inl hx))
    · exact .inr (.inr (.inr (ho k hx)))
  · rcases ho' k hk2 with h1 | h1
    · exact ho k h1
    · exact Nat.le_trans hk.size h1
theorem RIn.told {W w : World} {p b1 b2 : Nat} {s : RS} (h : RIn W p b1 b2 s w) :
    Calls Tryd.prog 28 #[.pointer (some ⟨p, 0, none⟩)] w fun e w' => e = .returned (.bool s.told) ∧ w = w' := by
  obtain ⟨hk, su, hr, ho⟩ := h; exact told_any s w p b1 b2 su hr
theorem RIn.at_ {W w : World} {p b1 b2 : Nat} {s : RS} (h : RIn W p b1 b2 s w) :
    Calls Tryd.prog 30 #[.pointer (some ⟨p, 0, none⟩)] w fun e w' => e = .returned (.int .i64 (s.pos : Int)) ∧ w = w' := by
  obtain ⟨hk, su, hr, ho⟩ := h; exact at_any s w p b1 b2 su hr
theorem RIn.under {W w : World} {p b1 b2 : Nat} {s : RS} (h : RIn W p b1 b2 s w) :
    Calls Tryd.prog 29 #[.pointer (some ⟨p, 0, none⟩)] w fun e w' => e = .returned (.int .i64 (s.un.length : Int)) ∧ w = w' := by
  obtain ⟨hk, su, hr, ho⟩ := h; exact under_any s w p b1 b2 su hr
theorem RIn.active {W w : World} {p b1 b2 : Nat} {s : RS} (h : RIn W p b1 b2 s w) {m : Nat} (ok : s.Ok m) :
    Calls Tryd.prog 31 #[.pointer (some ⟨p, 0, none⟩)] w fun e w' => e = .returned (.int .i64 (s.live : Int)) ∧ w = w' := by
  obtain ⟨hk, su, hr, ho⟩ := h; exact active_any s m ok w p b1 b2 su hr

namespace RS
/-- All numbers, one upon the other. -/
def run (s : RS) (l : List Int) : RS := l.foldl does s
theorem run_ok {s : RS} {m : Nat} (h : s.Ok m) (l : List Int) : (s.run l).Ok (m + l.length) := by
  induction l generalizing s m with
  | nil => exact h
  | cons v l ih => have := ih (h.does v); simp only [run, List.foldl_cons, List.length_cons] at *; rw [show m + (l.length + 1) = m + 1 + l.length by omega]; exact this
theorem run_inv {s : RS} (h : s.Inv) (l : List Int) : (s.run l).Inv := by
  induction l generalizing s with
  | nil => exact h
  | cons v l ih => exact ih (h.does v)
theorem run_take_succ (s : RS) (l : List Int) (k : Nat) (h : k < l.length) : s.run (l.take (k + 1)) = (s.run (l.take k)).does (l.getD k 0) := by
  unfold run
  rw [List.take_succ_eq_append_getElem h, List.foldl_append]
  simp [h]
theorem run_n (s : RS) (l : List Int) : (s.run l).n = s.n := by
  induction l generalizing s with
  | nil => rfl
  | cons v l ih => exact (ih (s.does v)).trans (n_does s v)
end RS

/-- The numbers of the ring's own trial. -/
def trial : List Int := [2, 6, 3, 3, 3]
theorem trial_told : ((RS.init 2).run trial).told = true ∧ ((RS.init 2).run trial).live = 0 ∧ ((RS.init 2).run trial).un.length = 0 ∧ ((RS.init 2).run trial).pos = 0 := by decide +kernel

set_option maxRecDepth 100000 in
set_option maxHeartbeats 1600000 in
theorem ringed_any (w : World) : Calls Tryd.prog 18 #[] w fun e w' => e = .returned (.bool true) ∧ Ext w w' := by
  have HN := hid (new_any 2 (by omega) (by omega) w)
  go_enter Tryd.func18, Tryd.ntmps18
  go_wp2_with fail
  refine HN.out.mono ?_
  intro e w1 hx
  obtain ⟨p, b1, b2, su, rfl, hr, hext, hp, hb1, hb2, hsu⟩ := hx
  clear HN
  go_wp2
  obtain ⟨W, hW⟩ : ∃ W, W = w1.alloc (Obj.cells #[Value.int IntKind.i64 2, Value.int IntKind.i64 6, Value.int IntKind.i64 3, Value.int IntKind.i64 3, Value.int IntKind.i64 3] 3) := ⟨_, rfl⟩
  have hWe : Ext w W := by rw [hW]; exact hext.alloc _
  have hin : RIn W p b1 b2 (RS.init 2) W := by rw [hW]; exact RIn.start (hr.ext ((Ext.refl w1).alloc _)) hsu
  have hlit : Blk W w1.heap.size #[Value.int IntKind.i64 2, Value.int IntKind.i64 6, Value.int IntKind.i64 3, Value.int IntKind.i64 3, Value.int IntKind.i64 3] 3 := by rw [hW]; exact Blk.new _ _ _
  have n1 := hr.hp.lt
  have n2 := hr.h1.lt
  have n3 := hr.h2.lt
  generalize w1.heap.size = N at *
  rw [← hW]
  have hc : ∀ k, k < 5 → W.cell? ⟨N, k, none⟩ = some (.int .i64 (trial.getD k 0)) := fun k hk => by
    rw [hlit.cell]
    rcases (by omega : k = 0 ∨ k = 1 ∨ k = 2 ∨ k = 3 ∨ k = 4) with rfl | rfl | rfl | rfl | rfl <;> rfl
  have Hc := hid hc
  clear hW hr hlit hc hext
  go_loopw [4] (fun t4 wr => ∃ k : Nat, t4 = .int .i64 (k : Int) ∧ k ≤ 5 ∧ RIn W p b1 b2 ((RS.init 2).run (trial.take k)) wr) (fun t4 _ => 5 - (intOf t4).toNat)
  case atStart => exact ⟨0, rfl, by omega, hin⟩
  case round =>
    obtain ⟨k, rfl, hk, hi⟩ := hrel
    by_cases hlt : k < 5
    · have hcw := hi.cell (Hc.out k hlt) (by simp only; omega) (by simp only; omega) (by simp only; omega)
      have hgv : trial.getD k 0 ≤ 9223372036854775807 := by
        rcases (by omega : k = 0 ∨ k = 1 ∨ k = 2 ∨ k = 3 ∨ k = 4) with rfl | rfl | rfl | rfl | rfl <;> decide
      have C := hi.does (RS.run_ok (RS.Ok.init (n := 2) (by omega) (by omega)) (trial.take k)) (by simp; omega) (trial.getD k 0) hgv
      rw [← RS.run_take_succ _ _ _ hlt] at C
      generalize trial.getD k 0 = v at *
      have HC := hid C
      clear C hgv hin Hc
      go_wp2_with fail
      refine HC.out.mono ?_
      intro e w2 hx
      obtain ⟨rfl, hi2⟩ := hx
      go_wp2
      go_roundw
      case rel => exact ⟨k + 1, by go_num, by omega, hi2⟩
      case measure => simp [intOf]; omega
    · obtain rfl : k = 5 := by omega
      have hi' : RIn W p b1 b2 ((RS.init 2).run trial) wr := hi
      have ok := RS.run_ok (RS.Ok.init (n := 2) (by omega) (by omega)) trial
      obtain ⟨e1, e2, e3, e4⟩ := trial_told
      have H1 := hid hi'.told
      have H2 := hid (hi'.active ok)
      have H3 := hid hi'.under
      have H4 := hid hi'.at_
      rw [e1] at H1
      rw [e2] at H2
      rw [e3] at H3
      rw [e4] at H4
      have hfin : Ext w wr := Keep.new hWe hi'.keep fun g hg => by
        have := hWe.size
        rcases hg with hg | hg | hg | hg <;> omega
      clear e1 e2 e3 e4 ok hi hi' Hc hin hWe
      go_wp2_with fail
      refine H1.out.mono ?_
      intro e w2 hx
      obtain ⟨rfl, rfl⟩ := hx
      go_wp2_with fail
      refine H2.out.mono ?_
      intro e w2 hx
      obtain ⟨rfl, rfl⟩ := hx
      go_wp2_with fail
      refine H3.out.mono ?_
      intro e w2 hx
      obtain ⟨rfl, rfl⟩ := hx
      go_wp2_with fail
      refine H4.out.mono ?_
      intro e w2 hx
      obtain ⟨rfl, rfl⟩ := hx
      go_wp2
      go_ret
      exact ⟨rfl, hfin⟩
end Go.Proofs.YtcfopaopcbjkeaaDoor
