
/- The ring: a number is done. -/
import Derived.Test.YtcfopaopcbjkeaaDoorR5
namespace Go.Proofs.YtcfopaopcbjkeaaDoor
set_option linter.unusedSimpArgs false
set_option linter.unusedVariables false
open Go Go.RowKit

theorem send_any (s : RS) (m : Nat) (ok : s.Ok m) (hm : m ≤ 1000000) (q : Nat) (w : World) (p b1 b2 : Nat) (su : Value) (h : RingAt w p b1 b2 su s) (hq : (q : Int) ≤ 9223372036854775807) :
    Calls Tryd.prog 55 #[.pointer (some ⟨p, 0, none⟩), .int .i64 q] w (RPost w p b1 b2 su (s.send q)) := by
  cases ha : s.act (q % s.n) with
  | true => exact send_yes s m ok hm q w p b1 b2 su h hq ha
  | false => exact send_no s m ok q w p b1 b2 su h hq ha
theorem come_any (s : RS) (m : Nat) (ok : s.Ok m) (hm : m ≤ 1000000) (q : Nat) (w : World) (p b1 b2 : Nat) (su : Value) (h : RingAt w p b1 b2 su s) (hq : (q : Int) ≤ 9223372036854775807) :
    Calls Tryd.prog 56 #[.pointer (some ⟨p, 0, none⟩), .int .i64 q] w (RPost w p b1 b2 su (s.come q)) := by
  by_cases ha : 0 < s.un.length
  · exact come_yes s m ok hm q w p b1 b2 su h hq ha
  · exact come_no s q w p b1 b2 su h (by omega)

theorem RPost.call {w : World} {p b1 b2 : Nat} {su : Value} {s : RS} {P : Program} {f : FuncId} {args : Array Value} {R : Ending → World → Prop} (h : Calls P f args w (RPost w p b1 b2 su s))
    (hR : ∀ w', RPost w p b1 b2 su s (.returned (.tuple #[])) w' → R (.returned (.tuple #[])) w') : Calls P f args w R :=
  h.mono fun e w' ⟨he, hx⟩ => by subst he; exact hR w' ⟨rfl, hx⟩

set_option maxRecDepth 100000 in
set_option maxHeartbeats 1600000 in
theorem do_idle (s : RS) (v : Int) (w : World) (p b1 b2 : Nat) (su : Value) (h : RingAt w p b1 b2 su s) (ha : v < 0 ∨ s.told = true) :
    Calls Tryd.prog 26 #[.pointer (some ⟨p, 0, none⟩), .int .i64 v] w (RPost w p b1 b2 su (s.does v)) := by
  have hs : s.does v = s := by unfold RS.does; rw [if_pos ha]
  rw [hs]
  have hR := RPost.same h (Ext.refl w)
  have c7 : w.cell? ⟨p, 7, none⟩ = some (.bool s.told) := h.hp.cell 7
  generalize RPost w p b1 b2 su s = R at *
  clear hs h
  by_cases hv : v < 0
  · clear ha
    go_enter Tryd.func26, Tryd.ntmps26
    go_wp2
    go_end0
    exact hR
  · have ht : s.told = true := ha.resolve_left hv
    rw [ht] at c7
    clear ha ht
    go_enter Tryd.func26, Tryd.ntmps26
    go_wp2
    go_end0
    exact hR



set_option maxRecDepth 100000 in
set_option maxHeartbeats 1600000 in
theorem do_send (s : RS) (m : Nat) (ok : s.Ok m) (hm : m ≤ 1000000) (v : Int) (w : World) (p b1 b2 : Nat) (su : Value) (h : RingAt w p b1 b2 su s) (hv0 : 0 ≤ v) (hv1 : v ≤ 9223372036854775807) (hto : ¬ s.told = true) (hv4 : v % 4 = 0) :
    Calls Tryd.prog 26 #[.pointer (some ⟨p, 0, none⟩), .int .i64 v] w (RPost w p b1 b2 su (s.does v)) := by
  have ht : s.told = false := by simpa using hto
  have hs : s.does v = s.send (v / 4).toNat := by
    unfold RS.does
    rw [if_neg (by simp [ht]; omega)]
    simp only [hv4]
    rfl
  rw [hs]
  clear hs
  have c7 : w.cell? ⟨p, 7, none⟩ = some (.bool s.told) := h.hp.cell 7
  rw [ht] at c7
  obtain ⟨q, hq⟩ : ∃ q : Nat, (q : Int) = v / 4 := ⟨(v / 4).toNat, by omega⟩
  have hqt : (v / 4).toNat = q := by omega
  (try rw [hqt])
  have hq9 : (q : Int) ≤ 9223372036854775807 := by omega
  have hv0' : ¬ v < 0 := by omega
  clear ht hqt hto
  have hq' := hq.symm
  have Hq := hid hq
  clear hq
  have C := send_any s m ok hm q w p b1 b2 su h hq9
  have HC := hid C
  clear C
  go_enter Tryd.func26, Tryd.ntmps26
  go_wp2_with fail
  refine HC.out.mono ?_
  intro e w1 hx
  obtain rfl := hx.1
  go_wp2
  go_end0
  exact hx

set_option maxRecDepth 100000 in
set_option maxHeartbeats 1600000 in
theorem do_come (s : RS) (m : Nat) (ok : s.Ok m) (hm : m ≤ 1000000) (v : Int) (w : World) (p b1 b2 : Nat) (su : Value) (h : RingAt w p b1 b2 su s) (hv0 : 0 ≤ v) (hv1 : v ≤ 9223372036854775807) (hto : ¬ s.told = true) (hv4 : v % 4 = 1) :
    Calls Tryd.prog 26 #[.pointer (some ⟨p, 0, none⟩), .int .i64 v] w (RPost w p b1 b2 su (s.does v)) := by
  have ht : s.told = false := by simpa using hto
  have hs : s.does v = s.come (v / 4).toNat := by
    unfold RS.does
    rw [if_neg (by simp [ht]; omega)]
    simp only [hv4]
    rfl
  rw [hs]
  clear hs
  have c7 : w.cell? ⟨p, 7, none⟩ = some (.bool s.told) := h.hp.cell 7
  rw [ht] at c7
  obtain ⟨q, hq⟩ : ∃ q : Nat, (q : Int) = v / 4 := ⟨(v / 4).toNat, by omega⟩
  have hqt : (v / 4).toNat = q := by omega
  (try rw [hqt])
  have hq9 : (q : Int) ≤ 9223372036854775807 := by omega
  have hv0' : ¬ v < 0 := by omega
  clear ht hqt hto
  have hq' := hq.symm
  have Hq := hid hq
  clear hq
  have C := come_any s m ok hm q w p b1 b2 su h hq9
  have HC := hid C
  clear C
  go_enter Tryd.func26, Tryd.ntmps26
  go_wp2_with fail
  refine HC.out.mono ?_
  intro e w1 hx
  obtain rfl := hx.1
  go_wp2
  go_end0
  exact hx

set_option maxRecDepth 100000 in
set_option maxHeartbeats 1600000 in
theorem do_pass (s : RS) (m : Nat) (ok : s.Ok m) (hm : m ≤ 1000000) (v : Int) (w : World) (p b1 b2 : Nat) (su : Value) (h : RingAt w p b1 b2 su s) (hv0 : 0 ≤ v) (hv1 : v ≤ 9223372036854775807) (hto : ¬ s.told = true) (hv4 : v % 4 = 3) :
    Calls Tryd.prog 26 #[.pointer (some ⟨p, 0, none⟩), .int .i64 v] w (RPost w p b1 b2 su (s.does v)) := by
  have ht : s.told = false := by simpa using hto
  have hs : s.does v = s.pass := by
    unfold RS.does
    rw [if_neg (by simp [ht]; omega)]
    simp only [hv4]
    rfl
  rw [hs]
  clear hs
  have c7 : w.cell? ⟨p, 7, none⟩ = some (.bool s.told) := h.hp.cell 7
  rw [ht] at c7
  obtain ⟨q, hq⟩ : ∃ q : Nat, (q : Int) = v / 4 := ⟨(v / 4).toNat, by omega⟩
  have hqt : (v / 4).toNat = q := by omega
  (try rw [hqt])
  have hq9 : (q : Int) ≤ 9223372036854775807 := by omega
  have hv0' : ¬ v < 0 := by omega
  clear ht hqt hto
  have hq' := hq.symm
  have Hq := hid hq
  clear hq
  have C := pass_any s m ok hm w p b1 b2 su h
  have HC := hid C
  clear C
  go_enter Tryd.func26, Tryd.ntmps26
  go_wp2_with fail
  refine HC.out.mono ?_
  intro e w1 hx
  obtain rfl := hx.1
  go_wp2
  go_end0
  exact hx

set_option maxRecDepth 100000 in
set_option maxHeartbeats 1600000 in
theorem do_quiet (s : RS) (m : Nat) (ok : s.Ok m) (v : Int) (w : World) (p b1 b2 : Nat) (su : Value) (h : RingAt w p b1 b2 su s) (hv0 : 0 ≤ v) (hv1 : v ≤ 9223372036854775807) (hto : ¬ s.told = true) (hv4 : v % 4 = 2) :
    Calls Tryd.prog 26 #[.pointer (some ⟨p, 0, none⟩), .int .i64 v] w (RPost w p b1 b2 su (s.does v)) := by
  have ht : s.told = false := by simpa using hto
  have hs : s.does v = s.quiet (v / 4).toNat := by
    unfold RS.does
    rw [if_neg (by simp [ht]; omega)]
    simp only [hv4]
    rfl
  rw [hs]
  clear hs
  have c7 : w.cell? ⟨p, 7, none⟩ = some (.bool s.told) := h.hp.cell 7
  rw [ht] at c7
  obtain ⟨q, hq⟩ : ∃ q : Nat, (q : Int) = v / 4 := ⟨(v / 4).toNat, by omega⟩
  have hqt : (v / 4).toNat = q := by omega
  (try rw [hqt])
  have hq9 : (q : Int) ≤ 9223372036854775807 := by omega
  have hv0' : ¬ v < 0 := by omega
  clear ht hqt hto
  have hq' := hq.symm
  have Hq := hid hq
  clear hq
  have hlo := ok.lo
  have hhi := ok.hi
  have hla := ok.la
  have hlt : q % s.n < s.n := Nat.mod_lt _ (by omega)
  have hfr : (q : Int) % (s.n : Int) = ((q % s.n : Nat) : Int) := rfl
  have hse : s.quiet q = { s with ac := s.ac.set (q % s.n) false } := rfl
  rw [hse]
  clear hse
  generalize hfd : q % s.n = fr at *
  have Hfd := hid hfd
  clear hfd
  have hfr0 : (0 : Int) ≤ (q : Int) % (s.n : Int) := by omega
  have hfr1 : (q : Int) % (s.n : Int) < (s.n : Int) := by omega
  go_enter Tryd.func26, Tryd.ntmps26
  go_wp2
  have g0 := h.hp.kc (X := fun _ => False) (fun e => e) 0 rfl
  have g1 := h.hp.kc (X := fun _ => False) (fun e => e) 1 rfl
  clear c7
  have hn4 : (s.n = 0) = False := by simp; omega
  refine wp_flowT (fun _ => False) (by kernel_rfl) (by kernel_rfl) ?_
  repeat (apply FlowT.d; (intro w1 hk; unfold does; go_simp; (try go_ints); (first | exact DetR.mk | (simp only [↓IntWalk.iteOmega, Oper.doesUpon_value]; exact DetR.mk) | (simp only [↓IntWalk.iteOmega]; go_simp; (try go_ints); exact DetR.mk))); simp only [Act.put, List.setIfInBounds_toArray, List.set_cons_zero, List.set_cons_succ])
  refine FlowT.last (fun _ w' => RingAt w' p b1 b2 su { s with ac := s.ac.set fr false } ∧ Keep (fun k => k = b2) w w') 12 rfl (by kernel_rfl) (by kernel_rfl) (fun w1 hC hk => ?_) (fun v w1 hR => ?_)
  · have h1 := h.ext hC
    have q5 := h1.live (i := fr) (by omega)
    have f0 := h1.h2.free fr
    unfold does
    go_simp
    have hkk : Keep (fun k => k = b2) w1 (w1.setCell ⟨b2, fr, none⟩ (.bool false)) := Keep.set (X := fun k => k = b2) (Keep.refl _ _) rfl _
    refine ⟨h1.act1 _ hkk ?_, (hC.keep _).trans hkk⟩
    have := h1.h2.set fr (.bool false)
    rw [List.map_set]
    simpa using this
  simp only [Act.put]
  go_wp2
  go_end0
  exact ⟨rfl, su, hR.1, hR.2.mono fun k _ e => .inr (.inr (.inl e)), fun k hk => .inl hk⟩

theorem do_any (s : RS) (m : Nat) (ok : s.Ok m) (hm : m ≤ 1000000) (v : Int) (w : World) (p b1 b2 : Nat) (su : Value) (h : RingAt w p b1 b2 su s) (hv1 : v ≤ 9223372036854775807) :
    Calls Tryd.prog 26 #[.pointer (some ⟨p, 0, none⟩), .int .i64 v] w (RPost w p b1 b2 su (s.does v)) := by
  by_cases hi : v < 0 ∨ s.told = true
  · exact do_idle s v w p b1 b2 su h hi
  · have hv0 : 0 ≤ v := by omega
    have hto : ¬ s.told = true := fun e => hi (.inr e)
    rcases (by omega : v % 4 = 0 ∨ v % 4 = 1 ∨ v % 4 = 2 ∨ v % 4 = 3) with h4 | h4 | h4 | h4
    · exact do_send s m ok hm v w p b1 b2 su h hv0 hv1 hto h4
    · exact do_come s m ok hm v w p b1 b2 su h hv0 hv1 hto h4
    · exact do_quiet s m ok v w p b1 b2 su h hv0 hv1 hto h4
    · exact do_pass s m ok hm v w p b1 b2 su h hv0 hv1 hto h4
end Go.Proofs.YtcfopaopcbjkeaaDoor
