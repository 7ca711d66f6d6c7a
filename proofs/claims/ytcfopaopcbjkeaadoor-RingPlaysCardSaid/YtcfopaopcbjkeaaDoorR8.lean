
/- The ring: what a play tells. -/
import Derived.Test.YtcfopaopcbjkeaaDoorR7
namespace Go.Proofs.YtcfopaopcbjkeaaDoor
set_option linter.unusedSimpArgs false
set_option linter.unusedVariables false
open Go Go.RowKit

set_option maxRecDepth 100000 in
set_option maxHeartbeats 400000 in
theorem told_any (s : RS) (w : World) (p b1 b2 : Nat) (su : Value) (h : RingAt w p b1 b2 su s) :
    Calls Tryd.prog 28 #[.pointer (some ⟨p, 0, none⟩)] w fun e w' => e = .returned (.bool s.told) ∧ w = w' := by
  have c7 := h.hp.cell 7
  clear h
  go_enter Tryd.func28, Tryd.ntmps28
  go_wp2
  go_ret
  exact ⟨rfl, rfl⟩
set_option maxRecDepth 100000 in
set_option maxHeartbeats 400000 in
theorem at_any (s : RS) (w : World) (p b1 b2 : Nat) (su : Value) (h : RingAt w p b1 b2 su s) :
    Calls Tryd.prog 30 #[.pointer (some ⟨p, 0, none⟩)] w fun e w' => e = .returned (.int .i64 (s.pos : Int)) ∧ w = w' := by
  have c7 := h.hp.cell 5
  clear h
  go_enter Tryd.func30, Tryd.ntmps30
  go_wp2
  go_ret
  exact ⟨rfl, rfl⟩
set_option maxRecDepth 100000 in
set_option maxHeartbeats 400000 in
theorem under_any (s : RS) (w : World) (p b1 b2 : Nat) (su : Value) (h : RingAt w p b1 b2 su s) :
    Calls Tryd.prog 29 #[.pointer (some ⟨p, 0, none⟩)] w fun e w' => e = .returned (.int .i64 (s.un.length : Int)) ∧ w = w' := by
  have c2 := h.hp.cell 2
  have hsu : ∃ a c, su = .slice a s.un.length c := by
    rcases h.hu.2 with ⟨h1, h2⟩ | ⟨g, cap, cur, h1, _⟩
    · exact ⟨_, _, by rw [h1, h2]⟩
    · exact ⟨_, _, h1⟩
  obtain ⟨a, c, rfl⟩ := hsu
  clear h
  go_enter Tryd.func29, Tryd.ntmps29
  go_wp2
  go_ret
  exact ⟨rfl, rfl⟩

theorem countP_take_succ (l : List Bool) (k : Nat) (h : k < l.length) : (l.take (k + 1)).countP id = (l.take k).countP id + if l[k] then 1 else 0 := by
  rw [List.take_succ_eq_append_getElem h, List.countP_append]
  cases l[k] <;> simp

set_option maxRecDepth 100000 in
set_option maxHeartbeats 800000 in
theorem active_any (s : RS) (m : Nat) (ok : s.Ok m) (w : World) (p b1 b2 : Nat) (su : Value) (h : RingAt w p b1 b2 su s) :
    Calls Tryd.prog 31 #[.pointer (some ⟨p, 0, none⟩)] w fun e w' => e = .returned (.int .i64 (s.live : Int)) ∧ w = w' := by
  have c1 : w.cell? ⟨p, 1, none⟩ = some (.slice (some ⟨b2, 0, none⟩) s.n s.n) := h.hp.cell 1
  have hla := ok.la
  have hhi := ok.hi
  have hcl : ∀ k, k < s.n → w.cell? ⟨b2, k, none⟩ = some (.bool (s.ac.getD k false)) := fun k hk => h.live (by omega)
  have Hcl := hid hcl
  clear h hcl ok
  go_enter Tryd.func31, Tryd.ntmps31
  go_wp2
  go_loop [3, 11] (fun t3 t11 => ∃ k : Nat, k ≤ s.n ∧ t11 = .int .i64 (k : Int) ∧ t3 = .int .i64 ((s.ac.take k).countP id : Int)) (fun _ t11 => s.n - (intOf t11).toNat)
  case atStart => exact ⟨0, Nat.zero_le _, rfl, rfl⟩
  case round =>
    obtain ⟨k, hk, rfl, rfl⟩ := hrel
    have hb : (s.ac.take k).countP id ≤ 6 := by
      have h1 := List.countP_le_length (p := id) (l := s.ac.take k)
      have h2 := List.length_take_le k s.ac
      omega
    by_cases hlt : k < s.n
    · have hc := Hcl.out k hlt
      have hs := countP_take_succ s.ac k (by omega)
      have hgd : s.ac.getD k false = s.ac[k]'(by omega) := by simp [show k < s.ac.length by omega]
      rw [hgd] at hc
      cases hv : s.ac[k]'(by omega) with
      | true =>
        rw [hv] at hc hs
        have Hs := hid hs
        clear hs hgd hv
        go_wp2
        go_round
        case rel => exact ⟨k + 1, by omega, by go_num, by rw [Hs.out]; simp⟩
        case measure => simp [intOf]; omega
      | false =>
        rw [hv] at hc hs
        have Hs := hid hs
        clear hs hgd hv
        go_wp2
        go_round
        case rel => exact ⟨k + 1, by omega, by go_num, by rw [Hs.out]; simp⟩
        case measure => simp [intOf]; omega
    · obtain rfl : k = s.n := by omega
      go_wp2
      go_ret
      exact ⟨by rw [List.take_of_length_le (by omega)]; rfl, rfl⟩
end Go.Proofs.YtcfopaopcbjkeaaDoor
