
/- The reference's ring: any number; the ring and the reference's ring side by side. -/
import Derived.Test.YtcfopaopcbjkeaaDoorG6
import Derived.Test.YtcfopaopcbjkeaaDoorG7
import Derived.Test.YtcfopaopcbjkeaaDoorG8
import Derived.Test.YtcfopaopcbjkeaaDoorG9
import Derived.Test.YtcfopaopcbjkeaaDoorGA
import Derived.Test.YtcfopaopcbjkeaaDoorGB
namespace Go.Proofs.YtcfopaopcbjkeaaDoor
set_option linter.unusedSimpArgs false
set_option linter.unusedVariables false
open Go Go.RowKit

theorem ref_pass (s : RS) (m : Nat) (ok : s.Ok m) (hm : m ≤ 1000000) (v : Int) (w : World) (p b1 b2 b3 k1 k2 k3 : Nat) (su : Value) (h : RefAt w p b1 b2 b3 k1 k2 k3 su s) (hv0 : 0 ≤ v) (hv1 : v ≤ 9223372036854775807) (hto : ¬ s.told = true) (hv4 : v % 4 = 3) :
    Calls Tryd.prog 27 #[.pointer (some ⟨p, 0, none⟩), .int .i64 v] w (RQ w p b1 b2 b3 k1 k2 k3 su (s.does v)) := by
  cases ha : s.act s.pos with
  | true => exact ref_pass_act s m ok v w p b1 b2 b3 k1 k2 k3 su h hv0 hv1 hto hv4 ha
  | false =>
    by_cases h0 : 0 < s.pos
    · exact ref_pass_down s m ok hm v w p b1 b2 b3 k1 k2 k3 su h hv0 hv1 hto hv4 ha h0
    cases hov : s.over with
    | true => exact ref_pass_told s m ok hm v w p b1 b2 b3 k1 k2 k3 su h hv0 hv1 hto hv4 ha h0 hov
    | false =>
      cases hfr : s.fr with
      | true => exact ref_pass_again1 s m ok hm v w p b1 b2 b3 k1 k2 k3 su h hv0 hv1 hto hv4 ha h0 hov hfr
      | false =>
        cases htb : s.tb with
        | true => exact ref_pass_again2 s m ok hm v w p b1 b2 b3 k1 k2 k3 su h hv0 hv1 hto hv4 ha h0 hov hfr htb
        | false =>
          cases hbl : s.blk 0 with
          | true => exact ref_pass_again3 s m ok hm v w p b1 b2 b3 k1 k2 k3 su h hv0 hv1 hto hv4 ha h0 hov hfr htb hbl
          | false => exact ref_pass_again4 s m ok hm v w p b1 b2 b3 k1 k2 k3 su h hv0 hv1 hto hv4 ha h0 hov hfr htb hbl fun e => by simp [RS.over, hfr, htb, hbl, e] at hov

theorem ref_any (s : RS) (m : Nat) (ok : s.Ok m) (hm : m ≤ 1000000) (v : Int) (w : World) (p b1 b2 b3 k1 k2 k3 : Nat) (su : Value) (h : RefAt w p b1 b2 b3 k1 k2 k3 su s) (hv1 : v ≤ 9223372036854775807) :
    Calls Tryd.prog 27 #[.pointer (some ⟨p, 0, none⟩), .int .i64 v] w (RQ w p b1 b2 b3 k1 k2 k3 su (s.does v)) := by
  by_cases hi : v < 0 ∨ s.told = true
  · rw [show s.does v = s by unfold RS.does; rw [if_pos hi]]
    exact ref_idle s v w p b1 b2 b3 k1 k2 k3 su h hi
  · have hv0 : 0 ≤ v := by omega
    have hto : ¬ s.told = true := fun e => hi (.inr e)
    rcases (by omega : v % 4 = 0 ∨ v % 4 = 1 ∨ v % 4 = 2 ∨ v % 4 = 3) with h4 | h4 | h4 | h4
    · cases ha : s.act ((v / 4).toNat % s.n) with
      | true => exact ref_send_yes s m ok hm v w p b1 b2 b3 k1 k2 k3 su h hv0 hv1 hto h4 ha
      | false => exact ref_send_no s m ok v w p b1 b2 b3 k1 k2 k3 su h hv0 hv1 hto h4 ha
    · by_cases hu : 0 < s.un.length
      · exact ref_come_yes s m ok hm v w p b1 b2 b3 k1 k2 k3 su h hv0 hv1 hto h4 hu
      · exact ref_come_no s m ok v w p b1 b2 b3 k1 k2 k3 su h hv0 hv1 hto h4 (by omega)
    · exact ref_quiet s m ok v w p b1 b2 b3 k1 k2 k3 su h hv0 hv1 hto h4
    · exact ref_pass s m ok hm v w p b1 b2 b3 k1 k2 k3 su h hv0 hv1 hto h4

/-- Where the two plays lie. -/
structure Lies where
  p : Nat
  a1 : Nat
  a2 : Nat
  q : Nat
  b1 : Nat
  b2 : Nat
  b3 : Nat
  k1 : Nat
  k2 : Nat
  k3 : Nat
/-- The two plays side by side, both made since the world w. -/
structure Two (w : World) (L : Lies) (s : RS) (wr : World) : Prop where
  ext : Ext w wr
  la : w.heap.size ≤ L.p ∧ w.heap.size ≤ L.a1 ∧ w.heap.size ≤ L.a2
  lb : w.heap.size ≤ L.q ∧ w.heap.size ≤ L.b1 ∧ w.heap.size ≤ L.b2 ∧ w.heap.size ≤ L.b3
  ap : ∀ i, i = L.p ∨ i = L.a1 ∨ i = L.a2 → i ≠ L.q ∧ i ≠ L.b1 ∧ i ≠ L.b2 ∧ i ≠ L.b3
  pl : ∃ su sv, RingAt wr L.p L.a1 L.a2 su s ∧ RefAt wr L.q L.b1 L.b2 L.b3 L.k1 L.k2 L.k3 sv s ∧ (∀ k, su.ownBlock = some k → w.heap.size ≤ k ∧ k ≠ L.q ∧ k ≠ L.b1 ∧ k ≠ L.b2 ∧ k ≠ L.b3 ∧ sv.ownBlock ≠ some k) ∧ ∀ k, sv.ownBlock = some k → w.heap.size ≤ k ∧ k ≠ L.p ∧ k ≠ L.a1 ∧ k ≠ L.a2
/-- After the first of the two has done a number. -/
structure Half (w : World) (L : Lies) (s s' : RS) (wr : World) : Prop where
  ext : Ext w wr
  la : w.heap.size ≤ L.p ∧ w.heap.size ≤ L.a1 ∧ w.heap.size ≤ L.a2
  lb : w.heap.size ≤ L.q ∧ w.heap.size ≤ L.b1 ∧ w.heap.size ≤ L.b2 ∧ w.heap.size ≤ L.b3
  ap : ∀ i, i = L.p ∨ i = L.a1 ∨ i = L.a2 → i ≠ L.q ∧ i ≠ L.b1 ∧ i ≠ L.b2 ∧ i ≠ L.b3
  pl : ∃ su sv, RingAt wr L.p L.a1 L.a2 su s' ∧ RefAt wr L.q L.b1 L.b2 L.b3 L.k1 L.k2 L.k3 sv s ∧ (∀ k, su.ownBlock = some k → w.heap.size ≤ k ∧ k ≠ L.q ∧ k ≠ L.b1 ∧ k ≠ L.b2 ∧ k ≠ L.b3 ∧ sv.ownBlock ≠ some k) ∧ ∀ k, sv.ownBlock = some k → w.heap.size ≤ k ∧ k ≠ L.p ∧ k ≠ L.a1 ∧ k ≠ L.a2
theorem Two.half {w wr : World} {L : Lies} {s : RS} (h : Two w L s wr) : Half w L s s wr := ⟨h.ext, h.la, h.lb, h.ap, h.pl⟩
theorem Half.two {w wr : World} {L : Lies} {s : RS} (h : Half w L s s wr) : Two w L s wr := ⟨h.ext, h.la, h.lb, h.ap, h.pl⟩
theorem Two.mono {w w0 wr : World} {L : Lies} {s : RS} (h : Two w L s wr) (x : Ext w0 w) : Two w0 L s wr := by
  obtain ⟨e, ⟨l1, l2, l3⟩, ⟨m1, m2, m3, m4⟩, ap, su, sv, r, q, d, d'⟩ := h
  have := x.size
  exact ⟨x.trans e, ⟨by omega, by omega, by omega⟩, ⟨by omega, by omega, by omega, by omega⟩, ap, su, sv, r, q, fun k hk => ⟨by have := (d k hk).1; omega, (d k hk).2⟩, fun k hk => ⟨by have := (d' k hk).1; omega, (d' k hk).2⟩⟩

theorem Two.on {w wr w1 : World} {L : Lies} {s : RS} (h : Two w L s wr) (x : Ext wr w1) : Two w L s w1 := by
  obtain ⟨e, la, lb, ap, su, sv, r, q, d, d'⟩ := h
  exact ⟨e.trans x, la, lb, ap, su, sv, r.ext x, q.ext x, d, d'⟩
theorem Half.one {w wr : World} {L : Lies} {s : RS} (h : Two w L s wr) {m : Nat} (ok : s.Ok m) (hm : m ≤ 1000000) (v : Int) (hv : v ≤ 9223372036854775807) :
    Calls Tryd.prog 26 #[.pointer (some ⟨L.p, 0, none⟩), .int .i64 v] wr fun e w' => e = .returned (.tuple #[]) ∧ Half w L s (s.does v) w' := by
  obtain ⟨e, ⟨l1, l2, l3⟩, ⟨m1, m2, m3, m4⟩, ap, su, sv, r, q, d, d'⟩ := h
  refine (do_any s m ok hm v wr L.p L.a1 L.a2 su r hv).mono fun e' w' ⟨he, su', hr', hk', ho'⟩ => ?_
  have q' := q.keep hk' fun i hi hx => by
    rcases hi with rfl | rfl | rfl | rfl | hi
    · rcases hx with hx | hx | hx | hx
      · exact (ap _ (.inl hx)).1 rfl
      · exact (ap _ (.inr (.inl hx))).1 rfl
      · exact (ap _ (.inr (.inr hx))).1 rfl
      · exact (d _ hx).2.1 rfl
    · rcases hx with hx | hx | hx | hx
      · exact (ap _ (.inl hx)).2.1 rfl
      · exact (ap _ (.inr (.inl hx))).2.1 rfl
      · exact (ap _ (.inr (.inr hx))).2.1 rfl
      · exact (d _ hx).2.2.1 rfl
    · rcases hx with hx | hx | hx | hx
      · exact (ap _ (.inl hx)).2.2.1 rfl
      · exact (ap _ (.inr (.inl hx))).2.2.1 rfl
      · exact (ap _ (.inr (.inr hx))).2.2.1 rfl
      · exact (d _ hx).2.2.2.1 rfl
    · rcases hx with hx | hx | hx | hx
      · exact (ap _ (.inl hx)).2.2.2 rfl
      · exact (ap _ (.inr (.inl hx))).2.2.2 rfl
      · exact (ap _ (.inr (.inr hx))).2.2.2 rfl
      · exact (d _ hx).2.2.2.2.1 rfl
    · rcases hx with hx | hx | hx | hx
      · exact (d' _ hi).2.1 hx
      · exact (d' _ hi).2.2.1 hx
      · exact (d' _ hi).2.2.2 hx
      · exact (d _ hx).2.2.2.2.2 hi
  have hsz := e.size
  refine ⟨he, Keep.new e hk' (fun i hi => by
    rcases hi with hi | hi | hi | hi
    · omega
    · omega
    · omega
    · exact (d _ hi).1), ⟨l1, l2, l3⟩, ⟨m1, m2, m3, m4⟩, ap, su', sv, hr', q', fun k hk => ?_, d'⟩
  rcases ho' k hk with h1 | h1
  · exact d k h1
  · have := q.hp.lt; have := q.h1.lt; have := q.h2.lt; have := q.h3.lt
    exact ⟨by omega, by omega, by omega, by omega, by omega, fun h2 => by have := (own_ne q.hu h2).2; omega⟩

theorem Half.other {w wr : World} {L : Lies} {s s' : RS} (h : Half w L s s' wr) {m : Nat} (ok : s.Ok m) (hm : m ≤ 1000000) (v : Int) (hv : v ≤ 9223372036854775807) (hs : s' = s.does v) :
    Calls Tryd.prog 27 #[.pointer (some ⟨L.q, 0, none⟩), .int .i64 v] wr fun e w' => e = .returned (.tuple #[]) ∧ Two w L s' w' := by
  obtain ⟨e, ⟨l1, l2, l3⟩, ⟨m1, m2, m3, m4⟩, ap, su, sv, r, q, d, d'⟩ := h
  refine (ref_any s m ok hm v wr L.q L.b1 L.b2 L.b3 L.k1 L.k2 L.k3 sv q hv).mono fun e' w' ⟨he, sv', hq', hk', ho'⟩ => ?_
  rw [← hs] at hq'
  have r' := r.keep hk' fun i hi hx => by
    rcases hi with rfl | rfl | rfl | hi
    · obtain ⟨a, b, c, c'⟩ := ap _ (.inl rfl)
      rcases hx with hx | hx | hx | hx | hx
      · exact a hx
      · exact b hx
      · exact c hx
      · exact c' hx
      · exact (d' _ hx).2.1 rfl
    · obtain ⟨a, b, c, c'⟩ := ap _ (.inr (.inl rfl))
      rcases hx with hx | hx | hx | hx | hx
      · exact a hx
      · exact b hx
      · exact c hx
      · exact c' hx
      · exact (d' _ hx).2.2.1 rfl
    · obtain ⟨a, b, c, c'⟩ := ap _ (.inr (.inr rfl))
      rcases hx with hx | hx | hx | hx | hx
      · exact a hx
      · exact b hx
      · exact c hx
      · exact c' hx
      · exact (d' _ hx).2.2.2 rfl
    · obtain ⟨_, a, b, c, c', c''⟩ := d _ hi
      rcases hx with hx | hx | hx | hx | hx
      · exact a hx
      · exact b hx
      · exact c hx
      · exact c' hx
      · exact c'' hx
  have hsz := e.size
  refine ⟨he, Keep.new e hk' (fun i hi => by
    rcases hi with hi | hi | hi | hi | hi
    · omega
    · omega
    · omega
    · omega
    · exact (d' _ hi).1), ⟨l1, l2, l3⟩, ⟨m1, m2, m3, m4⟩, ap, su, sv', r', hq', fun k hk => ?_, fun k hk => ?_⟩
  · obtain ⟨x0, x1, x2, x3, x4, x5⟩ := d k hk
    refine ⟨x0, x1, x2, x3, x4, fun h2 => ?_⟩
    rcases ho' k h2 with h3 | h3
    · exact x5 h3
    · have := (own_ne r.hu hk).2; omega
  · rcases ho' k hk with h1 | h1
    · exact d' k h1
    · have := r.hp.lt; have := r.h1.lt; have := r.h2.lt
      exact ⟨by omega, by omega, by omega, by omega⟩

section
variable {w wr : World} {L : Lies} {s : RS}
theorem Two.told (h : Two w L s wr) : Calls Tryd.prog 28 #[.pointer (some ⟨L.p, 0, none⟩)] wr fun e w' => e = .returned (.bool s.told) ∧ wr = w' := by
  obtain ⟨su, sv, r, _⟩ := h.pl; exact told_any s wr _ _ _ su r
theorem Two.at_ (h : Two w L s wr) : Calls Tryd.prog 30 #[.pointer (some ⟨L.p, 0, none⟩)] wr fun e w' => e = .returned (.int .i64 (s.pos : Int)) ∧ wr = w' := by
  obtain ⟨su, sv, r, _⟩ := h.pl; exact at_any s wr _ _ _ su r
theorem Two.under (h : Two w L s wr) : Calls Tryd.prog 29 #[.pointer (some ⟨L.p, 0, none⟩)] wr fun e w' => e = .returned (.int .i64 (s.un.length : Int)) ∧ wr = w' := by
  obtain ⟨su, sv, r, _⟩ := h.pl; exact under_any s wr _ _ _ su r
theorem Two.active (h : Two w L s wr) {m : Nat} (ok : s.Ok m) : Calls Tryd.prog 31 #[.pointer (some ⟨L.p, 0, none⟩)] wr fun e w' => e = .returned (.int .i64 (s.live : Int)) ∧ wr = w' := by
  obtain ⟨su, sv, r, _⟩ := h.pl; exact active_any s m ok wr _ _ _ su r
/-- What the law reads of the reference's ring itself. -/
theorem Two.reads (h : Two w L s wr) {m : Nat} (ok : s.Ok m) : wr.cell? ⟨L.q, 3, none⟩ = some (.slice (some ⟨L.b3, 0, none⟩) s.n L.k3) ∧ (∀ k, k < s.n → wr.cell? ⟨L.b3, k, none⟩ = some (.bool (s.ac.getD k false))) ∧
    (∃ a c, wr.cell? ⟨L.q, 4, none⟩ = some (.slice a s.un.length c)) ∧ wr.cell? ⟨L.q, 5, none⟩ = some (.int .i64 (s.pos : Int)) ∧ wr.cell? ⟨L.q, 9, none⟩ = some (.bool s.told) := by
  obtain ⟨su, sv, r, q, _⟩ := h.pl
  obtain ⟨a, c, hsv⟩ := slice_of_own q.hu
  refine ⟨q.hp.av 3 rfl, fun k hk => q.h3.cell k (map_act s (by rw [ok.la]; exact hk)), ⟨a, c, ?_⟩, q.hp.av 5 rfl, q.hp.av 9 rfl⟩
  have := q.hp.av 4 rfl
  simp only [List.getElem_toArray, List.getElem_cons_zero, List.getElem_cons_succ] at this
  rw [this, hsv]
end
/-- The two as they are made. -/
theorem Two.start {w w1 w2 : World} {p a1 a2 q b1 b2 b3 k1 k2 k3 : Nat} {su : Value} {s : RS} (hr : RingAt w1 p a1 a2 su s) (hsu : su.ownBlock = none) (x1 : Ext w w1) (l1 : w.heap.size ≤ p) (l2 : w.heap.size ≤ a1) (l3 : w.heap.size ≤ a2)
    (hq : RefAt w2 q b1 b2 b3 k1 k2 k3 (.slice none 0 0) s) (x2 : Ext w1 w2) (m0 : w1.heap.size ≤ q) (m1 : w1.heap.size ≤ b1) (m2 : w1.heap.size ≤ b2) (m3 : w1.heap.size ≤ b3) : Two w ⟨p, a1, a2, q, b1, b2, b3, k1, k2, k3⟩ s w2 := by
  have := hr.hp.lt; have := hr.h1.lt; have := hr.h2.lt; have := x1.size
  refine ⟨x1.trans x2, ⟨l1, l2, l3⟩, ⟨by simp only; omega, by simp only; omega, by simp only; omega, by simp only; omega⟩, fun i hi => ?_, su, _, hr.ext x2, hq, ⟨fun k hk => (by rw [hsu] at hk; cases hk), fun k hk => (by simp [Value.ownBlock] at hk)⟩⟩
  simp only at hi ⊢
  omega
end Go.Proofs.YtcfopaopcbjkeaaDoor
