
/- The reference's ring: a peer falls silent; a message comes. -/
import Derived.Test.YtcfopaopcbjkeaaDoorG3
namespace Go.Proofs.YtcfopaopcbjkeaaDoor
set_option linter.unusedSimpArgs false
set_option linter.unusedVariables false
open Go Go.RowKit

set_option maxRecDepth 100000 in
set_option maxHeartbeats 3200000 in
theorem ref_quiet (s : RS) (m : Nat) (ok : s.Ok m) (v : Int) (w : World) (p b1 b2 b3 k1 k2 k3 : Nat) (su : Value) (h : RefAt w p b1 b2 b3 k1 k2 k3 su s) (hv0 : 0 ≤ v) (hv1 : v ≤ 9223372036854775807) (hto : ¬ s.told = true) (hv4 : v % 4 = 2) :
    Calls Tryd.prog 27 #[.pointer (some ⟨p, 0, none⟩), .int .i64 v] w (RQ w p b1 b2 b3 k1 k2 k3 su (s.does v)) := by
  have ht : s.told = false := by simpa using hto
  have hs : s.does v = s.quiet (v / 4).toNat := by
    unfold RS.does
    rw [if_neg (by simp [ht]; omega)]
    simp only [hv4]
    rfl
  rw [hs]
  clear hs
  have c9 := h.hp.av 9 rfl
  rw [ht] at c9
  obtain ⟨q, hq⟩ : ∃ q : Nat, (q : Int) = v / 4 := ⟨(v / 4).toNat, by omega⟩
  have hqt : (v / 4).toNat = q := by omega
  (try rw [hqt])
  have hq9 : (q : Int) ≤ 9223372036854775807 := by omega
  have hv0' : ¬ v < 0 := by omega
  have hq' : v / 4 = (q : Int) := hq.symm
  have hlo := ok.lo
  have hhi := ok.hi
  have hla := ok.la
  have hlt : q % s.n < s.n := Nat.mod_lt _ (by omega)
  have hfr : (q : Int) % (s.n : Int) = ((q % s.n : Nat) : Int) := rfl
  have hfr0 : (0 : Int) ≤ (q : Int) % (s.n : Int) := by omega
  have hfr1 : (q : Int) % (s.n : Int) < (s.n : Int) := by omega
  have Hs : Hid (s.quiet q = { s with ac := s.ac.set (q % s.n) false }) := hid rfl
  obtain ⟨fr, hfrd⟩ : ∃ fr, fr = q % s.n := ⟨_, rfl⟩
  rw [← hfrd] at hlt hfr Hs
  have hlt' : (fr : Int) < (s.n : Int) := by omega
  have hcl := map_act s (i := fr) (by omega)
  have g0 := h.hp.kc (X := fun _ => False) (fun e => e) 0 rfl
  have g3 := h.hp.kc (X := fun _ => False) (fun e => e) 3 rfl
  have r3 : ∀ w1, Keep (fun _ => False) w w1 → w1.cell? ⟨b3, fr, none⟩ = some (.bool (s.act fr)) := fun w1 hk => (h.h3.keep hk (fun e => e)).cell fr hcl
  have hn0 : ((s.n : Int) == 0) = false := by simp; omega
  have hn3 : ((s.n : Int) = 0) = False := by simp; omega
  have hn4 : (s.n = 0) = False := by simp; omega
  have htm : (q : Int).tmod (s.n : Int) = (fr : Int) := by rw [Int.tmod_eq_emod_of_nonneg (by omega), hfr]
  have Htm := hid htm
  clear ht hq hqt hto hfrd hcl htm
  go_enter Tryd.func27, Tryd.ntmps27
  go_wp2
  refine wp_flowT (fun _ => False) (by kernel_rfl) (by kernel_rfl) ?_
  repeat (apply FlowT.d; (intro w1 hk; unfold does; go_simp; (try go_ints); (first | exact DetR.mk | (simp only [↓IntWalk.iteOmega, Oper.doesUpon_value]; exact DetR.mk) | (simp only [↓IntWalk.iteOmega]; go_simp; (try go_ints); exact DetR.mk))); simp only [Act.put, List.setIfInBounds_toArray, List.set_cons_zero, List.set_cons_succ])
  refine FlowT.last (fun _ w' => ∃ w1, Ext w w1 ∧ w' = w1.setCell ⟨b3, fr, none⟩ (.bool false)) 11 rfl (by kernel_rfl) (by kernel_rfl) (fun w1 hC hk => ?_) (fun _ W2 hR => ?_)
  · have q1 := r3 w1 hk
    have f1 := (h.h3.ext hC).free fr
    unfold does
    go_simp
    exact ⟨w1, hC, rfl⟩
  obtain ⟨w1, hx1, rfl⟩ := hR
  simp only [Act.put]
  have hW2 := hid ((h.ext hx1).setAct fr (by omega) false)
  have hk2 : Keep (fq p b1 b2 b3 su) w (w1.setCell ⟨b3, fr, none⟩ (.bool false)) := Keep.set (hx1.keep _) (.inr (.inr (.inr (.inl rfl)))) _
  generalize w1.setCell ⟨b3, fr, none⟩ (.bool false) = W2 at *
  clear g0 g3 r3 hn0 hn3 hn4 c9 h
  go_wp2
  go_end0
  exact ⟨rfl, su, by rw [Hs.out]; exact hW2.out, hk2, fun k hk => .inl hk⟩

set_option maxRecDepth 100000 in
set_option maxHeartbeats 1600000 in
theorem ref_come_no (s : RS) (m : Nat) (ok : s.Ok m) (v : Int) (w : World) (p b1 b2 b3 k1 k2 k3 : Nat) (su : Value) (h : RefAt w p b1 b2 b3 k1 k2 k3 su s) (hv0 : 0 ≤ v) (hv1 : v ≤ 9223372036854775807) (hto : ¬ s.told = true) (hv4 : v % 4 = 1) (hu : s.un.length = 0) :
    Calls Tryd.prog 27 #[.pointer (some ⟨p, 0, none⟩), .int .i64 v] w (RQ w p b1 b2 b3 k1 k2 k3 su (s.does v)) := by
  have ht : s.told = false := by simpa using hto
  have hs : s.does v = s.come (v / 4).toNat := by
    unfold RS.does
    rw [if_neg (by simp [ht]; omega)]
    simp only [hv4]
    rfl
  rw [hs]
  clear hs
  have c9 := h.hp.av 9 rfl
  rw [ht] at c9
  obtain ⟨q, hq⟩ : ∃ q : Nat, (q : Int) = v / 4 := ⟨(v / 4).toNat, by omega⟩
  have hqt : (v / 4).toNat = q := by omega
  (try rw [hqt])
  have hq9 : (q : Int) ≤ 9223372036854775807 := by omega
  have hv0' : ¬ v < 0 := by omega
  have hq' : v / 4 = (q : Int) := hq.symm
  have hs : s.come q = s := by unfold RS.come; rw [if_pos hu]
  rw [hs]
  have c4 := h.hp.av 4 rfl
  obtain ⟨a4, n4, hsu⟩ := slice_of_own h.hu
  rw [hu] at hsu
  subst hsu
  have hR := RQ.same h (Ext.refl w)
  generalize RQ w p b1 b2 b3 k1 k2 k3 _ s = R at *
  clear h hs ok ht hq hqt hto hu
  go_enter Tryd.func27, Tryd.ntmps27
  go_wp2
  go_end0
  exact hR
end Go.Proofs.YtcfopaopcbjkeaaDoor
