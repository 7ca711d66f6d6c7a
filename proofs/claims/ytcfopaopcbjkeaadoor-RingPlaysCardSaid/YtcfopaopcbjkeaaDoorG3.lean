
/- The reference's ring: a message is sent. -/
import Derived.Test.YtcfopaopcbjkeaaDoorG2
namespace Go.Proofs.YtcfopaopcbjkeaaDoor
set_option linter.unusedSimpArgs false
set_option linter.unusedVariables false
open Go Go.RowKit

set_option maxRecDepth 100000 in
set_option maxHeartbeats 3200000 in
theorem ref_send_yes (s : RS) (m : Nat) (ok : s.Ok m) (hm : m ≤ 1000000) (v : Int) (w : World) (p b1 b2 b3 k1 k2 k3 : Nat) (su : Value) (h : RefAt w p b1 b2 b3 k1 k2 k3 su s) (hv0 : 0 ≤ v) (hv1 : v ≤ 9223372036854775807) (hto : ¬ s.told = true) (hv4 : v % 4 = 0) (ha : s.act ((v / 4).toNat % s.n) = true) :
    Calls Tryd.prog 27 #[.pointer (some ⟨p, 0, none⟩), .int .i64 v] w (RQ w p b1 b2 b3 k1 k2 k3 su (s.does v)) := by
  have ht : s.told = false := by simpa using hto
  have hs : s.does v = s.send (v / 4).toNat := by
    unfold RS.does
    rw [if_neg (by simp [ht]; omega)]
    simp only [hv4]
    rfl
  rw [hs]
  clear hs
  have c9 := h.hp.av 9 rfl
  rw [ht] at c9
  obtain ⟨q, hq⟩ : ∃ q : Nat, (q : Int) = v / 4 := ⟨(v / 4).toNat, by omega⟩
  have hqt : (v / 4).toNat = q := by omega
  (try rw [hqt])
  have hq9 : (q : Int) ≤ 9223372036854775807 := by omega
  have hv0' : ¬ v < 0 := by omega
  have hq' : v / 4 = (q : Int) := hq.symm
  have hlo := ok.lo
  have hhi := ok.hi
  have hul := ok.ul
  rw [hqt] at ha
  have hs : s.send q = { s with ps := s.ps.set (q % s.n) (s.cnt (q % s.n) + 1, s.blk (q % s.n)), un := s.un ++ [s.goal q] } := by unfold RS.send; simp [ha]
  rw [hs]
  have hlt : q % s.n < s.n := Nat.mod_lt _ (by omega)
  have c0 := h.hp.av 0 rfl
  have c3 := h.hp.av 3 rfl
  have cl := h.h3.cell (q % s.n) (map_act s (by rw [ok.la]; exact hlt))
  rw [ha] at cl
  have hcb := ok.cb (q % s.n)
  have hgoal : ((s.goal q : Nat) : Int) = ((q : Int) % (s.n : Int) + 1 + (q : Int) / (s.n : Int) % ((s.n : Int) - 1)) % (s.n : Int) := by
    unfold RS.goal
    rw [Int.natCast_emod, Int.natCast_add, Int.natCast_add, Int.natCast_emod, Int.natCast_emod, Int.natCast_ediv, Int.natCast_sub (by omega)]
    rfl
  have hgb : (0 : Int) ≤ (q : Int) / (s.n : Int) % ((s.n : Int) - 1) ∧ (q : Int) / (s.n : Int) % ((s.n : Int) - 1) < (s.n : Int) - 1 := ⟨Int.emod_nonneg _ (by omega), Int.emod_lt_of_pos _ (by omega)⟩
  have hqb : (0 : Int) ≤ (q : Int) / (s.n : Int) ∧ (q : Int) / (s.n : Int) ≤ 9223372036854775807 := ⟨Int.ediv_nonneg (by omega) (by omega), by have := Int.ediv_le_self (a := (q : Int)) (s.n : Int) (by omega); omega⟩
  have hfr : (q : Int) % (s.n : Int) = ((q % s.n : Nat) : Int) := rfl
  have hfr0 : (0 : Int) ≤ (q : Int) % (s.n : Int) := by omega
  have hfr1 : (q : Int) % (s.n : Int) < (s.n : Int) := by omega
  have Hgoal := hid hgoal
  have Hgb := hid hgb
  have Hqb := hid hqb
  clear hgoal hgb hqb
  obtain ⟨fr, hfrd⟩ : ∃ fr, fr = q % s.n := ⟨_, rfl⟩
  rw [← hfrd] at hlt cl hcb hfr ⊢
  have Hfrd := hid hfrd
  clear hfrd ha hs
  have hlt' : (fr : Int) < (s.n : Int) := by omega
  have hw0 := h.hp.lt
  have Hq := hid hq
  have Hqt := hid hqt
  clear ht hq hqt hto
  go_enter Tryd.func27, Tryd.ntmps27
  go_wp2
  have g0 := h.hp.kc (X := fun _ => False) (fun e => e) 0 rfl
  have hgb := Hgb.out
  have hqb := Hqb.out
  obtain ⟨e1, he1⟩ : ∃ e : Int, e = (q : Int) / (s.n : Int) := ⟨_, rfl⟩
  rw [← he1] at hgb hqb
  have Hg2 : Hid ((s.goal q : Int) = ((fr : Int) + 1 + e1 % ((s.n : Int) - 1)) % (s.n : Int)) := by rw [he1, ← hfr]; exact Hgoal.out
  have He1 := hid he1
  clear he1 Hgoal Hgb Hqb
  have hx0 : 0 ≤ (fr : Int) + 1 + e1 % ((s.n : Int) - 1) := by omega
  have hx1 : (fr : Int) + 1 + e1 % ((s.n : Int) - 1) ≤ 100 := by omega
  have hxg : ((fr : Int) + 1 + e1 % ((s.n : Int) - 1)).tmod (s.n : Int) = (s.goal q : Int) := by rw [Int.tmod_eq_emod_of_nonneg hx0, ← Hg2.out]
  have Hx := hid hxg
  clear hxg
  have hn0 : ((s.n : Int) == 0) = false := by simp; omega
  have hn1 : ((s.n : Int) - 1 == 0) = false := by simp; omega
  have hn2 : ((s.n : Int) - 1 = 0) = False := by simp; omega
  have hn3 : ((s.n : Int) = 0) = False := by simp; omega
  have hn4 : (s.n = 0) = False := by simp; omega
  have hw2' : IntKind.i64.wrap ((q : Int) / (s.n : Int)) = e1 := by rw [← He1.out]; exact IntWalk.i64_in _ (by omega)
  refine wp_flowT (fun _ => False) (by kernel_rfl) (by kernel_rfl) ?_
  repeat (apply FlowT.d; (intro w1 hk; unfold does; go_simp; (try go_ints); (first | exact DetR.mk | (simp only [↓IntWalk.iteOmega, Oper.doesUpon_value]; exact DetR.mk) | (simp only [↓IntWalk.iteOmega]; go_simp; (try go_ints); exact DetR.mk))); simp only [Act.put, List.setIfInBounds_toArray, List.set_cons_zero, List.set_cons_succ])
  rw [← Hg2.out]
  refine FlowT.fin fun W hx hk => ?_
  have hW := h.ext hx
  have hkW : Keep (fq p b1 b2 b3 su) w W := hx.keep _
  have hsz := hx.size
  clear hk g0 c0 c3 cl c9 h hx hn0 hn1 hn2 hn3 hn4 hw2' Hx hx0 hx1
  obtain ⟨c, hcd⟩ : ∃ c, c = s.cnt fr := ⟨_, rfl⟩
  have hr1 := map_cnt s hlt
  rw [← hcd] at hcb hr1
  have c1 := hW.hp.kc (X := fun _ => False) (fun e => e) 1 rfl
  have r1 : ∀ w1, Keep (fun _ => False) W w1 → w1.cell? ⟨b1, fr, none⟩ = some (.int .i64 c) := fun w1 hk => (hW.h1.keep hk (fun e => e)).cell fr hr1
  have Hcd := hid hcd
  clear hcd hr1
  generalize s.goal q = to at *
  go_wp2
  refine wp_flowT (fun _ => False) (by kernel_rfl) (by kernel_rfl) ?_
  repeat (apply FlowT.d; (intro w1 hk; unfold does; go_simp; (try go_ints); (first | exact DetR.mk | (simp only [↓IntWalk.iteOmega, Oper.doesUpon_value]; exact DetR.mk) | (simp only [↓IntWalk.iteOmega]; go_simp; (try go_ints); exact DetR.mk))); simp only [Act.put, List.setIfInBounds_toArray, List.set_cons_zero, List.set_cons_succ])
  refine FlowT.last (fun _ w' => ∃ w1, Ext W w1 ∧ w' = w1.setCell ⟨b1, fr, none⟩ (.int .i64 (c + 1))) 14 rfl (by kernel_rfl) (by kernel_rfl) (fun w1 hC hk => ?_) (fun _ W2 hR => ?_)
  · have q1 := r1 w1 hk
    have f1 := (hW.h1.ext hC).free fr
    unfold does
    go_simp
    exact ⟨w1, hC, rfl⟩
  obtain ⟨w1, hx1, rfl⟩ := hR
  simp only [Act.put]
  have hW2 := (hW.ext hx1).setCnt fr hlt (c + 1)
  have hk2 : Keep (fq p b1 b2 b3 su) w (w1.setCell ⟨b1, fr, none⟩ (.int .i64 (c + 1))) := Keep.set (hkW.ext_r hx1) (.inr (.inl rfl)) _
  have hsz2 : w.heap.size ≤ (w1.setCell ⟨b1, fr, none⟩ (.int .i64 (c + 1))).heap.size := hk2.size
  clear c1 r1 hW hx1 hkW
  generalize w1.setCell ⟨b1, fr, none⟩ (.int .i64 (c + 1)) = W2 at *
  have c4 := hW2.hp.av 4 rfl
  go_wp2_with (at_builtin; refine wpList_append_one 0 (Nat.zero_le _) 58 124 (.agg #[.int .i64 0]) 8 Tryd.underlying58 message_info rfl (by omega) rfl _ _ rfl su s.un.length _ rfl (ownsRow_ext hW2.hu ((Ext.refl _).alloc _)) W2.heap.size (.int .i64 (to : Int)) rfl rfl (Blk.new _ _ _) (by omega) ?_; intro su' w3 ho3 hk3 hl3; obtain ⟨a3, c3, rfl⟩ := slice_of_own ho3; have f3 := (hW2.hp.alloc (.cells #[.int .i64 (to : Int)] 124)).keep hk3 (fun e => (hW2.du p e).1 rfl); have g3 := f3.av 4 rfl; have z3 := f3.free)
  have hp4 := f3.set 4 (.slice a3 (s.un.length + 1) c3)
  simp only [List.setIfInBounds_toArray, List.set_cons_zero, List.set_cons_succ] at hp4
  have hkk : Keep (fun k => k = p ∨ su.ownBlock = some k) W2 (w3.setCell ⟨p, 4, none⟩ (.slice a3 (s.un.length + 1) c3)) :=
    Keep.set (X := fun k => k = p ∨ su.ownBlock = some k) ((((Ext.refl W2).alloc _).keep _).trans (hk3.mono fun k _ hk => .inr hk)) (.inl rfl) _
  have hloc : ∀ k, (Value.slice a3 (s.un.length + 1) c3).ownBlock = some k → su.ownBlock = some k ∨ W2.heap.size ≤ k := by
    intro k hk
    rcases hl3 with h1 | h1
    · exact .inl (h1 ▸ hk)
    · rw [h1] at hk
      have := Option.some.inj hk
      simp at this
      exact .inr (by omega)
  have fin := hW2.setUn hkk (s.un ++ [to]) hp4 (by
    have := ownsRow_keep (X := fun k => k = p) ho3 (Keep.set (X := fun k => k = p) (Keep.refl _ _) rfl _) (w' := w3.setCell ⟨p, 4, none⟩ (.slice a3 (s.un.length + 1) c3)) fun k hk e => by
      rcases hloc k hk with h1 | h1
      · exact (hW2.du k h1).1 e
      · have := hW2.hp.lt; omega
    simpa using this) hloc
  have hkf : Keep (fq p b1 b2 b3 su) w (w3.setCell ⟨p, 4, none⟩ (.slice a3 (s.un.length + 1) c3)) := hk2.trans (hkk.mono fun k _ hk => hk.elim .inl fun h => .inr (.inr (.inr (.inr h))))
  have Hfin := hid fin
  clear fin hp4 hkk f3 g3 z3 c4 hW2 hk3 ho3 hl3
  generalize w3.setCell ⟨p, 4, none⟩ (.slice a3 (s.un.length + 1) c3) = w4 at *
  go_wp2
  go_end0
  refine ⟨rfl, _, ?_, hkf, fun k hk => (hloc k hk).imp id fun h => Nat.le_trans hsz2 h⟩
  rw [← Hcd.out]
  exact Hfin.out
end Go.Proofs.YtcfopaopcbjkeaaDoor
