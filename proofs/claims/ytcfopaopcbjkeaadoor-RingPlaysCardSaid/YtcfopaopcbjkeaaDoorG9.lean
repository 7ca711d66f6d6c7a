
/- The reference's ring: the token goes round again. -/
import Derived.Test.YtcfopaopcbjkeaaDoorG5
namespace Go.Proofs.YtcfopaopcbjkeaaDoor
set_option linter.unusedSimpArgs false
set_option linter.unusedVariables false
open Go Go.RowKit



set_option maxRecDepth 100000 in
set_option maxHeartbeats 3200000 in
theorem ref_pass_again2 (s : RS) (m : Nat) (ok : s.Ok m) (hm : m ≤ 1000000) (v : Int) (w : World) (p b1 b2 b3 k1 k2 k3 : Nat) (su : Value) (h : RefAt w p b1 b2 b3 k1 k2 k3 su s) (hv0 : 0 ≤ v) (hv1 : v ≤ 9223372036854775807) (hto : ¬ s.told = true) (hv4 : v % 4 = 3) (ha : s.act s.pos = false) (h0 : ¬ 0 < s.pos) (hov : s.over = false) (hfr : s.fr = false) (htb : s.tb = true) :
    Calls Tryd.prog 27 #[.pointer (some ⟨p, 0, none⟩), .int .i64 v] w (RQ w p b1 b2 b3 k1 k2 k3 su (s.does v)) := by
  have ht : s.told = false := by simpa using hto
  have hs : s.does v = s.pass := by
    unfold RS.does
    rw [if_neg (by simp [ht]; omega)]
    simp only [hv4]
    rfl
  rw [hs]
  clear hs
  have c9 := h.hp.av 9 rfl
  rw [ht] at c9
  obtain ⟨q, hq⟩ : ∃ q : Nat, (q : Int) = v / 4 := ⟨(v / 4).toNat, by omega⟩
  have hqt : (v / 4).toNat = q := by omega
  (try rw [hqt])
  have hq9 : (q : Int) ≤ 9223372036854775807 := by omega
  have hv0' : ¬ v < 0 := by omega
  have hq' : v / 4 = (q : Int) := hq.symm
  have hs : s.pass = { s with ps := s.ps.set 0 (s.cnt 0, false), tc := 0, tb := false, fr := false, pos := s.n - 1 } := by unfold RS.pass; rw [if_neg (by simp [ha]), if_neg h0, if_neg (by simp [hov])]
  have Hs := hid hs
  have hlo := ok.lo
  have hhi := ok.hi
  have hla := ok.la
  have hpo := ok.pos
  have c5 := h.hp.av 5 rfl
  have c3 := h.hp.av 3 rfl
  have cl := h.h3.cell s.pos (map_act s (by rw [hla]; exact hpo))
  rw [ha] at cl
  have hp0 : s.pos = 0 := by omega
  rw [hp0] at c5 cl
  have g8 := h.hp.kc (X := fun _ => False) (fun e => e) 8 rfl
  simp only [List.getElem_toArray, List.getElem_cons_zero, List.getElem_cons_succ] at g8
  have g7 := h.hp.kc (X := fun _ => False) (fun e => e) 7 rfl
  simp only [List.getElem_toArray, List.getElem_cons_zero, List.getElem_cons_succ] at g7
  rw [hfr] at g8
  rw [htb] at g7
  have hn0 : (0 : Int) < (s.n : Int) := by omega
  have Hpo := hid hp0
  clear hs ok ht hq hqt hto ha hov hp0
  go_enter Tryd.func27, Tryd.ntmps27
  go_wp2
  refine wp_flowT (fun _ => False) (by kernel_rfl) (by kernel_rfl) ?_
  repeat (apply FlowT.d; (intro w1 hk; unfold does; go_simp; (try go_ints); (first | exact DetR.mk | (simp only [↓IntWalk.iteOmega, Oper.doesUpon_value]; exact DetR.mk) | (simp only [↓IntWalk.iteOmega]; go_simp; (try go_ints); exact DetR.mk))); simp only [Act.put, List.setIfInBounds_toArray, List.set_cons_zero, List.set_cons_succ])
  refine FlowT.fin fun W hx hk => ?_
  have h := h.ext hx
  have hnn : 0 < s.n := by omega
  have hB := h.setBlk 0 hnn false
  have hp6 := hB.hp.set 6 (.int .i64 0)
  simp only [List.setIfInBounds_toArray, List.set_cons_zero, List.set_cons_succ] at hp6
  have hC := hB.setP (kset _ p 6 _) { s with ps := s.ps.set 0 (s.cnt 0, false), tc := 0 } rfl rfl rfl hp6
  have hp7 := hC.hp.set 7 (.bool false)
  simp only [List.setIfInBounds_toArray, List.set_cons_zero, List.set_cons_succ] at hp7
  have hD := hC.setP (kset _ p 7 _) { s with ps := s.ps.set 0 (s.cnt 0, false), tc := 0, tb := false } rfl rfl rfl hp7
  have hp8 := hD.hp.set 8 (.bool true)
  simp only [List.setIfInBounds_toArray, List.set_cons_zero, List.set_cons_succ] at hp8
  have hE := hD.setP (kset _ p 8 _) { s with ps := s.ps.set 0 (s.cnt 0, false), tc := 0, tb := false, fr := false } rfl rfl rfl hp8
  have hp5 := hE.hp.set 5 (.int .i64 ((s.n - 1 : Nat) : Int))
  simp only [List.setIfInBounds_toArray, List.set_cons_zero, List.set_cons_succ] at hp5
  have hF := hE.setP (kset _ p 5 _) { s with ps := s.ps.set 0 (s.cnt 0, false), tc := 0, tb := false, fr := false, pos := s.n - 1 } rfl rfl rfl hp5
  have hpm : ((s.n - 1 : Nat) : Int) = (s.n : Int) - 1 := by omega
  rw [← Hs.out, hpm] at hF
  have hkF : Keep (fq p b1 b2 b3 su) w (((((W.setCell ⟨b2, 0, none⟩ (.bool false)).setCell ⟨p, 6, none⟩ (.int .i64 0)).setCell ⟨p, 7, none⟩ (.bool false)).setCell ⟨p, 8, none⟩ (.bool true)).setCell ⟨p, 5, none⟩ (.int .i64 ((s.n : Int) - 1))) := Keep.set (Keep.set (Keep.set (Keep.set (Keep.set (hx.keep _) (.inr (.inr (.inl rfl))) _) (.inl rfl) _) (.inl rfl) _) (.inl rfl) _) (.inl rfl) _
  have HF := hid hF
  have HkF := hid hkF
  obtain ⟨n1, n2, n3, n4, n5, n6⟩ := h.d
  have c0 := h.hp.av 0 rfl
  have c2 := h.hp.av 2 rfl
  have c5 := h.hp.av 5 rfl
  have c6 := h.hp.av 6 rfl
  have c7 := h.hp.av 7 rfl
  have c8 := h.hp.av 8 rfl
  simp only [List.getElem_toArray, List.getElem_cons_zero, List.getElem_cons_succ] at c0 c2 c5 c6 c7 c8
  have x2 := h.h2.cell 0 (map_blk s hnn)
  have z2 := h.h2.free
  have zb := hB.hp.free
  have zc := hC.hp.free
  have zd := hD.hp.free
  have ze := hE.hp.free
  have m1 : ¬ b2 = p := fun e => n2 e.symm
  clear h hB hC hD hE hF hkF hp5 hp6 hp7 hp8 c9 c3 cl hx hk
  go_wp2
  go_end0
  exact ⟨rfl, su, HF.out, HkF.out, fun i hi => .inl hi⟩
end Go.Proofs.YtcfopaopcbjkeaaDoor
