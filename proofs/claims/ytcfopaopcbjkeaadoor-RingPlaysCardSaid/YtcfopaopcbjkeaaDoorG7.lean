
/- The reference's ring: the token is passed down. -/
import Derived.Test.YtcfopaopcbjkeaaDoorG5
namespace Go.Proofs.YtcfopaopcbjkeaaDoor
set_option linter.unusedSimpArgs false
set_option linter.unusedVariables false
open Go Go.RowKit


set_option maxRecDepth 100000 in
set_option maxHeartbeats 3200000 in
theorem ref_pass_down (s : RS) (m : Nat) (ok : s.Ok m) (hm : m ≤ 1000000) (v : Int) (w : World) (p b1 b2 b3 k1 k2 k3 : Nat) (su : Value) (h : RefAt w p b1 b2 b3 k1 k2 k3 su s) (hv0 : 0 ≤ v) (hv1 : v ≤ 9223372036854775807) (hto : ¬ s.told = true) (hv4 : v % 4 = 3) (ha : s.act s.pos = false) (h0 : 0 < s.pos) :
    Calls Tryd.prog 27 #[.pointer (some ⟨p, 0, none⟩), .int .i64 v] w (RQ w p b1 b2 b3 k1 k2 k3 su (s.does v)) := by
  have ht : s.told = false := by simpa using hto
  have hs : s.does v = s.pass := by
    unfold RS.does
    rw [if_neg (by simp [ht]; omega)]
    simp only [hv4]
    rfl
  rw [hs]
  clear hs
  have c9 := h.hp.av 9 rfl
  rw [ht] at c9
  obtain ⟨q, hq⟩ : ∃ q : Nat, (q : Int) = v / 4 := ⟨(v / 4).toNat, by omega⟩
  have hqt : (v / 4).toNat = q := by omega
  (try rw [hqt])
  have hq9 : (q : Int) ≤ 9223372036854775807 := by omega
  have hv0' : ¬ v < 0 := by omega
  have hq' : v / 4 = (q : Int) := hq.symm
  have hs : s.pass = { s with ps := s.ps.set s.pos (s.cnt s.pos, false), tc := s.tc + s.cnt s.pos, tb := s.tb || s.blk s.pos, pos := s.pos - 1 } := by unfold RS.pass; rw [if_neg (by simp [ha]), if_pos h0]
  have Hs := hid hs
  have hlo := ok.lo
  have hhi := ok.hi
  have hla := ok.la
  have hpo := ok.pos
  have c5 := h.hp.av 5 rfl
  have c3 := h.hp.av 3 rfl
  have cl := h.h3.cell s.pos (map_act s (by rw [hla]; exact hpo))
  rw [ha] at cl
  have hcb := ok.cb s.pos
  have htb := ok.tb
  have hmm : m * m ≤ 1000000000000 := Nat.le_trans (Nat.mul_le_mul hm hm) (by omega)
  have g6 := h.hp.kc (X := fun _ => False) (fun e => e) 6 rfl
  have g1 := h.hp.kc (X := fun _ => False) (fun e => e) 1 rfl
  have y1 : ∀ w1, Keep (fun _ => False) w w1 → w1.cell? ⟨b1, s.pos, none⟩ = some (.int .i64 (s.cnt s.pos)) := fun w1 hk => (h.h1.keep hk (fun e => e)).cell s.pos (map_cnt s (by omega))
  simp only [List.getElem_toArray, List.getElem_cons_zero, List.getElem_cons_succ] at g6 g1
  obtain ⟨c, hc⟩ : ∃ c, c = s.cnt s.pos := ⟨_, rfl⟩
  obtain ⟨tc, htc⟩ : ∃ tc, tc = s.tc := ⟨_, rfl⟩
  obtain ⟨pos, hpos⟩ : ∃ pos, pos = s.pos := ⟨_, rfl⟩
  rw [← hpos] at hc c5 cl y1 h0 hpo Hs
  rw [← hc] at y1 Hs
  rw [← hpos, ← hc] at hcb
  rw [← htc] at g6 htb Hs
  have Hc := hid hc
  have Htc := hid htc
  have Hpos := hid hpos
  have hpn : (pos : Int) < (s.n : Int) := by omega
  have hp1 : (0 : Int) < (pos : Int) := by omega
  have Ht := hid ht
  clear hs ok ht hq hqt hto ha hc htc hpos
  go_enter Tryd.func27, Tryd.ntmps27
  go_wp2
  refine wp_flowT (fun _ => False) (by kernel_rfl) (by kernel_rfl) ?_
  repeat (apply FlowT.d; (intro w1 hk; unfold does; go_simp; (try go_ints); (first | exact DetR.mk | (simp only [↓IntWalk.iteOmega, Oper.doesUpon_value]; exact DetR.mk) | (simp only [↓IntWalk.iteOmega]; go_simp; (try go_ints); exact DetR.mk))); simp only [Act.put, List.setIfInBounds_toArray, List.set_cons_zero, List.set_cons_succ])
  refine FlowT.last (fun _ w' => ∃ w1, Ext w w1 ∧ w' = w1.setCell ⟨p, 6, none⟩ (.int .i64 (tc + c))) 15 rfl (by kernel_rfl) (by kernel_rfl) (fun w1 hC hk => ?_) (fun _ W2 hR => ?_)
  · have z1 := (h.hp.ext hC).free
    unfold does
    go_simp
    exact ⟨w1, hC, rfl⟩
  obtain ⟨w1, hx1, rfl⟩ := hR
  simp only [Act.put]
  have hp6 := (h.ext hx1).hp.set 6 (.int .i64 (tc + c))
  simp only [List.setIfInBounds_toArray, List.set_cons_zero, List.set_cons_succ] at hp6
  have hA : RefAt (w1.setCell ⟨p, 6, none⟩ (.int .i64 (tc + c))) p b1 b2 b3 k1 k2 k3 su { s with tc := tc + c } := (h.ext hx1).setP (kset w1 p 6 _) { s with tc := tc + c } rfl rfl rfl hp6
  have hkA : Keep (fq p b1 b2 b3 su) w (w1.setCell ⟨p, 6, none⟩ (.int .i64 (tc + c))) := Keep.set (hx1.keep _) (.inl rfl) _
  have HkA := hid hkA
  clear hp6 hkA hx1 g6 g1 y1 c9 c5 c3 cl h
  generalize w1.setCell ⟨p, 6, none⟩ (.int .i64 (tc + c)) = W2 at *
  obtain ⟨A, hAd⟩ : ∃ A : RS, A = { s with tc := tc + c } := ⟨_, rfl⟩
  rw [← hAd] at hA
  have hnA : A.n = s.n := by rw [hAd]; rfl
  have hpA : A.pos = pos := by rw [hAd, Hpos.out]
  have hcA : A.cnt pos = c := by rw [hAd, Hc.out]; rfl
  have htA : A.tb = s.tb := by rw [hAd]
  have hbA : A.blk pos = s.blk pos := by rw [hAd]; rfl
  have hp7 := hA.hp.set 7 (.bool (A.tb || A.blk pos))
  simp only [List.setIfInBounds_toArray, List.set_cons_zero, List.set_cons_succ] at hp7
  have hB := hA.setP (kset W2 p 7 _) { A with tb := A.tb || A.blk pos } rfl rfl rfl hp7
  have hC := hB.setBlk pos (by show pos < A.n; rw [hnA]; exact hpo) false
  have hp5 := hC.hp.set 5 (.int .i64 ((pos - 1 : Nat) : Int))
  simp only [List.setIfInBounds_toArray, List.set_cons_zero, List.set_cons_succ] at hp5
  have hD := hC.setP (kset _ p 5 _) { A with tb := A.tb || A.blk pos, ps := A.ps.set pos (A.cnt pos, false), pos := pos - 1 } rfl rfl rfl hp5
  have hfin : ({ A with tb := A.tb || A.blk pos, ps := A.ps.set pos (A.cnt pos, false), pos := pos - 1 } : RS) = s.pass := by
    rw [Hs.out, hcA, htA, hbA, hAd]
  rw [hfin] at hD
  have hpm : ((pos - 1 : Nat) : Int) = (pos : Int) - 1 := by omega
  rw [hpm] at hD
  have hkD : Keep (fq p b1 b2 b3 su) w (((W2.setCell ⟨p, 7, none⟩ (.bool (A.tb || A.blk pos))).setCell ⟨b2, pos, none⟩ (.bool false)).setCell ⟨p, 5, none⟩ (.int .i64 ((pos : Int) - 1))) := Keep.set (Keep.set (Keep.set HkA.out (.inl rfl) _) (.inr (.inr (.inl rfl))) _) (.inl rfl) _
  have HD := hid hD
  have HkD := hid hkD
  obtain ⟨n1, n2, n3, n4, n5, n6⟩ := hA.d
  have c7 := hA.hp.av 7 rfl
  have c5 := hA.hp.av 5 rfl
  have c2 := hA.hp.av 2 rfl
  simp only [List.getElem_toArray, List.getElem_cons_zero, List.getElem_cons_succ, hnA] at c7 c2 c5
  have x2 := hA.h2.cell pos (map_blk A (by omega))
  have z2 := hA.h2.free
  have zp := hA.hp.free
  have zq := hC.hp.free
  have m1 : ¬ b2 = p := fun e => n2 e.symm
  clear hA hB hC hD hkD hp7 hp5 hcA htA hbA hnA hpA hfin hAd HkA Hs
  generalize A.tb = tb at *
  generalize A.blk pos = bb at *
  have hq1 : (-9223372036854775808 : Int) ≤ (pos : Int) - 1 := by omega
  cases tb
  · simp only [Bool.false_or] at HD HkD zq
    go_wp2
    go_end0
    exact ⟨rfl, su, HD.out, HkD.out, fun i hi => .inl hi⟩
  · simp only [Bool.true_or] at HD HkD zq
    go_wp2
    go_end0
    exact ⟨rfl, su, HD.out, HkD.out, fun i hi => .inl hi⟩
end Go.Proofs.YtcfopaopcbjkeaaDoor
