
/- The reference's ring: the token is passed on. -/
import Derived.Test.YtcfopaopcbjkeaaDoorG5
namespace Go.Proofs.YtcfopaopcbjkeaaDoor
set_option linter.unusedSimpArgs false
set_option linter.unusedVariables false
open Go Go.RowKit


set_option maxRecDepth 100000 in
set_option maxHeartbeats 1600000 in
theorem ref_pass_act (s : RS) (m : Nat) (ok : s.Ok m) (v : Int) (w : World) (p b1 b2 b3 k1 k2 k3 : Nat) (su : Value) (h : RefAt w p b1 b2 b3 k1 k2 k3 su s) (hv0 : 0 ≤ v) (hv1 : v ≤ 9223372036854775807) (hto : ¬ s.told = true) (hv4 : v % 4 = 3) (ha : s.act s.pos = true) :
    Calls Tryd.prog 27 #[.pointer (some ⟨p, 0, none⟩), .int .i64 v] w (RQ w p b1 b2 b3 k1 k2 k3 su (s.does v)) := by
  have ht : s.told = false := by simpa using hto
  have hs : s.does v = s.pass := by
    unfold RS.does
    rw [if_neg (by simp [ht]; omega)]
    simp only [hv4]
    rfl
  rw [hs]
  clear hs
  have c9 := h.hp.av 9 rfl
  rw [ht] at c9
  obtain ⟨q, hq⟩ : ∃ q : Nat, (q : Int) = v / 4 := ⟨(v / 4).toNat, by omega⟩
  have hqt : (v / 4).toNat = q := by omega
  (try rw [hqt])
  have hq9 : (q : Int) ≤ 9223372036854775807 := by omega
  have hv0' : ¬ v < 0 := by omega
  have hq' : v / 4 = (q : Int) := hq.symm
  have hs : s.pass = s := by unfold RS.pass; rw [if_pos ha]
  rw [hs]
  have hlo := ok.lo
  have hhi := ok.hi
  have hla := ok.la
  have hpo := ok.pos
  have c5 := h.hp.av 5 rfl
  have c3 := h.hp.av 3 rfl
  have cl := h.h3.cell s.pos (map_act s (by rw [hla]; exact hpo))
  rw [ha] at cl
  have hR := RQ.same h (Ext.refl w)
  generalize RQ w p b1 b2 b3 k1 k2 k3 su s = R at *
  have hpn : (s.pos : Int) < (s.n : Int) := by omega
  clear h hs ok ht hq hqt hto ha
  generalize s.pos = pos at *
  go_enter Tryd.func27, Tryd.ntmps27
  go_wp2
  go_end0
  exact hR

set_option maxRecDepth 100000 in
set_option maxHeartbeats 3200000 in
theorem ref_pass_told (s : RS) (m : Nat) (ok : s.Ok m) (hm : m ≤ 1000000) (v : Int) (w : World) (p b1 b2 b3 k1 k2 k3 : Nat) (su : Value) (h : RefAt w p b1 b2 b3 k1 k2 k3 su s) (hv0 : 0 ≤ v) (hv1 : v ≤ 9223372036854775807) (hto : ¬ s.told = true) (hv4 : v % 4 = 3) (ha : s.act s.pos = false) (h0 : ¬ 0 < s.pos) (hov : s.over = true) :
    Calls Tryd.prog 27 #[.pointer (some ⟨p, 0, none⟩), .int .i64 v] w (RQ w p b1 b2 b3 k1 k2 k3 su (s.does v)) := by
  have ht : s.told = false := by simpa using hto
  have hs : s.does v = s.pass := by
    unfold RS.does
    rw [if_neg (by simp [ht]; omega)]
    simp only [hv4]
    rfl
  rw [hs]
  clear hs
  have c9 := h.hp.av 9 rfl
  rw [ht] at c9
  obtain ⟨q, hq⟩ : ∃ q : Nat, (q : Int) = v / 4 := ⟨(v / 4).toNat, by omega⟩
  have hqt : (v / 4).toNat = q := by omega
  (try rw [hqt])
  have hq9 : (q : Int) ≤ 9223372036854775807 := by omega
  have hv0' : ¬ v < 0 := by omega
  have hq' : v / 4 = (q : Int) := hq.symm
  have hs : s.pass = { s with told := true } := by unfold RS.pass; rw [if_neg (by simp [ha]), if_neg h0, if_pos hov]
  rw [hs]
  have hlo := ok.lo
  have hhi := ok.hi
  have hla := ok.la
  have hpo := ok.pos
  have c5 := h.hp.av 5 rfl
  have c3 := h.hp.av 3 rfl
  have cl := h.h3.cell s.pos (map_act s (by rw [hla]; exact hpo))
  rw [ha] at cl
  have hcb := ok.cb 0
  have htb := ok.tb
  have hmm : m * m ≤ 1000000000000 := Nat.le_trans (Nat.mul_le_mul hm hm) (by omega)
  have hp0 : s.pos = 0 := by omega
  simp only [RS.over, Bool.and_eq_true, Bool.not_eq_true', beq_iff_eq] at hov
  obtain ⟨o1, ⟨o2, o3⟩, o4⟩ := hov
  rw [hp0] at c5 cl
  have g8 := h.hp.kc (X := fun _ => False) (fun e => e) 8 rfl
  have g7 := h.hp.kc (X := fun _ => False) (fun e => e) 7 rfl
  have g6 := h.hp.kc (X := fun _ => False) (fun e => e) 6 rfl
  have g1 := h.hp.kc (X := fun _ => False) (fun e => e) 1 rfl
  have g2 := h.hp.kc (X := fun _ => False) (fun e => e) 2 rfl
  have y1 : ∀ w1, Keep (fun _ => False) w w1 → w1.cell? ⟨b1, 0, none⟩ = some (.int .i64 (s.cnt 0)) := fun w1 hk => (h.h1.keep hk (fun e => e)).cell 0 (map_cnt s (by omega))
  have y2 : ∀ w1, Keep (fun _ => False) w w1 → w1.cell? ⟨b2, 0, none⟩ = some (.bool (s.blk 0)) := fun w1 hk => (h.h2.keep hk (fun e => e)).cell 0 (map_blk s (by omega))
  simp only [List.getElem_toArray, List.getElem_cons_zero, List.getElem_cons_succ] at g8 g7 g6 g1 g2
  rw [o1] at g8
  rw [o3] at g7
  rw [o2] at y2
  have hsum : s.tc + s.cnt 0 = 0 := by omega
  obtain ⟨c, hc⟩ : ∃ c, c = s.cnt 0 := ⟨_, rfl⟩
  obtain ⟨tc, htc⟩ : ∃ tc, tc = s.tc := ⟨_, rfl⟩
  rw [← hc] at y1 hsum hcb
  rw [← htc] at g6 hsum htb
  have Hsum := hid hsum
  have hn0 : (0 : Int) < (s.n : Int) := by omega
  have hb5 : (tc + c == 0) = true := by rw [hsum]; rfl
  have Hpo := hid hp0
  clear hs ok ht hq hqt hto ha hc htc hsum o1 o2 o3 o4 hp0
  go_enter Tryd.func27, Tryd.ntmps27
  go_wp2
  refine wp_flowT (fun _ => False) (by kernel_rfl) (by kernel_rfl) ?_
  repeat (apply FlowT.d; (intro w1 hk; unfold does; go_simp; (try go_ints); (first | exact DetR.mk | (simp only [↓IntWalk.iteOmega, Oper.doesUpon_value]; exact DetR.mk) | (simp only [↓IntWalk.iteOmega]; go_simp; (try go_ints); exact DetR.mk))); simp only [Act.put, List.setIfInBounds_toArray, List.set_cons_zero, List.set_cons_succ])
  refine FlowT.fin fun W hx hk => ?_
  have hW := h.ext hx
  have q9 := hW.hp.av 9 rfl
  have z9 := hW.hp.free
  have hp9 := hW.hp.set 9 (.bool true)
  simp only [List.setIfInBounds_toArray, List.set_cons_zero, List.set_cons_succ] at hp9
  have hR := hid (hW.setP (kset W p 9 (.bool true)) { s with told := true } rfl rfl rfl hp9)
  have hkf : Hid (Keep (fq p b1 b2 b3 su) w (W.setCell ⟨p, 9, none⟩ (.bool true))) := hid (Keep.set (hx.keep _) (.inl rfl) _)
  clear hk g8 g7 g6 g1 g2 y1 y2 c9 c5 c3 cl h hx hW hp9
  go_wp2
  go_end0
  exact ⟨rfl, su, hR.out, hkf.out, fun k hk => .inl hk⟩

end Go.Proofs.YtcfopaopcbjkeaaDoor
