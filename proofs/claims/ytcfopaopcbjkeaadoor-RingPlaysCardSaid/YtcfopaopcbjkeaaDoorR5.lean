
/- The ring: the token is passed on. -/
import Derived.Test.YtcfopaopcbjkeaaDoorR4
namespace Go.Proofs.YtcfopaopcbjkeaaDoor
set_option linter.unusedSimpArgs false
set_option linter.unusedVariables false
open Go Go.RowKit

theorem RingAt.p4 {w : World} {p b1 b2 : Nat} {su : Value} {s : RS} (h : RingAt w p b1 b2 su s) : w.cell? ⟨p, 1, none⟩ = some (.slice (some ⟨b2, 0, none⟩) s.n s.n) ∧ w.cell? ⟨p, 5, none⟩ = some (.int .i64 (s.pos : Int)) :=
  ⟨h.hp.cell 1, h.hp.cell 5⟩

theorem RingAt.keepW {X : Nat → Prop} {w w' : World} {p b1 b2 : Nat} {su : Value} {s : RS} (h : RingAt w p b1 b2 su s) (x : Keep X w w') (h1 : ¬ X p) (h2 : ¬ X b1) (h3 : ¬ X b2) (h4 : ∀ k, su.ownBlock = some k → ¬ X k) : RingAt w' p b1 b2 su s :=
  h.keep x fun k hk => by
    rcases hk with rfl | rfl | rfl | hk
    · exact h1
    · exact h2
    · exact h3
    · exact h4 k hk

/-- The peers and the play itself are written. -/
theorem RingAt.passed {w w' : World} {p b1 b2 : Nat} {su : Value} {s s' : RS} (h : RingAt w p b1 b2 su s) (hk : Keep (fun k => k = p ∨ k = b1) w w') (hac : s'.ac = s.ac) (hun : s'.un = s.un)
    (hp : Blk w' p #[.slice (some ⟨b1, 0, none⟩) s'.n s'.n, .slice (some ⟨b2, 0, none⟩) s'.n s'.n, su, .int .i64 s'.tc, .bool s'.tb, .int .i64 (s'.pos : Int), .bool s'.fr, .bool s'.told] 120)
    (hb : Blk w' b1 (pcells s'.ps).toArray 45) : RingAt w' p b1 b2 su s' := by
  refine ⟨hp, hb, ?_, ?_, h.d1, h.d2, h.d3, h.du⟩
  · rw [hac]; exact h.h2.keep hk fun e => e.elim (fun e => h.d2 e.symm) fun e => h.d3 e.symm
  · rw [hun]; exact ownsRow_keep h.hu hk fun k hk' e => e.elim (h.du k hk').1 (h.du k hk').2.1

set_option maxRecDepth 100000 in
set_option maxHeartbeats 1600000 in
theorem pass_act (s : RS) (m : Nat) (ok : s.Ok m) (w : World) (p b1 b2 : Nat) (su : Value) (h : RingAt w p b1 b2 su s) (ha : s.act s.pos = true) :
    Calls Tryd.prog 57 #[.pointer (some ⟨p, 0, none⟩)] w (RPost w p b1 b2 su s.pass) := by
  have hs : s.pass = s := by unfold RS.pass; rw [if_pos ha]
  rw [hs]
  have hpos := ok.pos
  have hhi := ok.hi
  have hlo := ok.lo
  have g1 : ∀ w1, Keep (fun _ => False) w w1 → w1.cell? ⟨p, 1, none⟩ = some (.slice (some ⟨b2, 0, none⟩) s.n s.n) := fun w1 hk => (h.ext hk.ext).hp.cell 1
  have g5 : ∀ w1, Keep (fun _ => False) w w1 → w1.cell? ⟨p, 5, none⟩ = some (.int .i64 (s.pos : Int)) := fun w1 hk => (h.ext hk.ext).hp.cell 5
  have gl : ∀ w1, Keep (fun _ => False) w w1 → w1.cell? ⟨b2, s.pos, none⟩ = some (.bool (s.act s.pos)) := fun w1 hk => (h.ext hk.ext).live (by rw [ok.la]; exact hpos)
  rw [ha] at gl
  have Ha := hid ha
  clear ha
  have hR := fun w' (x : Ext w w') => RPost.same h x
  generalize RPost w p b1 b2 su s = R at *
  go_enter Tryd.func57, Tryd.ntmps57
  go_wp2
  refine wp_flowT (fun _ => False) (by kernel_rfl) (by kernel_rfl) ?_
  repeat (apply FlowT.d; (intro w1 hk; unfold does; go_simp; (try go_ints); (first | exact DetR.mk | (simp only [↓IntWalk.iteOmega, Oper.doesUpon_value]; exact DetR.mk) | (simp only [↓IntWalk.iteOmega]; go_simp; (try go_ints); exact DetR.mk))); simp only [Act.put, List.setIfInBounds_toArray, List.set_cons_zero, List.set_cons_succ])
  refine FlowT.fin fun w1 hx _ => ?_
  clear g1 g5 gl
  go_wp2
  go_end0
  exact hR _ hx

set_option maxRecDepth 100000 in
set_option maxHeartbeats 1600000 in
theorem pass_down (s : RS) (m : Nat) (ok : s.Ok m) (hm : m ≤ 1000000) (w : World) (p b1 b2 : Nat) (su : Value) (h : RingAt w p b1 b2 su s) (ha : s.act s.pos = false) (h0 : 0 < s.pos) :
    Calls Tryd.prog 57 #[.pointer (some ⟨p, 0, none⟩)] w (RPost w p b1 b2 su s.pass) := by
  have hs : s.pass = { s with ps := s.ps.set s.pos (s.cnt s.pos, false), tc := s.tc + s.cnt s.pos, tb := s.tb || s.blk s.pos, pos := s.pos - 1 } := by unfold RS.pass; rw [if_neg (by simp [ha]), if_pos h0]
  rw [hs]
  clear hs
  have hpos := ok.pos
  have hhi := ok.hi
  have hlo := ok.lo
  have g1 : ∀ w1, Keep (fun _ => False) w w1 → w1.cell? ⟨p, 1, none⟩ = some (.slice (some ⟨b2, 0, none⟩) s.n s.n) := fun w1 hk => (h.ext hk.ext).hp.cell 1
  have g5 : ∀ w1, Keep (fun _ => False) w w1 → w1.cell? ⟨p, 5, none⟩ = some (.int .i64 (s.pos : Int)) := fun w1 hk => (h.ext hk.ext).hp.cell 5
  have gl : ∀ w1, Keep (fun _ => False) w w1 → w1.cell? ⟨b2, s.pos, none⟩ = some (.bool (s.act s.pos)) := fun w1 hk => (h.ext hk.ext).live (by rw [ok.la]; exact hpos)
  rw [ha] at gl
  have Ha := hid ha
  clear ha
  have hcb := ok.cb s.pos
  have htb := ok.tb
  have hmm : m * m ≤ 1000000000000 := by have := Nat.mul_le_mul hm hm; omega
  obtain ⟨c, hc⟩ : ∃ c, c = s.cnt s.pos := ⟨_, rfl⟩
  obtain ⟨bl, hbl⟩ : ∃ b, b = s.blk s.pos := ⟨_, rfl⟩
  rw [← hc] at hcb
  have Hc := hid hc
  have Hb := hid hbl
  clear hc hbl
  go_enter Tryd.func57, Tryd.ntmps57
  go_wp2
  refine wp_flowT (fun _ => False) (by kernel_rfl) (by kernel_rfl) ?_
  repeat (apply FlowT.d; (intro w1 hk; unfold does; go_simp; (try go_ints); (first | exact DetR.mk | (simp only [↓IntWalk.iteOmega, Oper.doesUpon_value]; exact DetR.mk) | (simp only [↓IntWalk.iteOmega]; go_simp; (try go_ints); exact DetR.mk))); simp only [Act.put, List.setIfInBounds_toArray, List.set_cons_zero, List.set_cons_succ])
  refine FlowT.fin fun w1 hx _ => ?_
  clear g1 g5 gl
  have c5 : w1.cell? ⟨p, 5, none⟩ = some (.int .i64 (s.pos : Int)) := (h.ext hx).hp.cell 5
  go_wp2
  have h1 := h.ext hx
  have g0 := h1.hp.kc (X := fun _ => False) (fun e => e) 0 rfl
  have g3 := h1.hp.kc (X := fun _ => False) (fun e => e) 3 rfl
  have g4 := h1.hp.kc (X := fun _ => False) (fun e => e) 4 rfl
  have g5 := h1.hp.kc (X := fun _ => False) (fun e => e) 5 rfl
  have gb : ∀ w2, Keep (fun _ => False) w1 w2 → w2.cell? ⟨b1, s.pos * 2, none⟩ = some (.int .i64 c) := fun w2 hk => by rw [Hc.out]; exact ((h1.ext hk.ext).peer hpos).1
  have gc : ∀ w2, Keep (fun _ => False) w1 w2 → w2.cell? ⟨b1, s.pos * 2 + 1, none⟩ = some (.bool bl) := fun w2 hk => by rw [Hb.out]; exact ((h1.ext hk.ext).peer hpos).2
  clear c5
  refine wp_flowT (fun _ => False) (by kernel_rfl) (by kernel_rfl) ?_
  iterate 8 (apply FlowT.d; (intro w1 hk; unfold does; go_simp; (try go_ints); (first | exact DetR.mk | (simp only [↓IntWalk.iteOmega, Oper.doesUpon_value]; exact DetR.mk) | (simp only [↓IntWalk.iteOmega]; go_simp; (try go_ints); exact DetR.mk))); simp only [Act.put, List.setIfInBounds_toArray, List.set_cons_zero, List.set_cons_succ])
  apply FlowT.l 8 rfl
  · intro w1; unfold does; go_simp; exact DetR.mk
  simp only [Act.put, List.setIfInBounds_toArray, List.set_cons_zero, List.set_cons_succ]
  iterate 14 (apply FlowT.d; (intro w1 hk; unfold does; go_simp; (try go_ints); (first | exact DetR.mk | (simp only [↓IntWalk.iteOmega, Oper.doesUpon_value]; exact DetR.mk) | (simp only [↓IntWalk.iteOmega]; go_simp; (try go_ints); exact DetR.mk))); simp only [Act.put, List.setIfInBounds_toArray, List.set_cons_zero, List.set_cons_succ])
  apply FlowT.d
  · intro w1 hk
    unfold does
    go_simp
    exact CallR.det (rpass_any c s.tc bl s.tb w1 (by omega) (by omega) (by omega) (by omega))
  simp only [Act.put, List.setIfInBounds_toArray, List.set_cons_zero, List.set_cons_succ]
  iterate 2 (apply FlowT.d; (intro w1 hk; unfold does; go_simp; (try go_ints); (first | exact DetR.mk | (simp only [↓IntWalk.iteOmega, Oper.doesUpon_value]; exact DetR.mk) | (simp only [↓IntWalk.iteOmega]; go_simp; (try go_ints); exact DetR.mk))); simp only [Act.put, List.setIfInBounds_toArray, List.set_cons_zero, List.set_cons_succ])
  apply FlowT.l 26 rfl
  · intro w1; unfold does; go_simp; exact DetR.mk
  simp only [Act.put, List.setIfInBounds_toArray, List.set_cons_zero, List.set_cons_succ]
  iterate 1 (apply FlowT.d; (intro w1 hk; unfold does; go_simp; (try go_ints); (first | exact DetR.mk | (simp only [↓IntWalk.iteOmega, Oper.doesUpon_value]; exact DetR.mk) | (simp only [↓IntWalk.iteOmega]; go_simp; (try go_ints); exact DetR.mk))); simp only [Act.put, List.setIfInBounds_toArray, List.set_cons_zero, List.set_cons_succ])
  have hlt := hpos
  refine FlowT.t (fun k => k = b1) (fun _ w' => Blk w' b1 (pcells (s.ps.set s.pos (c, false))).toArray 45) 28 rfl (by kernel_rfl) (by kernel_rfl) (fun _ _ _ h x => h.ext x) (fun w2 hC hk => ?_) (fun v _ => ?_)
  · have hb := h1.h1.ext hC
    have q5 := gb w2 hk
    have q6 := gc w2 hk
    have f0 := hb.free (s.pos * 2)
    have f1 := hb.free (s.pos * 2 + 1)
    unfold does
    go_simp
    refine ⟨Keep.set (X := fun k => k = b1) (Keep.set (X := fun k => k = b1) (hC.keep _) rfl _) rfl _, ?_⟩
    have := (hb.set (s.pos * 2) (.int .i64 c)).set (s.pos * 2 + 1) (.bool false)
    rw [← pcells_set s.ps s.pos (c, false) hlt]
    simpa using this
  clear g0 g3 g4 g5 gb gc
  simp only [Act.put]
  iterate 2 (apply FlowT.d; (intro w1 hk; unfold does; go_simp; (try go_ints); (first | exact DetR.mk | (simp only [↓IntWalk.iteOmega, Oper.doesUpon_value]; exact DetR.mk) | (simp only [↓IntWalk.iteOmega]; go_simp; (try go_ints); exact DetR.mk))); simp only [Act.put, List.setIfInBounds_toArray, List.set_cons_zero, List.set_cons_succ])
  refine FlowT.last (fun _ w' => Keep (fun k => k = p ∨ k = b1) w1 w' ∧ Blk w' b1 (pcells (s.ps.set s.pos (c, false))).toArray 45 ∧
      Blk w' p #[.slice (some ⟨b1, 0, none⟩) s.n s.n, .slice (some ⟨b2, 0, none⟩) s.n s.n, su, .int .i64 (s.tc + c), .bool (s.tb || bl), .int .i64 (s.pos : Int), .bool s.fr, .bool s.told] 120) 31 rfl (by kernel_rfl) (by kernel_rfl) (fun w2 hC hk => ?_) (fun v W hR => ?_)
  · have hb := h1.hp.keep hk h.d1
    have q5 := hb.cell 3
    have q6 := hb.cell 4
    have f0 := hb.free 3
    have f1 := hb.free 4
    unfold does
    go_simp
    refine ⟨Keep.set (X := fun k => k = p ∨ k = b1) (Keep.set (X := fun k => k = p ∨ k = b1) (hk.mono fun k _ e => .inr e) (.inl rfl) _) (.inl rfl) _, (hC.set_ne h.d1 _).set_ne h.d1 _, ?_⟩
    exact (hb.set 3 _).set 4 _
  obtain ⟨hk2, hb2, hp2⟩ := hR
  have c5 : W.cell? ⟨p, 5, none⟩ = some (.int .i64 (s.pos : Int)) := hp2.cell 5
  have f5 := hp2.free 5
  simp only [Act.put]
  go_wp2
  go_end0
  have hps : ((s.pos : Int) - 1) = ((s.pos - 1 : Nat) : Int) := by omega
  have fin := h1.passed (s' := { s with ps := s.ps.set s.pos (s.cnt s.pos, false), tc := s.tc + s.cnt s.pos, tb := s.tb || s.blk s.pos, pos := s.pos - 1 })
    (Keep.set (X := fun k => k = p ∨ k = b1) hk2 (p := ⟨p, 5, none⟩) (.inl rfl) (.int .i64 ((s.pos : Int) - 1))) rfl rfl (by
      have := hp2.set 5 (.int .i64 ((s.pos : Int) - 1))
      rw [← Hc.out, ← Hb.out]
      have hn : ({ s with ps := s.ps.set s.pos (c, false), tc := s.tc + c, tb := s.tb || bl, pos := s.pos - 1 } : RS).n = s.n := by simp [RS.n]
      rw [hn]
      simpa [hps] using this) (by rw [← Hc.out]; exact hb2.set_ne h.d1 _)
  refine ⟨rfl, su, fin, ?_, fun k hk => .inl hk⟩
  exact (hx.keep _).trans ((Keep.set (X := fun k => k = p ∨ k = b1) hk2 (.inl rfl) _).mono fun k _ e => e.elim .inl fun e => .inr (.inl e))


theorem again_world {w : World} {p b1 : Nat} {c1 c2 : Array Value} {e1 e2 : TypeId} (hp : Blk w p c1 e1) (hb : Blk w b1 c2 e2) (hd : p ≠ b1) (v3 v4 v5 v6 : Value) :
    let W := ((((w.setCell ⟨b1, 1, none⟩ (.bool false)).setCell ⟨p, 3, none⟩ v3).setCell ⟨p, 4, none⟩ v4).setCell ⟨p, 5, none⟩ v5).setCell ⟨p, 6, none⟩ v6
    Keep (fun k => k = p ∨ k = b1) w W ∧ Blk W p ((((c1.setIfInBounds 3 v3).setIfInBounds 4 v4).setIfInBounds 5 v5).setIfInBounds 6 v6) e1 ∧ Blk W b1 (c2.setIfInBounds 1 (.bool false)) e2 := by
  intro W
  have X := fun k => k = p ∨ k = b1
  refine ⟨?_, ?_, ?_⟩
  · have k0 : Keep (fun k => k = p ∨ k = b1) w (w.setCell ⟨b1, 1, none⟩ (.bool false)) := (Keep.refl _ w).set (p := ⟨b1, 1, none⟩) (.inr rfl) _
    have k1 := k0.set (p := ⟨p, 3, none⟩) (.inl rfl) v3
    have k2 := k1.set (p := ⟨p, 4, none⟩) (.inl rfl) v4
    have k3 := k2.set (p := ⟨p, 5, none⟩) (.inl rfl) v5
    exact k3.set (p := ⟨p, 6, none⟩) (.inl rfl) v6
  · have k0 := hp.set_ne (p := ⟨b1, 1, none⟩) hd.symm (.bool false)
    exact (((k0.set 3 v3).set 4 v4).set 5 v5).set 6 v6
  · have k0 := hb.set 1 (.bool false)
    have k1 := k0.set_ne (p := ⟨p, 3, none⟩) hd v3
    have k2 := k1.set_ne (p := ⟨p, 4, none⟩) hd v4
    have k3 := k2.set_ne (p := ⟨p, 5, none⟩) hd v5
    exact k3.set_ne (p := ⟨p, 6, none⟩) hd v6

theorem pcells_white (s : RS) (hlo : 2 ≤ s.n) : (pcells (s.ps.set 0 (s.cnt 0, false))) = (pcells s.ps).set 1 (.bool false) := by
  have hlo' : 0 < s.ps.length := by simp only [RS.n] at hlo; omega
  rw [← pcells_set s.ps 0 (s.cnt 0, false) hlo']
  have h3 := (pcells_get s.ps 0 hlo').1
  simp only [Nat.zero_mul, Nat.zero_add] at h3 ⊢
  congr 1
  have hl : 0 < (pcells s.ps).length := by rw [pcells_len]; omega
  rw [List.getElem?_eq_getElem hl] at h3
  simp only [Option.some.injEq] at h3
  have h4 : Value.int .i64 (s.cnt 0) = (pcells s.ps)[0] := h3.symm
  rw [h4, List.set_getElem_self]

theorem again_ring {w W : World} {p b1 b2 : Nat} {su : Value} {s : RS} (h : RingAt w p b1 b2 su s) (hlo : 2 ≤ s.n)
    (hW : W = ((((w.setCell ⟨b1, 1, none⟩ (.bool false)).setCell ⟨p, 3, none⟩ (.int .i64 0)).setCell ⟨p, 4, none⟩ (.bool false)).setCell ⟨p, 5, none⟩ (.int .i64 ((s.n : Int) - 1))).setCell ⟨p, 6, none⟩ (.bool false)) :
    RingAt W p b1 b2 su { s with ps := s.ps.set 0 (s.cnt 0, false), tc := 0, tb := false, pos := s.n - 1, fr := false } ∧ Keep (fun k => k = p ∨ k = b1) w W := by
  have hps : ((s.n : Int) - 1) = ((s.n - 1 : Nat) : Int) := by omega
  have hnn : ({ s with ps := s.ps.set 0 (s.cnt 0, false), tc := 0, tb := false, pos := s.n - 1, fr := false } : RS).n = s.n := by simp [RS.n]
  obtain ⟨hk, hp, hb⟩ := again_world h.hp h.h1 h.d1 (.int .i64 0) (.bool false) (.int .i64 ((s.n : Int) - 1)) (.bool false)
  rw [← hW] at hk hp hb
  refine ⟨h.passed hk rfl rfl ?_ ?_, hk⟩
  · rw [hnn]
    show Blk W p #[.slice (some ⟨b1, 0, none⟩) s.n s.n, .slice (some ⟨b2, 0, none⟩) s.n s.n, su, .int .i64 0, .bool false, .int .i64 ((s.n - 1 : Nat) : Int), .bool false, .bool s.told] _
    rw [← hps]
    exact hp
  · show Blk W b1 (pcells (s.ps.set 0 (s.cnt 0, false))).toArray _
    rw [pcells_white s hlo, ← List.setIfInBounds_toArray]
    exact hb


set_option maxRecDepth 100000 in
set_option maxHeartbeats 1600000 in
theorem pass_told (s : RS) (m : Nat) (ok : s.Ok m) (hm : m ≤ 1000000) (w : World) (p b1 b2 : Nat) (su : Value) (h : RingAt w p b1 b2 su s) (ha : s.act s.pos = false) (h0 : ¬ 0 < s.pos) (hov : s.over = true) :
    Calls Tryd.prog 57 #[.pointer (some ⟨p, 0, none⟩)] w (RPost w p b1 b2 su s.pass) := by
  have hs : s.pass = { s with told := true } := by unfold RS.pass; rw [if_neg (by simp [ha]), if_neg h0, if_pos hov]
  rw [hs]
  clear hs
  unfold RS.over at hov
  simp only [Bool.and_eq_true, Bool.not_eq_true'] at hov
  obtain ⟨hfr, ⟨hb0, htb0⟩, hct⟩ := hov
  have hcb := ok.cb 0
  have htb := ok.tb
  have hmm : m * m ≤ 1000000000000 := by have := Nat.mul_le_mul hm hm; omega
  have hpos := ok.pos
  have hhi := ok.hi
  have hlo := ok.lo
  have g1 : ∀ w1, Keep (fun _ => False) w w1 → w1.cell? ⟨p, 1, none⟩ = some (.slice (some ⟨b2, 0, none⟩) s.n s.n) := fun w1 hk => (h.ext hk.ext).hp.cell 1
  have g5 : ∀ w1, Keep (fun _ => False) w w1 → w1.cell? ⟨p, 5, none⟩ = some (.int .i64 (s.pos : Int)) := fun w1 hk => (h.ext hk.ext).hp.cell 5
  have gl : ∀ w1, Keep (fun _ => False) w w1 → w1.cell? ⟨b2, s.pos, none⟩ = some (.bool (s.act s.pos)) := fun w1 hk => (h.ext hk.ext).live (by rw [ok.la]; exact hpos)
  rw [ha] at gl
  have Ha := hid ha
  clear ha
  have hp0 : s.pos = 0 := by omega
  have g5' : ∀ w1, Keep (fun _ => False) w w1 → w1.cell? ⟨p, 5, none⟩ = some (.int .i64 0) := fun w1 hk => by have := g5 w1 hk; rw [hp0] at this; exact this
  have gl' : ∀ w1, Keep (fun _ => False) w w1 → w1.cell? ⟨b2, 0, none⟩ = some (.bool false) := fun w1 hk => by have := gl w1 hk; rw [hp0] at this; exact this
  clear g5 gl
  have Hp0 := hid hp0
  have g5 := g5'
  have gl := gl'
  have hn0 : (0 : Int) < (s.n : Int) := by omega
  clear hp0 g5' gl' hpos h0
  have Hfr := hid hfr
  have Hb0 := hid hb0
  have Htb0 := hid htb0
  have Hct := hid hct
  clear hfr hb0 htb0 hct
  go_enter Tryd.func57, Tryd.ntmps57
  go_wp2
  refine wp_flowT (fun _ => False) (by kernel_rfl) (by kernel_rfl) ?_
  repeat (apply FlowT.d; (intro w1 hk; unfold does; go_simp; (try go_ints); (first | exact DetR.mk | (simp only [↓IntWalk.iteOmega, Oper.doesUpon_value]; exact DetR.mk) | (simp only [↓IntWalk.iteOmega]; go_simp; (try go_ints); exact DetR.mk))); simp only [Act.put, List.setIfInBounds_toArray, List.set_cons_zero, List.set_cons_succ])
  refine FlowT.fin fun w1 hx _ => ?_
  clear g1 g5 gl
  have hfr := Hfr.out
  have h1 := h.ext hx
  have c5 : w1.cell? ⟨p, 5, none⟩ = some (.int .i64 0) := by have := h1.hp.cell 5; rw [Hp0.out] at this; exact this
  go_wp2
  clear c5
  have g6 := h1.hp.kc (X := fun _ => False) (fun e => e) 6 rfl
  rw [hfr] at g6
  refine wp_flowT (fun _ => False) (by kernel_rfl) (by kernel_rfl) ?_
  clear hfr
  have g0 := h1.hp.kc (X := fun _ => False) (fun e => e) 0 rfl
  have g3 := h1.hp.kc (X := fun _ => False) (fun e => e) 3 rfl
  have g4 := h1.hp.kc (X := fun _ => False) (fun e => e) 4 rfl
  have gb : ∀ w2, Keep (fun _ => False) w1 w2 → w2.cell? ⟨b1, 0, none⟩ = some (.int .i64 (s.cnt 0)) := fun w2 hk => ((h1.ext hk.ext).peer (i := 0) (by omega)).1
  have gc : ∀ w2, Keep (fun _ => False) w1 w2 → w2.cell? ⟨b1, 1, none⟩ = some (.bool (s.blk 0)) := fun w2 hk => ((h1.ext hk.ext).peer (i := 0) (by omega)).2
  repeat (apply FlowT.d; (intro w1 hk; unfold does; go_simp; (try go_ints); (first | exact DetR.mk | (simp only [↓IntWalk.iteOmega, Oper.doesUpon_value]; exact DetR.mk) | (simp only [↓IntWalk.iteOmega]; go_simp; (try go_ints); exact DetR.mk))); simp only [Act.put, List.setIfInBounds_toArray, List.set_cons_zero, List.set_cons_succ])
  apply FlowT.d
  · intro w1 hk
    unfold does
    go_simp
    exact CallR.det (over_any (s.cnt 0) s.tc (s.blk 0) s.tb w1 (by omega) (by omega) (by omega) (by omega))
  simp only [Act.put, List.setIfInBounds_toArray, List.set_cons_zero, List.set_cons_succ]
  rw [Hb0.out, Htb0.out, Hct.out]
  repeat (apply FlowT.d; (intro w1 hk; unfold does; go_simp; (try go_ints); (first | exact DetR.mk | (simp only [↓IntWalk.iteOmega, Oper.doesUpon_value]; exact DetR.mk) | (simp only [↓IntWalk.iteOmega]; go_simp; (try go_ints); exact DetR.mk))); simp only [Act.put, List.setIfInBounds_toArray, List.set_cons_zero, List.set_cons_succ])
  refine FlowT.fin fun w2 hx2 _ => ?_
  clear g0 g3 g4 gb gc g6
  have h2 := h1.ext hx2
  have c7 := h2.hp.cell 7
  have f7 := h2.hp.free 7
  go_wp2
  go_end0
  have fin := h2.passed (s' := { s with told := true }) (Keep.set (X := fun k => k = p ∨ k = b1) (Keep.refl _ _) (p := ⟨p, 7, none⟩) (.inl rfl) (.bool true)) rfl rfl (h2.hp.set 7 _) (h2.h1.set_ne h.d1 _)
  refine ⟨rfl, su, fin, ?_, fun k hk => .inl hk⟩
  exact ((hx.trans hx2).keep _).trans (Keep.set (Keep.refl _ _) (.inl rfl) _)


set_option maxRecDepth 100000 in
set_option maxHeartbeats 1600000 in
theorem pass_fresh (s : RS) (m : Nat) (ok : s.Ok m) (w : World) (p b1 b2 : Nat) (su : Value) (h : RingAt w p b1 b2 su s) (ha : s.act s.pos = false) (h0 : ¬ 0 < s.pos) (hfr : s.fr = true) :
    Calls Tryd.prog 57 #[.pointer (some ⟨p, 0, none⟩)] w (RPost w p b1 b2 su s.pass) := by
  have hs : s.pass = { s with ps := s.ps.set 0 (s.cnt 0, false), tc := 0, tb := false, pos := s.n - 1, fr := false } := by
    unfold RS.pass; rw [if_neg (by simp [ha]), if_neg h0, if_neg (by unfold RS.over; simp [hfr])]
  rw [hs]
  clear hs
  have hpos := ok.pos
  have hhi := ok.hi
  have hlo := ok.lo
  have g1 : ∀ w1, Keep (fun _ => False) w w1 → w1.cell? ⟨p, 1, none⟩ = some (.slice (some ⟨b2, 0, none⟩) s.n s.n) := fun w1 hk => (h.ext hk.ext).hp.cell 1
  have g5 : ∀ w1, Keep (fun _ => False) w w1 → w1.cell? ⟨p, 5, none⟩ = some (.int .i64 (s.pos : Int)) := fun w1 hk => (h.ext hk.ext).hp.cell 5
  have gl : ∀ w1, Keep (fun _ => False) w w1 → w1.cell? ⟨b2, s.pos, none⟩ = some (.bool (s.act s.pos)) := fun w1 hk => (h.ext hk.ext).live (by rw [ok.la]; exact hpos)
  rw [ha] at gl
  have Ha := hid ha
  clear ha
  have hp0 : s.pos = 0 := by omega
  have g5' : ∀ w1, Keep (fun _ => False) w w1 → w1.cell? ⟨p, 5, none⟩ = some (.int .i64 0) := fun w1 hk => by have := g5 w1 hk; rw [hp0] at this; exact this
  have gl' : ∀ w1, Keep (fun _ => False) w w1 → w1.cell? ⟨b2, 0, none⟩ = some (.bool false) := fun w1 hk => by have := gl w1 hk; rw [hp0] at this; exact this
  clear g5 gl
  have Hp0 := hid hp0
  have g5 := g5'
  have gl := gl'
  have hn0 : (0 : Int) < (s.n : Int) := by omega
  clear hp0 g5' gl' hpos h0
  have Hfr := hid hfr
  clear hfr
  go_enter Tryd.func57, Tryd.ntmps57
  go_wp2
  refine wp_flowT (fun _ => False) (by kernel_rfl) (by kernel_rfl) ?_
  repeat (apply FlowT.d; (intro w1 hk; unfold does; go_simp; (try go_ints); (first | exact DetR.mk | (simp only [↓IntWalk.iteOmega, Oper.doesUpon_value]; exact DetR.mk) | (simp only [↓IntWalk.iteOmega]; go_simp; (try go_ints); exact DetR.mk))); simp only [Act.put, List.setIfInBounds_toArray, List.set_cons_zero, List.set_cons_succ])
  refine FlowT.fin fun w1 hx _ => ?_
  clear g1 g5 gl
  have hfr := Hfr.out
  have h1 := h.ext hx
  have c5 : w1.cell? ⟨p, 5, none⟩ = some (.int .i64 0) := by have := h1.hp.cell 5; rw [Hp0.out] at this; exact this
  go_wp2
  clear c5
  have g6 := h1.hp.kc (X := fun _ => False) (fun e => e) 6 rfl
  rw [hfr] at g6
  refine wp_flowT (fun _ => False) (by kernel_rfl) (by kernel_rfl) ?_
  clear hfr
  repeat (apply FlowT.d; (intro w1 hk; unfold does; go_simp; (try go_ints); (first | exact DetR.mk | (simp only [↓IntWalk.iteOmega, Oper.doesUpon_value]; exact DetR.mk) | (simp only [↓IntWalk.iteOmega]; go_simp; (try go_ints); exact DetR.mk))); simp only [Act.put, List.setIfInBounds_toArray, List.set_cons_zero, List.set_cons_succ])
  refine FlowT.fin fun w2 hx2 _ => ?_
  clear g6
  have h2 := h1.ext hx2
  have d1 := h.d1
  have d1' := h.d1.symm
  have c0 := h2.hp.cell 0
  have c3 := h2.hp.cell 3
  have c4 := h2.hp.cell 4
  have c5 := h2.hp.cell 5
  have c6 := h2.hp.cell 6
  have f3 := h2.hp.free 3
  have f4 := h2.hp.free 4
  have f5 := h2.hp.free 5
  have f6 := h2.hp.free 6
  have cb1 : w2.cell? ⟨b1, 1, none⟩ = some (.bool (s.blk 0)) := (h2.peer (i := 0) (by omega)).2
  have fb1 := h2.h1.free 1
  go_wp2
  go_end0
  obtain ⟨fin, hkf⟩ := again_ring h2 hlo rfl
  exact ⟨rfl, su, fin, ((hx.trans hx2).keep _).trans (hkf.mono fun k _ e => e.elim .inl fun e => .inr (.inl e)), fun k hk => .inl hk⟩

set_option maxRecDepth 100000 in
set_option maxHeartbeats 1600000 in
theorem pass_again (s : RS) (m : Nat) (ok : s.Ok m) (hm : m ≤ 1000000) (w : World) (p b1 b2 : Nat) (su : Value) (h : RingAt w p b1 b2 su s) (ha : s.act s.pos = false) (h0 : ¬ 0 < s.pos) (hfr : s.fr = false) (hov : s.over = false) :
    Calls Tryd.prog 57 #[.pointer (some ⟨p, 0, none⟩)] w (RPost w p b1 b2 su s.pass) := by
  have hs : s.pass = { s with ps := s.ps.set 0 (s.cnt 0, false), tc := 0, tb := false, pos := s.n - 1, fr := false } := by
    unfold RS.pass; rw [if_neg (by simp [ha]), if_neg h0, if_neg (by simp [hov])]
  rw [hs]
  clear hs
  have hov' : (!s.blk 0 && !s.tb && (s.cnt 0 + s.tc == 0)) = false := by unfold RS.over at hov; simpa [hfr] using hov
  have hcb := ok.cb 0
  have htb := ok.tb
  have hmm : m * m ≤ 1000000000000 := by have := Nat.mul_le_mul hm hm; omega
  have hpos := ok.pos
  have hhi := ok.hi
  have hlo := ok.lo
  have g1 : ∀ w1, Keep (fun _ => False) w w1 → w1.cell? ⟨p, 1, none⟩ = some (.slice (some ⟨b2, 0, none⟩) s.n s.n) := fun w1 hk => (h.ext hk.ext).hp.cell 1
  have g5 : ∀ w1, Keep (fun _ => False) w w1 → w1.cell? ⟨p, 5, none⟩ = some (.int .i64 (s.pos : Int)) := fun w1 hk => (h.ext hk.ext).hp.cell 5
  have gl : ∀ w1, Keep (fun _ => False) w w1 → w1.cell? ⟨b2, s.pos, none⟩ = some (.bool (s.act s.pos)) := fun w1 hk => (h.ext hk.ext).live (by rw [ok.la]; exact hpos)
  rw [ha] at gl
  have Ha := hid ha
  clear ha
  have hp0 : s.pos = 0 := by omega
  have g5' : ∀ w1, Keep (fun _ => False) w w1 → w1.cell? ⟨p, 5, none⟩ = some (.int .i64 0) := fun w1 hk => by have := g5 w1 hk; rw [hp0] at this; exact this
  have gl' : ∀ w1, Keep (fun _ => False) w w1 → w1.cell? ⟨b2, 0, none⟩ = some (.bool false) := fun w1 hk => by have := gl w1 hk; rw [hp0] at this; exact this
  clear g5 gl
  have Hp0 := hid hp0
  have g5 := g5'
  have gl := gl'
  have hn0 : (0 : Int) < (s.n : Int) := by omega
  clear hp0 g5' gl' hpos h0
  have Hfr := hid hfr
  have Hov := hid hov'
  clear hfr hov hov'
  go_enter Tryd.func57, Tryd.ntmps57
  go_wp2
  refine wp_flowT (fun _ => False) (by kernel_rfl) (by kernel_rfl) ?_
  repeat (apply FlowT.d; (intro w1 hk; unfold does; go_simp; (try go_ints); (first | exact DetR.mk | (simp only [↓IntWalk.iteOmega, Oper.doesUpon_value]; exact DetR.mk) | (simp only [↓IntWalk.iteOmega]; go_simp; (try go_ints); exact DetR.mk))); simp only [Act.put, List.setIfInBounds_toArray, List.set_cons_zero, List.set_cons_succ])
  refine FlowT.fin fun w1 hx _ => ?_
  clear g1 g5 gl
  have hfr := Hfr.out
  have h1 := h.ext hx
  have c5 : w1.cell? ⟨p, 5, none⟩ = some (.int .i64 0) := by have := h1.hp.cell 5; rw [Hp0.out] at this; exact this
  go_wp2
  clear c5
  have g6 := h1.hp.kc (X := fun _ => False) (fun e => e) 6 rfl
  rw [hfr] at g6
  refine wp_flowT (fun _ => False) (by kernel_rfl) (by kernel_rfl) ?_
  clear hfr
  have g0 := h1.hp.kc (X := fun _ => False) (fun e => e) 0 rfl
  have g3 := h1.hp.kc (X := fun _ => False) (fun e => e) 3 rfl
  have g4 := h1.hp.kc (X := fun _ => False) (fun e => e) 4 rfl
  have gb : ∀ w2, Keep (fun _ => False) w1 w2 → w2.cell? ⟨b1, 0, none⟩ = some (.int .i64 (s.cnt 0)) := fun w2 hk => ((h1.ext hk.ext).peer (i := 0) (by omega)).1
  have gc : ∀ w2, Keep (fun _ => False) w1 w2 → w2.cell? ⟨b1, 1, none⟩ = some (.bool (s.blk 0)) := fun w2 hk => ((h1.ext hk.ext).peer (i := 0) (by omega)).2
  repeat (apply FlowT.d; (intro w1 hk; unfold does; go_simp; (try go_ints); (first | exact DetR.mk | (simp only [↓IntWalk.iteOmega, Oper.doesUpon_value]; exact DetR.mk) | (simp only [↓IntWalk.iteOmega]; go_simp; (try go_ints); exact DetR.mk))); simp only [Act.put, List.setIfInBounds_toArray, List.set_cons_zero, List.set_cons_succ])
  apply FlowT.d
  · intro w1 hk
    unfold does
    go_simp
    exact CallR.det (over_any (s.cnt 0) s.tc (s.blk 0) s.tb w1 (by omega) (by omega) (by omega) (by omega))
  simp only [Act.put, List.setIfInBounds_toArray, List.set_cons_zero, List.set_cons_succ]
  rw [Hov.out]
  repeat (apply FlowT.d; (intro w1 hk; unfold does; go_simp; (try go_ints); (first | exact DetR.mk | (simp only [↓IntWalk.iteOmega, Oper.doesUpon_value]; exact DetR.mk) | (simp only [↓IntWalk.iteOmega]; go_simp; (try go_ints); exact DetR.mk))); simp only [Act.put, List.setIfInBounds_toArray, List.set_cons_zero, List.set_cons_succ])
  clear g0 g3 g4 gb gc
  refine FlowT.fin fun w2 hx2 _ => ?_
  clear g6
  have h2 := h1.ext hx2
  have d1 := h.d1
  have d1' := h.d1.symm
  have c0 := h2.hp.cell 0
  have c3 := h2.hp.cell 3
  have c4 := h2.hp.cell 4
  have c5 := h2.hp.cell 5
  have c6 := h2.hp.cell 6
  have f3 := h2.hp.free 3
  have f4 := h2.hp.free 4
  have f5 := h2.hp.free 5
  have f6 := h2.hp.free 6
  have cb1 : w2.cell? ⟨b1, 1, none⟩ = some (.bool (s.blk 0)) := (h2.peer (i := 0) (by omega)).2
  have fb1 := h2.h1.free 1
  go_wp2
  go_end0
  obtain ⟨fin, hkf⟩ := again_ring h2 hlo rfl
  exact ⟨rfl, su, fin, ((hx.trans hx2).keep _).trans (hkf.mono fun k _ e => e.elim .inl fun e => .inr (.inl e)), fun k hk => .inl hk⟩

theorem pass_any (s : RS) (m : Nat) (ok : s.Ok m) (hm : m ≤ 1000000) (w : World) (p b1 b2 : Nat) (su : Value) (h : RingAt w p b1 b2 su s) :
    Calls Tryd.prog 57 #[.pointer (some ⟨p, 0, none⟩)] w (RPost w p b1 b2 su s.pass) := by
  cases ha : s.act s.pos with
  | true => exact pass_act s m ok w p b1 b2 su h ha
  | false =>
    by_cases h0 : 0 < s.pos
    · exact pass_down s m ok hm w p b1 b2 su h ha h0
    · cases hov : s.over with
      | true => exact pass_told s m ok hm w p b1 b2 su h ha h0 hov
      | false =>
        cases hfr : s.fr with
        | true => exact pass_fresh s m ok w p b1 b2 su h ha h0 hfr
        | false => exact pass_again s m ok hm w p b1 b2 su h ha h0 hfr hov
end Go.Proofs.YtcfopaopcbjkeaaDoor
