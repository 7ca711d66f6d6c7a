/- Texts of one proof, put together: K2. -/
import Derived.Test.YtkabgmohgjljkaaDoorMA09

/- The reference's links: a frame is sent. -/
namespace Go.Proofs.YtkabgmohgjljkaaDoor
set_option linter.unusedSimpArgs false
set_option linter.unusedVariables false
open Go Go.RowKit



set_option maxRecDepth 100000 in
set_option maxHeartbeats 3200000 in
theorem refsend_code (s : Snd) (kind : UInt8) (nums : List Int) (a : Option Addr) (cap : Nat) (w : World) (n0 p : Nat) (lv : Value) (ks : List (FV × Int)) (h : RSnd w n0 p s lv ks) (hr : Ints w a nums.length nums) (hl : nums.length ≤ 1000)
    (c : Nat) (hc : (s.frame kind nums).code = c) (h0 : c ≠ 0) :
    Calls Tryd.prog 13 #[.pointer (some ⟨p, 0, none⟩), .int .u8 (kind.toNat : Int), .slice a nums.length cap] w fun e w' => e = .returned (.tuple #[fr0, .int .i64 (c : Int)]) ∧ Ext w w' := by
  have h0' : (0 : Int) < (c : Int) := by omega
  obtain ⟨W0, hW0⟩ : ∃ W0, W0 = w.alloc (.cells frz 45) := ⟨_, rfl⟩
  have xW0 : Ext w W0 := by rw [hW0]; exact (Ext.refl w).alloc _
  have hs0 : W0.heap.size = w.heap.size + 1 := by rw [hW0]; simp
  have b6 : Blk W0 w.heap.size frz 45 := by rw [hW0]; exact Blk.new _ _ _
  have hpl := h.hp.lt
  have hnp : ¬ W0.heap.size ≤ p := by omega
  have g0 := (h.hp.ext xW0).kc (X := fun b => W0.heap.size ≤ b) hnp 0 rfl
  have g1 := (h.hp.ext xW0).kc (X := fun b => W0.heap.size ≤ b) hnp 1 rfl
  have g2 := (h.hp.ext xW0).kc (X := fun b => W0.heap.size ≤ b) hnp 2 rfl
  simp only [List.getElem_toArray, List.getElem_cons_zero, List.getElem_cons_succ] at g0 g1 g2
  have HK := fun w1 (x : Ext w w1) => hid (referror_any (s.frame kind nums) a cap w1 (hr.ext x) (by simp only [Snd.frame]; omega))
  unfold frz at hW0
  have HW0 := hid hW0
  have H := hid h
  have Hb6 := hid b6
  have Hs0 := hid hs0
  clear hW0 h hr b6 hs0
  simp only [Snd.frame, frv] at HK hc
  simp only [hc] at HK
  clear hc
  go_enter Tryd.func13, Tryd.ntmps13
  go_wp2
  rw [← HW0.out]
  refine wp_flowT (fun b => W0.heap.size ≤ b) (by kernel_rfl) (by kernel_rfl) ?_
  repeat (apply FlowT.d; (intro w1 hk; unfold does; go_simp; (try go_ints); (first | exact DetR.mk | (simp only [↓IntWalk.iteOmega, Oper.doesUpon_value]; exact DetR.mk) | (simp only [↓IntWalk.iteOmega]; go_simp; (try go_ints); exact DetR.mk))); simp only [Act.put, List.setIfInBounds_toArray, List.set_cons_zero, List.set_cons_succ])
  refine FlowT.s (fun v w' => ∃ b7, v = .pointer (some ⟨b7, 0, none⟩) ∧ Blk w' b7 frz 45 ∧ W0.heap.size ≤ b7 ∧ Ext W0 w') 15 rfl (by kernel_rfl) (fun _ _ _ ⟨b7, e1, e2, e3, e4⟩ x => ⟨b7, e1, e2.ext x, e3, e4.trans x⟩) (fun wa hC hk => ?_) ?_
  · unfold does
    go_simp
    exact ⟨hk.alloc _, _, rfl, Blk.new _ _ _, hC.size, hC.alloc _⟩
  rintro _ ⟨_, b7, rfl, _, hb7, _⟩
  have Hb7 := hid hb7
  clear hb7
  simp only [Act.put, List.setIfInBounds_toArray, List.set_cons_zero, List.set_cons_succ]
  refine FlowT.s (fun _ w' => Blk w' b7 #[.int .u8 (kind.toNat : Int), .int .i64 s.fr, .int .i64 s.to, .int .i64 s.next, .slice a nums.length cap] 45 ∧ Ext W0 w') 16 rfl (by kernel_rfl) (fun _ _ _ ⟨e1, e2⟩ x => ⟨e1.ext x, e2.trans x⟩) (fun wa hC hk => ?_) ?_
  · obtain ⟨b', e, hB, _, hx⟩ := hC
    obtain rfl : b7 = b' := by simpa using e
    have c0 := hB.av 0 rfl
    have c1 := hB.av 1 rfl
    have c2 := hB.av 2 rfl
    have c3 := hB.av 3 rfl
    have c4 := hB.av 4 rfl
    have f0 := hB.free
    unfold does
    go_simp
    exact ⟨hk.trans ((store5_keep _ _ _ _ _ _ _).mono fun b _ e => by subst e; exact Hb7.out), store5 hB, Keep.new hx (store5_keep _ _ _ _ _ _ _) (fun b e => by subst e; exact Hb7.out)⟩
  rintro _ ⟨_, _⟩
  simp only [Act.put, List.setIfInBounds_toArray, List.set_cons_zero, List.set_cons_succ]
  refine FlowT.fin fun w1 hC hk => ?_
  obtain ⟨hB, hx⟩ := hC
  clear g0 g1 g2 hk HW0
  have hx1 := xW0.trans hx
  have d0 := hB.av 0 rfl
  have d1 := hB.av 1 rfl
  have d2 := hB.av 2 rfl
  have d3 := hB.av 3 rfl
  have d4 := hB.av 4 rfl
  go_wp2_with fail
  refine (HK _ hx1).out.mono ?_
  intro e w2 hx2
  obtain ⟨rfl, hx2⟩ := hx2
  clear HK d0 d1 d2 d3 d4
  have b6 := Hb6.out.ext (hx.trans hx2)
  have e0 := b6.av 0 rfl
  have e1 := b6.av 1 rfl
  have e2 := b6.av 2 rfl
  have e3 := b6.av 3 rfl
  have e4 := b6.av 4 rfl
  have f6 := b6.free
  have hB6 := hid (store5 (b0 := .int .u8 0) (b1 := .int .i64 0) (b2 := .int .i64 0) (b3 := .int .i64 0) (b4 := .slice none 0 0) b6)
  have hk6 := hid (store5_keep w2 w.heap.size (.int .u8 0) (.int .i64 0) (.int .i64 0) (.int .i64 0) (.slice none 0 0))
  have Hx := hid (hx1.trans hx2)
  clear b6 hB hx1 hx hx2 Hb6
  generalize hN : w.heap.size = N at *
  have HN := hid hN
  clear hN
  go_wp2
  have c0 := hB6.out.av 0 rfl
  have c1 := hB6.out.av 1 rfl
  have c2 := hB6.out.av 2 rfl
  have c3 := hB6.out.av 3 rfl
  have c4 := hB6.out.av 4 rfl
  have hE := hid (Keep.new Hx.out hk6.out (fun b hb => Nat.le_of_eq (HN.out.trans hb.symm)))
  generalize (((((w2.setCell ⟨N, 0, none⟩ (.int .u8 0)).setCell ⟨N, 1, none⟩ (.int .i64 0)).setCell ⟨N, 2, none⟩ (.int .i64 0)).setCell ⟨N, 3, none⟩ (.int .i64 0)).setCell ⟨N, 4, none⟩ (.slice none 0 0)) = W9 at *
  exact bodyPost_ret (v := .tuple #[fr0, .int .i64 (c : Int)]) (by simp [results, Tryd.results13, go_sem, c0, c1, c2, c3, c4]; rfl) rfl ⟨rfl, hE.out⟩

set_option maxRecDepth 100000 in
set_option maxHeartbeats 3200000 in
theorem refsend_ack (s : Snd) (kind : UInt8) (nums : List Int) (a : Option Addr) (cap : Nat) (w : World) (n0 p : Nat) (lv : Value) (ks : List (FV × Int)) (h : RSnd w n0 p s lv ks) (hr : Ints w a nums.length nums) (hl : nums.length ≤ 1000)
    (hc : (s.frame kind nums).code = 0) (hk : kind = 97) :
    Calls Tryd.prog 13 #[.pointer (some ⟨p, 0, none⟩), .int .u8 (kind.toNat : Int), .slice a nums.length cap] w fun e w' => e = .returned (.tuple #[fr0, .int .i64 4]) ∧ Ext w w' := by
  have hkn : (kind.toNat : Int) = 97 := by rw [hk]; rfl
  have Hkn := hid hkn
  clear hk hkn
  obtain ⟨W0, hW0⟩ : ∃ W0, W0 = w.alloc (.cells frz 45) := ⟨_, rfl⟩
  have xW0 : Ext w W0 := by rw [hW0]; exact (Ext.refl w).alloc _
  have hs0 : W0.heap.size = w.heap.size + 1 := by rw [hW0]; simp
  have b6 : Blk W0 w.heap.size frz 45 := by rw [hW0]; exact Blk.new _ _ _
  have hpl := h.hp.lt
  have hnp : ¬ W0.heap.size ≤ p := by omega
  have g0 := (h.hp.ext xW0).kc (X := fun b => W0.heap.size ≤ b) hnp 0 rfl
  have g1 := (h.hp.ext xW0).kc (X := fun b => W0.heap.size ≤ b) hnp 1 rfl
  have g2 := (h.hp.ext xW0).kc (X := fun b => W0.heap.size ≤ b) hnp 2 rfl
  simp only [List.getElem_toArray, List.getElem_cons_zero, List.getElem_cons_succ] at g0 g1 g2
  have HK := fun w1 (x : Ext w w1) => hid (referror_any (s.frame kind nums) a cap w1 (hr.ext x) (by simp only [Snd.frame]; omega))
  unfold frz at hW0
  have HW0 := hid hW0
  have H := hid h
  have Hb6 := hid b6
  have Hs0 := hid hs0
  clear hW0 h hr b6 hs0
  simp only [Snd.frame, frv] at HK hc
  simp only [hc] at HK
  clear hc
  go_enter Tryd.func13, Tryd.ntmps13
  go_wp2
  rw [← HW0.out]
  refine wp_flowT (fun b => W0.heap.size ≤ b) (by kernel_rfl) (by kernel_rfl) ?_
  repeat (apply FlowT.d; (intro w1 hk; unfold does; go_simp; (try go_ints); (first | exact DetR.mk | (simp only [↓IntWalk.iteOmega, Oper.doesUpon_value]; exact DetR.mk) | (simp only [↓IntWalk.iteOmega]; go_simp; (try go_ints); exact DetR.mk))); simp only [Act.put, List.setIfInBounds_toArray, List.set_cons_zero, List.set_cons_succ])
  refine FlowT.s (fun v w' => ∃ b7, v = .pointer (some ⟨b7, 0, none⟩) ∧ Blk w' b7 frz 45 ∧ W0.heap.size ≤ b7 ∧ Ext W0 w') 15 rfl (by kernel_rfl) (fun _ _ _ ⟨b7, e1, e2, e3, e4⟩ x => ⟨b7, e1, e2.ext x, e3, e4.trans x⟩) (fun wa hC hk => ?_) ?_
  · unfold does
    go_simp
    exact ⟨hk.alloc _, _, rfl, Blk.new _ _ _, hC.size, hC.alloc _⟩
  rintro _ ⟨_, b7, rfl, _, hb7, _⟩
  have Hb7 := hid hb7
  clear hb7
  simp only [Act.put, List.setIfInBounds_toArray, List.set_cons_zero, List.set_cons_succ]
  refine FlowT.s (fun _ w' => Blk w' b7 #[.int .u8 (kind.toNat : Int), .int .i64 s.fr, .int .i64 s.to, .int .i64 s.next, .slice a nums.length cap] 45 ∧ Ext W0 w') 16 rfl (by kernel_rfl) (fun _ _ _ ⟨e1, e2⟩ x => ⟨e1.ext x, e2.trans x⟩) (fun wa hC hk => ?_) ?_
  · obtain ⟨b', e, hB, _, hx⟩ := hC
    obtain rfl : b7 = b' := by simpa using e
    have c0 := hB.av 0 rfl
    have c1 := hB.av 1 rfl
    have c2 := hB.av 2 rfl
    have c3 := hB.av 3 rfl
    have c4 := hB.av 4 rfl
    have f0 := hB.free
    unfold does
    go_simp
    exact ⟨hk.trans ((store5_keep _ _ _ _ _ _ _).mono fun b _ e => by subst e; exact Hb7.out), store5 hB, Keep.new hx (store5_keep _ _ _ _ _ _ _) (fun b e => by subst e; exact Hb7.out)⟩
  rintro _ ⟨_, _⟩
  simp only [Act.put, List.setIfInBounds_toArray, List.set_cons_zero, List.set_cons_succ]
  refine FlowT.fin fun w1 hC hk => ?_
  obtain ⟨hB, hx⟩ := hC
  clear g0 g1 g2 hk HW0
  have hx1 := xW0.trans hx
  have d0 := hB.av 0 rfl
  have d1 := hB.av 1 rfl
  have d2 := hB.av 2 rfl
  have d3 := hB.av 3 rfl
  have d4 := hB.av 4 rfl
  go_wp2_with fail
  refine (HK _ hx1).out.mono ?_
  intro e w2 hx2
  obtain ⟨rfl, hx2⟩ := hx2
  clear HK d0 d1 d2 d3 d4
  have hkn := Hkn.out
  have b6 := Hb6.out.ext (hx.trans hx2)
  have e0 := b6.av 0 rfl
  have e1 := b6.av 1 rfl
  have e2 := b6.av 2 rfl
  have e3 := b6.av 3 rfl
  have e4 := b6.av 4 rfl
  have f6 := b6.free
  have hB6 := hid (store5 (b0 := .int .u8 0) (b1 := .int .i64 0) (b2 := .int .i64 0) (b3 := .int .i64 0) (b4 := .slice none 0 0) b6)
  have hk6 := hid (store5_keep w2 w.heap.size (.int .u8 0) (.int .i64 0) (.int .i64 0) (.int .i64 0) (.slice none 0 0))
  have Hx := hid (hx1.trans hx2)
  clear b6 hB hx1 hx hx2 Hb6
  generalize hN : w.heap.size = N at *
  have HN := hid hN
  clear hN
  go_wp2
  have c0 := hB6.out.av 0 rfl
  have c1 := hB6.out.av 1 rfl
  have c2 := hB6.out.av 2 rfl
  have c3 := hB6.out.av 3 rfl
  have c4 := hB6.out.av 4 rfl
  have hE := hid (Keep.new Hx.out hk6.out (fun b hb => Nat.le_of_eq (HN.out.trans hb.symm)))
  generalize (((((w2.setCell ⟨N, 0, none⟩ (.int .u8 0)).setCell ⟨N, 1, none⟩ (.int .i64 0)).setCell ⟨N, 2, none⟩ (.int .i64 0)).setCell ⟨N, 3, none⟩ (.int .i64 0)).setCell ⟨N, 4, none⟩ (.slice none 0 0)) = W9 at *
  exact bodyPost_ret (v := .tuple #[fr0, .int .i64 4]) (by simp [results, Tryd.results13, go_sem, c0, c1, c2, c3, c4]; rfl) rfl ⟨rfl, hE.out⟩

set_option maxRecDepth 100000 in
set_option maxHeartbeats 3200000 in
theorem refsend_full (s : Snd) (kind : UInt8) (nums : List Int) (a : Option Addr) (cap : Nat) (w : World) (n0 p : Nat) (lv : Value) (ks : List (FV × Int)) (h : RSnd w n0 p s lv ks) (hr : Ints w a nums.length nums) (hl : nums.length ≤ 1000)
    (hc : (s.frame kind nums).code = 0) (hk : kind ≠ 97) (hf : 200 ≤ s.l.length) :
    Calls Tryd.prog 13 #[.pointer (some ⟨p, 0, none⟩), .int .u8 (kind.toNat : Int), .slice a nums.length cap] w fun e w' => e = .returned (.tuple #[fr0, .int .i64 8]) ∧ Ext w w' := by
  have hkn : ¬ (kind.toNat : Int) = 97 := fun e => hk (UInt8.toNat_inj.1 (by rw [show (97 : UInt8).toNat = 97 from rfl]; omega))
  have hf' : (200 : Int) ≤ (ks.length : Int) := by have := h.len; omega
  clear hk hf
  obtain ⟨W0, hW0⟩ : ∃ W0, W0 = w.alloc (.cells frz 45) := ⟨_, rfl⟩
  have xW0 : Ext w W0 := by rw [hW0]; exact (Ext.refl w).alloc _
  have hs0 : W0.heap.size = w.heap.size + 1 := by rw [hW0]; simp
  have b6 : Blk W0 w.heap.size frz 45 := by rw [hW0]; exact Blk.new _ _ _
  have hpl := h.hp.lt
  have hnp : ¬ W0.heap.size ≤ p := by omega
  have g0 := (h.hp.ext xW0).kc (X := fun b => W0.heap.size ≤ b) hnp 0 rfl
  have g1 := (h.hp.ext xW0).kc (X := fun b => W0.heap.size ≤ b) hnp 1 rfl
  have g2 := (h.hp.ext xW0).kc (X := fun b => W0.heap.size ≤ b) hnp 2 rfl
  simp only [List.getElem_toArray, List.getElem_cons_zero, List.getElem_cons_succ] at g0 g1 g2
  have HK := fun w1 (x : Ext w w1) => hid (referror_any (s.frame kind nums) a cap w1 (hr.ext x) (by simp only [Snd.frame]; omega))
  unfold frz at hW0
  have HW0 := hid hW0
  have H := hid h
  have Hb6 := hid b6
  have Hs0 := hid hs0
  clear hW0 h hr b6 hs0
  simp only [Snd.frame, frv] at HK hc
  simp only [hc] at HK
  clear hc
  go_enter Tryd.func13, Tryd.ntmps13
  go_wp2
  rw [← HW0.out]
  refine wp_flowT (fun b => W0.heap.size ≤ b) (by kernel_rfl) (by kernel_rfl) ?_
  repeat (apply FlowT.d; (intro w1 hk; unfold does; go_simp; (try go_ints); (first | exact DetR.mk | (simp only [↓IntWalk.iteOmega, Oper.doesUpon_value]; exact DetR.mk) | (simp only [↓IntWalk.iteOmega]; go_simp; (try go_ints); exact DetR.mk))); simp only [Act.put, List.setIfInBounds_toArray, List.set_cons_zero, List.set_cons_succ])
  refine FlowT.s (fun v w' => ∃ b7, v = .pointer (some ⟨b7, 0, none⟩) ∧ Blk w' b7 frz 45 ∧ W0.heap.size ≤ b7 ∧ Ext W0 w') 15 rfl (by kernel_rfl) (fun _ _ _ ⟨b7, e1, e2, e3, e4⟩ x => ⟨b7, e1, e2.ext x, e3, e4.trans x⟩) (fun wa hC hk => ?_) ?_
  · unfold does
    go_simp
    exact ⟨hk.alloc _, _, rfl, Blk.new _ _ _, hC.size, hC.alloc _⟩
  rintro _ ⟨_, b7, rfl, _, hb7, _⟩
  have Hb7 := hid hb7
  clear hb7
  simp only [Act.put, List.setIfInBounds_toArray, List.set_cons_zero, List.set_cons_succ]
  refine FlowT.s (fun _ w' => Blk w' b7 #[.int .u8 (kind.toNat : Int), .int .i64 s.fr, .int .i64 s.to, .int .i64 s.next, .slice a nums.length cap] 45 ∧ Ext W0 w') 16 rfl (by kernel_rfl) (fun _ _ _ ⟨e1, e2⟩ x => ⟨e1.ext x, e2.trans x⟩) (fun wa hC hk => ?_) ?_
  · obtain ⟨b', e, hB, _, hx⟩ := hC
    obtain rfl : b7 = b' := by simpa using e
    have c0 := hB.av 0 rfl
    have c1 := hB.av 1 rfl
    have c2 := hB.av 2 rfl
    have c3 := hB.av 3 rfl
    have c4 := hB.av 4 rfl
    have f0 := hB.free
    unfold does
    go_simp
    exact ⟨hk.trans ((store5_keep _ _ _ _ _ _ _).mono fun b _ e => by subst e; exact Hb7.out), store5 hB, Keep.new hx (store5_keep _ _ _ _ _ _ _) (fun b e => by subst e; exact Hb7.out)⟩
  rintro _ ⟨_, _⟩
  simp only [Act.put, List.setIfInBounds_toArray, List.set_cons_zero, List.set_cons_succ]
  refine FlowT.fin fun w1 hC hk => ?_
  obtain ⟨hB, hx⟩ := hC
  clear g0 g1 g2 hk HW0
  have hx1 := xW0.trans hx
  have d0 := hB.av 0 rfl
  have d1 := hB.av 1 rfl
  have d2 := hB.av 2 rfl
  have d3 := hB.av 3 rfl
  have d4 := hB.av 4 rfl
  go_wp2_with fail
  refine (HK _ hx1).out.mono ?_
  intro e w2 hx2
  obtain ⟨rfl, hx2⟩ := hx2
  clear HK d0 d1 d2 d3 d4
  have q4 := (H.out.hp.ext (hx1.trans hx2)).av 4 rfl
  obtain ⟨a4, c4, hlv⟩ := row_form H.out.hl
  simp only [List.getElem_toArray, List.getElem_cons_zero, List.getElem_cons_succ, hlv] at q4
  clear hlv
  generalize ks.length = kn at *
  have b6 := Hb6.out.ext (hx.trans hx2)
  have e0 := b6.av 0 rfl
  have e1 := b6.av 1 rfl
  have e2 := b6.av 2 rfl
  have e3 := b6.av 3 rfl
  have e4 := b6.av 4 rfl
  have f6 := b6.free
  have hB6 := hid (store5 (b0 := .int .u8 0) (b1 := .int .i64 0) (b2 := .int .i64 0) (b3 := .int .i64 0) (b4 := .slice none 0 0) b6)
  have hk6 := hid (store5_keep w2 w.heap.size (.int .u8 0) (.int .i64 0) (.int .i64 0) (.int .i64 0) (.slice none 0 0))
  have Hx := hid (hx1.trans hx2)
  clear b6 hB hx1 hx hx2 Hb6
  generalize hN : w.heap.size = N at *
  have HN := hid hN
  clear hN
  go_wp2
  have c0 := hB6.out.av 0 rfl
  have c1 := hB6.out.av 1 rfl
  have c2 := hB6.out.av 2 rfl
  have c3 := hB6.out.av 3 rfl
  have c4 := hB6.out.av 4 rfl
  have hE := hid (Keep.new Hx.out hk6.out (fun b hb => Nat.le_of_eq (HN.out.trans hb.symm)))
  generalize (((((w2.setCell ⟨N, 0, none⟩ (.int .u8 0)).setCell ⟨N, 1, none⟩ (.int .i64 0)).setCell ⟨N, 2, none⟩ (.int .i64 0)).setCell ⟨N, 3, none⟩ (.int .i64 0)).setCell ⟨N, 4, none⟩ (.slice none 0 0)) = W9 at *
  exact bodyPost_ret (v := .tuple #[fr0, .int .i64 8]) (by simp [results, Tryd.results13, go_sem, c0, c1, c2, c3, c4]; rfl) rfl ⟨rfl, hE.out⟩
end Go.Proofs.YtkabgmohgjljkaaDoor
