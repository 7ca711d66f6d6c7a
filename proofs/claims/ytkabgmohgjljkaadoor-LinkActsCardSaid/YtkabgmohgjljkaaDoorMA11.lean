/- Texts of one proof, put together: K3 K4 K5 FT K6. -/
import Derived.Test.YtkabgmohgjljkaaDoorMA04
import Derived.Test.YtkabgmohgjljkaaDoorMA10

/- The reference's links: a frame is sent and kept. -/
namespace Go.Proofs.YtkabgmohgjljkaaDoor
set_option linter.unusedSimpArgs false
set_option linter.unusedVariables false
open Go Go.RowKit

set_option maxRecDepth 100000 in
set_option maxHeartbeats 3200000 in
theorem refsend_ok (s : Snd) (kind : UInt8) (nums : List Int) (a : Option Addr) (cap : Nat) (w : World) (n0 p : Nat) (lv : Value) (ks : List (FV × Int)) (h : RSnd w n0 p s lv ks) (hr : Ints w a nums.length nums) (hl : nums.length ≤ 1000)
    (hnv : NumsAt w n0 none (.slice a nums.length cap) nums) (hc : (s.frame kind nums).code = 0) (hk : kind ≠ 97) (hf : s.l.length < 200) (m : Nat) (ok : s.Ok m) (hm : m ≤ 1000000) (hn0 : n0 ≤ w.heap.size) :
    Calls Tryd.prog 13 #[.pointer (some ⟨p, 0, none⟩), .int .u8 (kind.toNat : Int), .slice a nums.length cap] w fun e w' => e = .returned (.tuple #[frv (s.frame kind nums) a cap, .int .i64 0]) ∧ ∃ lv' ks', RSnd w' n0 p (s.sent kind nums) lv' ks' ∧ Keep (fun b => b = p ∨ lv.ownBlock = some b) w w' ∧ ∀ k, lv'.ownBlock = some k → lv.ownBlock = some k ∨ w.heap.size ≤ k := by
  obtain ⟨a4, c4, rfl⟩ := row_form h.hl
  have hkn : ¬ (kind.toNat : Int) = 97 := fun e => hk (UInt8.toNat_inj.1 (by rw [show (97 : UInt8).toNat = 97 from rfl]; omega))
  have hf' : (ks.length : Int) < 200 := by have := h.len; omega
  have hnx := ok.next
  have Hn0 := hid hn0
  have Hnv := hid hnv
  clear hk hf ok hn0 hnv
  obtain ⟨W0, hW0⟩ : ∃ W0, W0 = w.alloc (.cells frz 45) := ⟨_, rfl⟩
  have xW0 : Ext w W0 := by rw [hW0]; exact (Ext.refl w).alloc _
  have hs0 : W0.heap.size = w.heap.size + 1 := by rw [hW0]; simp
  have b6 : Blk W0 w.heap.size frz 45 := by rw [hW0]; exact Blk.new _ _ _
  have hpl := h.hp.lt
  have hnp : ¬ W0.heap.size ≤ p := by omega
  have g0 := (h.hp.ext xW0).kc (X := fun b => W0.heap.size ≤ b) hnp 0 rfl
  have g1 := (h.hp.ext xW0).kc (X := fun b => W0.heap.size ≤ b) hnp 1 rfl
  have g2 := (h.hp.ext xW0).kc (X := fun b => W0.heap.size ≤ b) hnp 2 rfl
  simp only [List.getElem_toArray, List.getElem_cons_zero, List.getElem_cons_succ] at g0 g1 g2
  have HK := fun w1 (x : Ext w w1) => hid (referror_any (s.frame kind nums) a cap w1 (hr.ext x) (by simp only [Snd.frame]; omega))
  unfold frz at hW0
  have HW0 := hid hW0
  have H := hid h
  have Hb6 := hid b6
  have Hs0 := hid hs0
  clear hW0 h hr b6 hs0
  simp only [Snd.frame, frv] at HK hc
  simp only [hc] at HK
  clear hc
  go_enter Tryd.func13, Tryd.ntmps13
  go_wp2
  rw [← HW0.out]
  refine wp_flowT (fun b => W0.heap.size ≤ b) (by kernel_rfl) (by kernel_rfl) ?_
  repeat (apply FlowT.d; (intro w1 hk; unfold does; go_simp; (try go_ints); (first | exact DetR.mk | (simp only [↓IntWalk.iteOmega, Oper.doesUpon_value]; exact DetR.mk) | (simp only [↓IntWalk.iteOmega]; go_simp; (try go_ints); exact DetR.mk))); simp only [Act.put, List.setIfInBounds_toArray, List.set_cons_zero, List.set_cons_succ])
  refine FlowT.s (fun v w' => ∃ b7, v = .pointer (some ⟨b7, 0, none⟩) ∧ Blk w' b7 frz 45 ∧ W0.heap.size ≤ b7 ∧ Ext W0 w') 15 rfl (by kernel_rfl) (fun _ _ _ ⟨b7, e1, e2, e3, e4⟩ x => ⟨b7, e1, e2.ext x, e3, e4.trans x⟩) (fun wa hC hk => ?_) ?_
  · unfold does
    go_simp
    exact ⟨hk.alloc _, _, rfl, Blk.new _ _ _, hC.size, hC.alloc _⟩
  rintro _ ⟨_, b7, rfl, _, hb7, _⟩
  have Hb7 := hid hb7
  clear hb7
  simp only [Act.put, List.setIfInBounds_toArray, List.set_cons_zero, List.set_cons_succ]
  refine FlowT.s (fun _ w' => Blk w' b7 #[.int .u8 (kind.toNat : Int), .int .i64 s.fr, .int .i64 s.to, .int .i64 s.next, .slice a nums.length cap] 45 ∧ Ext W0 w') 16 rfl (by kernel_rfl) (fun _ _ _ ⟨e1, e2⟩ x => ⟨e1.ext x, e2.trans x⟩) (fun wa hC hk => ?_) ?_
  · obtain ⟨b', e, hB, _, hx⟩ := hC
    obtain rfl : b7 = b' := by simpa using e
    have c0 := hB.av 0 rfl
    have c1 := hB.av 1 rfl
    have c2 := hB.av 2 rfl
    have c3 := hB.av 3 rfl
    have c4 := hB.av 4 rfl
    have f0 := hB.free
    unfold does
    go_simp
    exact ⟨hk.trans ((store5_keep _ _ _ _ _ _ _).mono fun b _ e => by subst e; exact Hb7.out), store5 hB, Keep.new hx (store5_keep _ _ _ _ _ _ _) (fun b e => by subst e; exact Hb7.out)⟩
  rintro _ ⟨_, _⟩
  simp only [Act.put, List.setIfInBounds_toArray, List.set_cons_zero, List.set_cons_succ]
  refine FlowT.fin fun w1 hC hk => ?_
  obtain ⟨hB, hx⟩ := hC
  clear g0 g1 g2 hk HW0
  have hx1 := xW0.trans hx
  have d0 := hB.av 0 rfl
  have d1 := hB.av 1 rfl
  have d2 := hB.av 2 rfl
  have d3 := hB.av 3 rfl
  have d4 := hB.av 4 rfl
  go_wp2_with fail
  refine (HK _ hx1).out.mono ?_
  intro e w2 hx2
  obtain ⟨rfl, hx2⟩ := hx2
  clear HK d0 d1 d2 d3 d4
  have hx2' := hx1.trans hx2
  have h2 := H.out.ext hx2'
  have q2 := h2.hp.av 2 rfl
  have q4 := h2.hp.av 4 rfl
  have f2 := h2.hp.free
  simp only [List.getElem_toArray, List.getElem_cons_zero, List.getElem_cons_succ] at q2 q4
  have hB2 := hB.ext hx2
  have b62 := Hb6.out.ext (hx.trans hx2)
  have hk3 : Keep (fun b => b = p) w2 (w2.setCell ⟨p, 2, none⟩ (.int .i64 (s.next + 1))) := Keep.set (X := fun b => b = p) (Keep.refl _ _) rfl _
  have hwr : Wr w2 n0 none fun b => b = p := Wr.blk h2.hp (by decide) h2.lo
  have hP3 := h2.hp.set 2 (.int .i64 (s.next + 1))
  simp only [List.setIfInBounds_toArray, List.set_cons_zero, List.set_cons_succ] at hP3
  have hB3 := hB2.keep hk3 fun e => h2.hp.ty_ne hB2 (by decide) e.symm
  have b63 := b62.keep hk3 fun e => h2.hp.ty_ne b62 (by decide) e.symm
  have hL3 := row_keep h2.hl hk3 fun b hb e => by
    obtain ⟨c, hc⟩ := own_ty h2.hl hb
    exact h2.hp.ty_ne hc (by decide) e.symm
  have hN3 : ∀ x ∈ ks, x.1.At (w2.setCell ⟨p, 2, none⟩ (.int .i64 (s.next + 1))) n0 none := fun x hm => NumsAt.keep (h2.hn x hm) hk3 hwr
  have hV3 : NumsAt (w2.setCell ⟨p, 2, none⟩ (.int .i64 (s.next + 1))) n0 none (.slice a nums.length cap) nums := (Hnv.out.ext hx2').keep hk3 hwr
  have hlp : ¬ (Value.slice a4 ks.length c4).ownBlock = some p := fun e => by
    obtain ⟨c, hc⟩ := own_ty h2.hl e
    exact h2.hp.ty_ne hc (by decide) rfl
  have Hlp := hid hlp
  have HkA := hid ((hx2'.keep fun b => b = p).trans hk3)
  have hsz3 : Hid (w2.heap.size = (w2.setCell ⟨p, 2, none⟩ (.int .i64 (s.next + 1))).heap.size) := hid (by simp [World.setCell])
  have hw0 : Hid (W0.heap.size ≤ w2.heap.size) := hid (hx.trans hx2).size
  have Heq := hid h2.eq
  have Hlo := hid h2.lo
  clear hB hx1 hx hx2 hx2' h2 hB2 b62 hk3 hwr hlp Hb6 H Hnv
  go_wp2
  generalize w2.setCell ⟨p, 2, none⟩ (.int .i64 (s.next + 1)) = W3 at *
  clear q2 q4 f2
  have g3 := hP3.kc (X := fun k => (Value.slice a4 ks.length c4).ownBlock = some k) Hlp.out 3 rfl
  have g4 := hP3.kc (X := fun k => (Value.slice a4 ks.length c4).ownBlock = some k) Hlp.out 4 rfl
  simp only [List.getElem_toArray, List.getElem_cons_zero, List.getElem_cons_succ] at g3 g4
  have hb8 : ¬ (Value.slice a4 ks.length c4).ownBlock = some b7 := fun e => by
    obtain ⟨c, hc⟩ := own_ty hL3 e
    exact hB3.ty_ne hc (by decide) rfl
  have d0 := hB3.kc (X := fun k => (Value.slice a4 ks.length c4).ownBlock = some k) hb8 0 rfl
  have d1 := hB3.kc (X := fun k => (Value.slice a4 ks.length c4).ownBlock = some k) hb8 1 rfl
  have d2 := hB3.kc (X := fun k => (Value.slice a4 ks.length c4).ownBlock = some k) hb8 2 rfl
  have d3 := hB3.kc (X := fun k => (Value.slice a4 ks.length c4).ownBlock = some k) hb8 3 rfl
  have d4 := hB3.kc (X := fun k => (Value.slice a4 ks.length c4).ownBlock = some k) hb8 4 rfl
  simp only [List.getElem_toArray, List.getElem_cons_zero, List.getElem_cons_succ] at d0 d1 d2 d3 d4
  obtain ⟨ti, hi, hz0, hz1, hz2⟩ := info_parts rkept_info
  have HP3 := hid hP3
  have HB3 := hid hB3
  have HL3 := hid hL3
  have HN3 := hid hN3
  have HV3 := hid hV3
  have Hb63 := hid b63
  have Hb8' := hid hb8
  clear hP3 hB3 hL3 hN3 hV3 b63 hb8
  refine wp_flowT (fun k => (Value.slice a4 ks.length c4).ownBlock = some k) (by kernel_rfl) (by kernel_rfl) ?_
  repeat (apply FlowT.d; (intro w1 hk; unfold does; go_simp; (try go_ints); (first | exact DetR.mk | (simp only [↓IntWalk.iteOmega, Oper.doesUpon_value]; exact DetR.mk) | (simp only [↓IntWalk.iteOmega]; go_simp; (try go_ints); exact DetR.mk))); simp only [Act.put, List.setIfInBounds_toArray, List.set_cons_zero, List.set_cons_succ])
  obtain ⟨NC, hNC⟩ : ∃ NC, NC = kcells (⟨s.frame kind nums, .slice a nums.length cap⟩, s.now) := ⟨_, rfl⟩
  have HNC := hid hNC
  clear hNC
  refine FlowT.s (fun v' w' => ∃ b, v' = .slice (some ⟨b, 0, none⟩) 1 1 ∧ Blk w' b #[.int .u8 (kind.toNat : Int), .int .i64 s.fr, .int .i64 s.to, .int .i64 s.next, .slice a nums.length cap, .int .i64 s.now] 100 ∧ Ext W3 w') 11 rfl (by kernel_rfl) (fun _ _ _ ⟨b, h1, h2, h3⟩ he => ⟨b, h1, h2.ext he, h3.trans he⟩) (fun w4 hC hk => ?_) (fun v2 hv2 => ?_)
  · unfold does
    go_simp
    exact ⟨hk.alloc _, _, rfl, Blk.new _ _ _, hC.alloc _⟩
  obtain ⟨_, b, rfl, _, _⟩ := hv2
  simp only [Act.put, List.setIfInBounds_toArray, List.set_cons_zero, List.set_cons_succ]
  refine FlowT.s (fun v' w' => w'.ownsRow 0 100 6 v' (ks.length + 1) (ks.flatMap kcells ++ NC) ∧ ∀ k, v'.ownBlock = some k → (Value.slice a4 ks.length c4).ownBlock = some k ∨ W3.heap.size ≤ k) 12 rfl (by kernel_rfl) (fun _ _ _ h he => ⟨row_keep h.1 (he.keep fun _ => False) (fun _ _ h => h), h.2⟩) (fun w5 hC hk => ?_) (fun v3 hv3 => ?_)
  · obtain ⟨b', hb', hblk, hx⟩ := hC
    obtain rfl : b = b' := by simpa using hb'
    refine does_append rfl (.tmp 52) (.tmp 59) 36 rfl 100 ti _ 6 64 Tryd.underlying36 hi hz0 hz1 hz2 rfl (by decide) (.slice a4 ks.length c4) ks.length (ks.flatMap kcells) rfl (own_base (row_keep HL3.out (hx.keep fun _ => False) (fun _ _ h => h)) (Nat.zero_le _)) ⟨b, 0, none⟩ 1 1 NC rfl (by rw [HNC.out]; rfl) ?_ (by rw [HNC.out, fr_cells]; simp [Value.oneCell']) (by unfold maxLen; omega) (by omega) (fun v' w' ho hkk hb2 => ?_)
    · intro j u hj
      rw [HNC.out, fr_cells] at hj
      rw [show (⟨b, 0, none⟩ : Addr).add j = ⟨b, j, none⟩ from by by_cases h0 : j = 0 <;> simp [Addr.add, h0], hblk.cell j]
      simpa [Snd.frame] using hj
    · refine ⟨(hx.keep _).trans hkk, ho, fun k hk' => ?_⟩
      rcases hb2 k hk' with h1 | h1
      · exact .inl h1
      · exact .inr (Nat.le_trans hx.size h1)
  obtain ⟨a5, c5, rfl⟩ : ∃ a5 c5, v3 = .slice a5 (ks.length + 1) c5 := by
    obtain ⟨_, h1, _⟩ := hv3
    exact row_form h1
  clear hv3
  simp only [Act.put, List.setIfInBounds_toArray, List.set_cons_zero, List.set_cons_succ]
  repeat (apply FlowT.d; (intro w1 hk; unfold does; go_simp; (try go_ints); (first | exact DetR.mk | (simp only [↓IntWalk.iteOmega, Oper.doesUpon_value]; exact DetR.mk) | (simp only [↓IntWalk.iteOmega]; go_simp; (try go_ints); exact DetR.mk))); simp only [Act.put, List.setIfInBounds_toArray, List.set_cons_zero, List.set_cons_succ])
  refine FlowT.last (fun _ w' => ∃ w6, w6.ownsRow 0 100 6 (.slice a5 (ks.length + 1) c5) (ks.length + 1) (ks.flatMap kcells ++ NC) ∧ (∀ k, (Value.slice a5 (ks.length + 1) c5).ownBlock = some k → (Value.slice a4 ks.length c4).ownBlock = some k ∨ W3.heap.size ≤ k) ∧ Keep (fun k => (Value.slice a4 ks.length c4).ownBlock = some k) W3 w6 ∧ w' = w6.setCell ⟨p, 4, none⟩ (.slice a5 (ks.length + 1) c5)) 15 rfl (by kernel_rfl) (by kernel_rfl) (fun w6 hC hk => ?_) (fun v w7 hR => ?_)
  · have q4 := g4 w6 hk
    have f4 := (HP3.out.keep hk Hlp.out).free 4
    unfold does
    go_simp
    exact ⟨w6, hC.1, hC.2, hk, rfl⟩
  obtain ⟨w6, ho, hb3, hk6, rfl⟩ := hR
  simp only [Act.put]
  clear g3 g4 d0 d1 d2 d3 d4
  have hP6 := HP3.out.keep hk6 Hlp.out
  have hne5 : ∀ k, (Value.slice a5 (ks.length + 1) c5).ownBlock = some k → k ≠ p := fun k hk e => by
    obtain ⟨c, hc⟩ := own_ty ho hk
    exact hP6.ty_ne hc (by decide) e.symm
  have hP7 := hP6.set 4 (.slice a5 (ks.length + 1) c5)
  simp only [List.setIfInBounds_toArray, List.set_cons_zero, List.set_cons_succ] at hP7
  have hk7 : Keep (fun k => k = p ∨ (Value.slice a4 ks.length c4).ownBlock = some k) W3 (w6.setCell ⟨p, 4, none⟩ (.slice a5 (ks.length + 1) c5)) := (hk6.mono fun k _ h => .inr h).set (.inl rfl) _
  have hwr : Wr W3 n0 none fun k => k = p ∨ (Value.slice a4 ks.length c4).ownBlock = some k := (Wr.blk HP3.out (by decide) Hlo.out).or (Wr.row HL3.out (by decide))
  have hL7 := row_keep (X := fun k => k = p) ho (Keep.set (X := fun k => k = p) (Keep.refl _ w6) rfl _) (w' := w6.setCell ⟨p, 4, none⟩ (.slice a5 (ks.length + 1) c5)) hne5
  have hB7 := HB3.out.keep hk7 fun e => e.elim (fun e => HP3.out.ty_ne HB3.out (by decide) e.symm) Hb8'.out
  have hN7 : ∀ x ∈ ks, x.1.At (w6.setCell ⟨p, 4, none⟩ (.slice a5 (ks.length + 1) c5)) n0 none := fun x hm => NumsAt.keep (HN3.out x hm) hk7 hwr
  have hV7 := HV3.out.keep hk7 hwr
  have b67 := Hb63.out.keep hk7 fun e => e.elim (fun e => HP3.out.ty_ne Hb63.out (by decide) e.symm) fun e => by
    obtain ⟨c, hc⟩ := own_ty HL3.out e
    exact Hb63.out.ty_ne hc (by decide) rfl
  have HkB := hid (HkA.out.mono (Y := fun k => k = p ∨ (Value.slice a4 ks.length c4).ownBlock = some k) (fun k _ h => .inl h) |>.trans hk7)
  have hlo6 : Hid (∀ k, (Value.slice a5 (ks.length + 1) c5).ownBlock = some k → (Value.slice a4 ks.length c4).ownBlock = some k ∨ w.heap.size ≤ k) := hid fun k hk => by
    rcases hb3 k hk with h1 | h1
    · exact .inl h1
    · have := hw0.out; have := hsz3.out; have := Hs0.out; exact .inr (by omega)
  have hlo5 : Hid (∀ k, (Value.slice a5 (ks.length + 1) c5).ownBlock = some k → n0 ≤ k) := hid fun k hk => by
    rcases hb3 k hk with h1 | h1
    · exact (World.ownsRow.lt HL3.out k h1).1
    · have := Hn0.out; have := hw0.out; have := hsz3.out; have := Hs0.out; omega
  clear ho hb3 hk6 hP6 hne5 hk7 hwr HkA HP3 HL3 HN3 HV3 HB3 Hb63 Hb8'
  generalize w6.setCell ⟨p, 4, none⟩ (.slice a5 (ks.length + 1) c5) = W7 at *
  have d0 := hB7.av 0 rfl
  have d1 := hB7.av 1 rfl
  have d2 := hB7.av 2 rfl
  have d3 := hB7.av 3 rfl
  have d4 := hB7.av 4 rfl
  have e0 := b67.av 0 rfl
  have e1 := b67.av 1 rfl
  have e2 := b67.av 2 rfl
  have e3 := b67.av 3 rfl
  have e4 := b67.av 4 rfl
  have f6 := b67.free
  have hB6 := hid (store5 (b0 := .int .u8 (kind.toNat : Int)) (b1 := .int .i64 s.fr) (b2 := .int .i64 s.to) (b3 := .int .i64 s.next) (b4 := .slice a nums.length cap) b67)
  have hk6 := hid (store5_keep W7 w.heap.size (.int .u8 (kind.toNat : Int)) (.int .i64 s.fr) (.int .i64 s.to) (.int .i64 s.next) (.slice a nums.length cap))
  have HP7 := hid hP7
  have HL7 := hid hL7
  have HN7 := hid hN7
  have HV7 := hid hV7
  have Hb67 := hid b67
  have Hpl := hid hpl
  clear hP7 hL7 hN7 hV7 hB7 b67 hpl
  generalize hN : w.heap.size = N at *
  have HN := hid hN
  clear hN
  go_wp2
  have c0 := hB6.out.av 0 rfl
  have c1' := hB6.out.av 1 rfl
  have c2 := hB6.out.av 2 rfl
  have c3 := hB6.out.av 3 rfl
  have c4' := hB6.out.av 4 rfl
  clear hB6
  generalize (((((W7.setCell ⟨N, 0, none⟩ (.int .u8 (kind.toNat : Int))).setCell ⟨N, 1, none⟩ (.int .i64 s.fr)).setCell ⟨N, 2, none⟩ (.int .i64 s.to)).setCell ⟨N, 3, none⟩ (.int .i64 s.next)).setCell ⟨N, 4, none⟩ (.slice a nums.length cap)) = w9 at *
  refine bodyPost_ret (v := .tuple #[frv (s.frame kind nums) a cap, .int .i64 0]) (by simp [results, Tryd.results13, go_sem, c0, c1', c2, c3, c4']; rfl) rfl ⟨rfl, .slice a5 (ks.length + 1) c5, ks ++ [(⟨s.frame kind nums, .slice a nums.length cap⟩, s.now)], ?_, ?_, fun k hk => by rw [HN.out]; exact hlo6.out k hk⟩
  · have hwr : Wr W7 n0 none fun b => b = N := Wr.blk Hb67.out (by decide) (by have := Hn0.out; have := HN.out; omega)
    refine ⟨HP7.out.keep hk6.out (by have := Hpl.out; omega), ?_, fun x hx => ?_, ?_, Hlo.out⟩
    · have h1 := row_keep (own_rebase HL7.out hlo5.out) hk6.out fun b hb e => by
        obtain ⟨c, hc⟩ := own_ty HL7.out hb
        exact Hb67.out.ty_ne hc (by decide) e.symm
      rw [HNC.out] at h1
      simpa using h1
    · rcases List.mem_append.1 hx with hx | hx
      · exact NumsAt.keep (HN7.out x hx) hk6.out hwr
      · obtain rfl := List.mem_singleton.1 hx
        exact NumsAt.keep HV7.out hk6.out hwr
    · simp [Snd.sent, Heq.out]
  · refine Keep.tr HkB.out hk6.out fun b hb => .inl ?_
    have := HN.out
    omega
end Go.Proofs.YtkabgmohgjljkaaDoor


/- The reference's links: a tick. -/
namespace Go.Proofs.YtkabgmohgjljkaaDoor
set_option linter.unusedSimpArgs false
set_option linter.unusedVariables false
open Go Go.RowKit

def outK (s : Snd) (ks : List (FV × Int)) (i : Nat) : List FV := ((ks.take i).filter (lateK s)).map (·.1)
def newK (s : Snd) (ks : List (FV × Int)) (i : Nat) : List (FV × Int) := (ks.take i).map (stampK s)
theorem outK_snoc (s : Snd) (ks : List (FV × Int)) (i : Nat) (x : FV × Int) (hx : ks[i]? = some x) : outK s ks (i + 1) = outK s ks i ++ if lateK s x = true then [x.1] else [] := by
  unfold outK
  rw [List.take_add_one, hx, List.filter_append, List.map_append]
  simp only [Option.toList, List.filter_cons, List.filter_nil]
  split <;> rfl
theorem newK_snoc (s : Snd) (ks : List (FV × Int)) (i : Nat) (x : FV × Int) (hx : ks[i]? = some x) : newK s ks (i + 1) = newK s ks i ++ [stampK s x] := by
  unfold newK
  rw [List.take_add_one, hx, List.map_append]
  rfl
theorem outK_len (s : Snd) (ks : List (FV × Int)) (i : Nat) : (outK s ks i).length ≤ ks.length := by
  unfold outK
  rw [List.length_map]
  exact Nat.le_trans (List.length_filter_le _ _) (by rw [List.length_take]; omega)
theorem newK_len (s : Snd) (ks : List (FV × Int)) (i : Nat) : (newK s ks i).length ≤ ks.length := by
  unfold newK
  rw [List.length_map, List.length_take]
  omega

set_option maxRecDepth 100000 in
set_option maxHeartbeats 3200000 in
theorem reftick_any (s : Snd) (m : Nat) (ok : s.Ok m) (hm : m ≤ 1000000) (h2 : ∀ k ∈ s.l, s.now - k.2 ≤ 2) (w : World) (n0 p : Nat) (lv : Value) (ks : List (FV × Int)) (h : RSnd w n0 p s lv ks) (hn0 : n0 ≤ w.heap.size) :
    Calls Tryd.prog 19 #[.pointer (some ⟨p, 0, none⟩)] w fun e w' => ∃ ov outs lv' ks', e = .returned ov ∧ RSnd w' n0 p s.tick lv' ks' ∧ FRow w' n0 none w.heap.size 45 ov outs ∧ outs.map FV.f = s.again ∧ Keep (fun b => b = p) w w' := by
  have hnow := ok.now
  have hlen := ok.len
  have hat : ∀ x ∈ ks, 0 ≤ x.2 ∧ x.2 ≤ s.now ∧ s.now - x.2 ≤ 2 := fun x hx => by
    have hm : (x.1.f, x.2) ∈ s.l := by rw [h.eq]; exact List.mem_map.2 ⟨x, hx, rfl⟩
    have h3 := ok.at_ _ hm
    exact ⟨h3.1, h3.2, h2 _ hm⟩
  have hkl : ks.length ≤ 200 := by have := h.len; omega
  have c3 := h.hp.av 3 rfl
  have f0 := h.hp.free
  simp only [List.getElem_toArray, List.getElem_cons_zero, List.getElem_cons_succ] at c3
  obtain ⟨al, cl, hlv⟩ := row_form h.hl
  have hk1 : Keep (fun b => b = p) w (w.setCell ⟨p, 3, none⟩ (.int .i64 (s.now + 1))) := Keep.set (X := fun b => b = p) (Keep.refl _ _) rfl _
  have hp1 := h.hp.set 3 (.int .i64 (s.now + 1))
  simp only [List.setIfInBounds_toArray, List.set_cons_zero, List.set_cons_succ] at hp1
  have hwr : Wr w n0 none fun b => b = p := Wr.blk h.hp (by decide) h.lo
  have hpn : ∀ b, lv.ownBlock = some b → b ≠ p := fun b hb e => by
    obtain ⟨c, hc⟩ := own_ty h.hl hb
    exact h.hp.ty_ne hc (by decide) e.symm
  have hl1 := row_keep h.hl hk1 hpn
  have hn1 : ∀ x ∈ ks, x.1.At (w.setCell ⟨p, 3, none⟩ (.int .i64 (s.now + 1))) n0 none := fun x hx => NumsAt.keep (h.hn x hx) hk1 hwr
  have hsz : (w.setCell ⟨p, 3, none⟩ (.int .i64 (s.now + 1))).heap.size = w.heap.size := by simp [World.setCell]
  have Hk1 := hid hk1
  have Hp1 := hid hp1
  have Hl1 := hid hl1
  have Hn1 := hid hn1
  have HsW := hid hsz
  have Heq := hid h.eq
  have Hlo := hid h.lo
  have Hn0 := hid hn0
  have Hat := hid hat
  have Hlv := hid hlv
  clear hk1 hp1 hwr hpn hl1 hn1 hsz h hn0 hat ok hlv h2
  go_enter Tryd.func19, Tryd.ntmps19
  go_wp2
  generalize w.setCell ⟨p, 3, none⟩ (.int .i64 (s.now + 1)) = W1 at *
  clear c3 f0
  go_loopw [3, 4, 5] (fun t3 t4 t5 wr => ∃ (i : Nat) (outs : List FV) (nks : List (FV × Int)), t5 = .int .i64 (i : Int) ∧ i ≤ ks.length ∧ outs = outK s ks i ∧ nks = newK s ks i ∧ wr.ownsRow w.heap.size 45 5 t3 outs.length (outs.flatMap FV.cells) ∧ wr.ownsRow w.heap.size 100 6 t4 nks.length (nks.flatMap kcells) ∧ Ext W1 wr) (fun _ _ t5 _ => ks.length - (intOf t5).toNat)
  case atStart => exact ⟨0, [], [], rfl, Nat.zero_le _, rfl, rfl, World.ownsRow_nil _ _ _ _, World.ownsRow_nil _ _ _ _, Ext.refl _⟩
  case round =>
    obtain ⟨i, outs, nks, rfl, hi, hO, hK, hr5, hr6, hx⟩ := hrel
    have hol : outs.length ≤ 1000000 := by rw [hO]; have := outK_len s ks i; omega
    have hkl2 : nks.length ≤ 1000000 := by rw [hK]; have := newK_len s ks i; omega
    have HO := hid hO
    have HK := hid hK
    have Hol := hid hol
    have Hkl := hid hkl2
    obtain ⟨ao, co, rfl⟩ := row_form hr5
    obtain ⟨ak, ck, rfl⟩ := row_form hr6
    have hpB := Hp1.out.ext hx
    have q4 := hpB.av 4 rfl
    simp only [List.getElem_toArray, List.getElem_cons_zero, List.getElem_cons_succ] at q4
    rw [Hlv.out] at q4
    clear hO hK hol hkl2
    by_cases hlt : i < ks.length
    · have hxk : ks[i]? = some (ks[i]'hlt) := List.getElem?_eq_getElem hlt
      obtain ⟨x, hxd⟩ : ∃ x, x = ks[i]'hlt := ⟨_, rfl⟩
      rw [← hxd] at hxk
      have hm := List.mem_of_getElem? hxk
      have hlr := row_keep Hl1.out (hx.keep fun _ => False) (fun _ _ h => h)
      obtain ⟨gb, cp, he⟩ := own_some hlr (by omega)
      have he2 := Hlv.out.symm.trans he
      simp only [Value.slice.injEq, true_and] at he2
      obtain ⟨rfl, rfl⟩ := he2
      rw [he] at hlr
      obtain ⟨c0, c1, c2, c3, c4, c5⟩ := own_k hlr hxk
      obtain ⟨av, cv, _, hv, _⟩ := (Hn1.out x hm).form
      rw [hv] at c4
      have hxa := Hat.out x hm
      have hB2 := Blk.new wr #[.int .u8 (x.1.f.kind.toNat : Int), .int .i64 x.1.f.fr, .int .i64 x.1.f.to, .int .i64 x.1.f.seq, .slice av x.1.f.nums.length cv, .int .i64 x.2] 100
      have hx2 := (Ext.refl wr).alloc (.cells #[.int .u8 (x.1.f.kind.toNat : Int), .int .i64 x.1.f.fr, .int .i64 x.1.f.to, .int .i64 x.1.f.seq, .slice av x.1.f.nums.length cv, .int .i64 x.2] 100)
      have Hv := hid hv
      have Hxk := hid hxk
      have HpB := hid hpB
      have Hr5 := hid hr5
      have Hr6 := hid hr6
      have Hx := hid hx
      clear hlr hxd hxk hm he hv hr5 hr6 hx hpB
      go_wp2
      have HB2 := hid hB2
      have Hx2 := hid hx2
      generalize wr.alloc (.cells #[.int .u8 (x.1.f.kind.toNat : Int), .int .i64 x.1.f.fr, .int .i64 x.1.f.to, .int .i64 x.1.f.seq, .slice av x.1.f.nums.length cv, .int .i64 x.2] 100) = W2 at *
      generalize hBN : wr.heap.size = BN at *
      have HBN := hid hBN
      clear c0 c1 c2 c3 c4 c5 hB2 hx2 hBN q4
      have g3 := (HpB.out.ext Hx2.out).kc (X := fun _ => False) (fun e => e) 3 rfl
      have g5 := HB2.out.kc (X := fun _ => False) (fun e => e) 5 rfl
      simp only [List.getElem_toArray, List.getElem_cons_zero, List.getElem_cons_succ] at g3 g5
      cases hl : lateK s x with
      | false =>
        have hne : ¬ 3 ≤ s.now + 1 - x.2 := fun e => by
          unfold lateK Snd.late at hl
          exact of_decide_eq_false hl (by omega)
        have Hl := hid hl
        clear hl
        refine wp_flowT (fun _ => False) (by kernel_rfl) (by kernel_rfl) ?_
        repeat (apply FlowT.d; (intro w1 hk; unfold does; go_simp; (try go_ints); (first | exact DetR.mk | (simp only [↓IntWalk.iteOmega, Oper.doesUpon_value]; exact DetR.mk) | (simp only [↓IntWalk.iteOmega]; go_simp; (try go_ints); exact DetR.mk))); simp only [Act.put, List.setIfInBounds_toArray, List.set_cons_zero, List.set_cons_succ])
        refine FlowT.fin fun w3 hx3 hk3 => ?_
        have hB3 := HB2.out.ext hx3
        have hx3' := Hx2.out.trans hx3
        have d0 := hB3.av 0 rfl
        have d1 := hB3.av 1 rfl
        have d2 := hB3.av 2 rfl
        have d3 := hB3.av 3 rfl
        have d4 := hB3.av 4 rfl
        have d5 := hB3.av 5 rfl
        have hxr : Ext wr (w3.alloc (.cells #[.int .u8 (x.1.f.kind.toNat : Int), .int .i64 x.1.f.fr, .int .i64 x.1.f.to, .int .i64 x.1.f.seq, .slice av x.1.f.nums.length cv, .int .i64 x.2] 100)) := hx3'.alloc _
        have Hr7 := hid (row_keep Hr6.out (hxr.keep fun _ => False) (fun _ _ h => h))
        have Hbs : Hid (w.heap.size ≤ (w3.alloc (.cells #[.int .u8 (x.1.f.kind.toNat : Int), .int .i64 x.1.f.fr, .int .i64 x.1.f.to, .int .i64 x.1.f.seq, .slice av x.1.f.nums.length cv, .int .i64 x.2] 100)).heap.size) := hid (by have h1 := hxr.size; have h2 := HsW.out; have h3 := Hx.out.size; omega)
        have Hxr := hid hxr
        clear hne g3 g5 hx3 hk3 hB3 hx3' hxr
        go_wp2_with (at_builtin; refine wpList_append_el w.heap.size Hbs.out 36 100 (.agg #[.int .u8 0, .int .i64 0, .int .i64 0, .int .i64 0, .slice none 0 0, .int .i64 0]) 6 64 Tryd.underlying36 rkept_info rfl (by omega) (by omega) rfl _ _ rfl (.slice ak nks.length ck) nks.length (nks.flatMap kcells) rfl Hr7.out w3.heap.size (kcells (⟨x.1.f, .slice av x.1.f.nums.length cv⟩, x.2)) rfl (by simp [kcells, FV.cells, Value.oneCell']) rfl (Blk.new _ _ _) Hkl.out ?_; intro v6 w6 ho6 hk6 hl6; obtain ⟨a6, c6, rfl⟩ := row_form ho6)
        go_roundw
        case rel =>
          refine ⟨i + 1, outs, nks ++ [x], by go_num, by omega, ?_, ?_, ?_, ?_, ?_⟩
          · rw [outK_snoc s ks i x Hxk.out, Hl.out, HO.out]; simp
          · rw [newK_snoc s ks i x Hxk.out, HK.out]
            unfold stampK
            rw [if_neg (by have := Hl.out; unfold lateK at this; simp [this])]
          · refine row_keep (row_keep Hr5.out (Hxr.out.keep fun _ => False) (fun _ _ h => h)) hk6 fun b hb e => ?_
            obtain ⟨c, hc⟩ := own_ty Hr7.out e
            obtain ⟨c', hc'⟩ := own_ty (row_keep Hr5.out (Hxr.out.keep fun _ => False) (fun _ _ h => h)) hb
            exact hc.ty_ne hc' (by decide) rfl
          · have hxe : (⟨x.1.f, .slice av x.1.f.nums.length cv⟩, x.2) = x := by rw [← Hv.out]
            rw [hxe] at ho6
            simpa using ho6
          · exact Keep.new (Hx.out.trans Hxr.out) hk6 fun b hb => by have := (World.ownsRow.lt Hr7.out b hb).1; have := HsW.out; omega
        case measure => simp [intOf]; omega
      | true =>
        have hne : 3 ≤ s.now + 1 - x.2 := by
          unfold lateK Snd.late at hl
          have := of_decide_eq_true hl
          omega
        have Hl := hid hl
        clear hl
        refine wp_flowT (fun _ => False) (by kernel_rfl) (by kernel_rfl) ?_
        repeat (apply FlowT.d; (intro w1 hk; unfold does; go_simp; (try go_ints); (first | exact DetR.mk | (simp only [↓IntWalk.iteOmega, Oper.doesUpon_value]; exact DetR.mk) | (simp only [↓IntWalk.iteOmega]; go_simp; (try go_ints); exact DetR.mk))); simp only [Act.put, List.setIfInBounds_toArray, List.set_cons_zero, List.set_cons_succ])
        refine FlowT.fin fun w3 hx3 hk3 => ?_
        have hx3' := Hx2.out.trans hx3
        have hp3 := HpB.out.ext hx3'
        have hB3 := HB2.out.ext hx3
        have r3 := hp3.av 3 rfl
        simp only [List.getElem_toArray, List.getElem_cons_zero, List.getElem_cons_succ] at r3
        have f3 := hB3.free
        have z0 := hB3.av 0 rfl
        have z1 := hB3.av 1 rfl
        have z2 := hB3.av 2 rfl
        have z3 := hB3.av 3 rfl
        have z4 := hB3.av 4 rfl
        have z5 := hB3.av 5 rfl
        have hB4 := hB3.set 5 (.int .i64 (s.now + 1))
        simp only [List.setIfInBounds_toArray, List.set_cons_zero, List.set_cons_succ] at hB4
        have hx4 : Ext wr (w3.setCell ⟨BN, 5, none⟩ (.int .i64 (s.now + 1))) := Keep.new hx3' (Keep.set (X := fun b => b = BN) (Keep.refl _ _) rfl _) fun b hb => by have := HBN.out; omega
        obtain ⟨W5, hW5⟩ : ∃ W5, W5 = (w3.setCell ⟨BN, 5, none⟩ (.int .i64 (s.now + 1))).alloc (.cells #[.int .u8 (x.1.f.kind.toNat : Int), .int .i64 x.1.f.fr, .int .i64 x.1.f.to, .int .i64 x.1.f.seq, .slice av x.1.f.nums.length cv] 45) := ⟨_, rfl⟩
        have hx5 : Ext wr W5 := by rw [hW5]; exact hx4.alloc _
        have hB5 : Blk W5 BN #[.int .u8 (x.1.f.kind.toNat : Int), .int .i64 x.1.f.fr, .int .i64 x.1.f.to, .int .i64 x.1.f.seq, .slice av x.1.f.nums.length cv, .int .i64 (s.now + 1)] 100 := by rw [hW5]; exact hB4.ext ((Ext.refl _).alloc _)
        have hN5 : Blk W5 w3.heap.size #[.int .u8 (x.1.f.kind.toNat : Int), .int .i64 x.1.f.fr, .int .i64 x.1.f.to, .int .i64 x.1.f.seq, .slice av x.1.f.nums.length cv] 45 := by
          rw [hW5]
          have := Blk.new (w3.setCell ⟨BN, 5, none⟩ (.int .i64 (s.now + 1))) #[.int .u8 (x.1.f.kind.toNat : Int), .int .i64 x.1.f.fr, .int .i64 x.1.f.to, .int .i64 x.1.f.seq, .slice av x.1.f.nums.length cv] 45
          rwa [show (w3.setCell ⟨BN, 5, none⟩ (.int .i64 (s.now + 1))).heap.size = w3.heap.size by simp [World.setCell]] at this
        have hs5 : w.heap.size ≤ W5.heap.size := by have h1 := hx5.size; have h2 := HsW.out; have h3 := Hx.out.size; omega
        have HW5 := hid hW5
        have Hx5 := hid hx5
        have HB5 := hid hB5
        have HN5 := hid hN5
        have Hs5 := hid hs5
        have Hq5 := hid (row_keep Hr5.out (hx5.keep fun _ => False) (fun _ _ h => h))
        have Hq6 := hid (row_keep Hr6.out (hx5.keep fun _ => False) (fun _ _ h => h))
        clear hne g3 g5 hx3 hk3 hx3' hp3 hB3 hW5 hB4 hx4 hx5 hB5 hN5 hs5 Hr5 Hr6
        go_wp2_with (first
         | (at_builtin
            rw [← HW5.out]
            refine wpList_append_el w.heap.size Hs5.out 40 45 (.agg #[.int .u8 0, .int .i64 0, .int .i64 0, .int .i64 0, .slice none 0 0]) 5 56 Tryd.underlying40 rframe_info rfl (by omega) (by omega) rfl _ _ rfl (.slice ao outs.length co) outs.length (outs.flatMap FV.cells) rfl Hq5.out w3.heap.size (FV.cells ⟨x.1.f, .slice av x.1.f.nums.length cv⟩) rfl (by simp [FV.cells, Value.oneCell']) rfl HN5.out Hol.out ?_
            intro v6 w6 ho6 hk6 hl6
            obtain ⟨a6, c6, rfl⟩ := row_form ho6
            have hB6 := HB5.out.keep hk6 fun e => by
              obtain ⟨c, hc⟩ := own_ty Hq5.out e
              exact hc.ty_ne HB5.out (by decide) rfl
            have hq6 := row_keep Hq6.out hk6 fun b hb e => by
              obtain ⟨c, hc⟩ := own_ty Hq5.out e
              obtain ⟨c', hc'⟩ := own_ty Hq6.out hb
              exact hc.ty_ne hc' (by decide) rfl
            have hx6 := Keep.new (Hx.out.trans Hx5.out) hk6 fun b hb => by have := (World.ownsRow.lt Hq5.out b hb).1; have := HsW.out; omega
            have e0 := hB6.av 0 rfl
            have e1 := hB6.av 1 rfl
            have e2 := hB6.av 2 rfl
            have e3 := hB6.av 3 rfl
            have e4 := hB6.av 4 rfl
            have e5 := hB6.av 5 rfl
            have hxr : Ext w6 (w6.alloc (.cells #[.int .u8 (x.1.f.kind.toNat : Int), .int .i64 x.1.f.fr, .int .i64 x.1.f.to, .int .i64 x.1.f.seq, .slice av x.1.f.nums.length cv, .int .i64 (s.now + 1)] 100)) := (Ext.refl _).alloc _
            have Hr7 := hid (row_keep hq6 (hxr.keep fun _ => False) (fun _ _ h => h))
            have Hr8 := hid (row_keep ho6 (hxr.keep fun _ => False) (fun _ _ h => h))
            have Hbs : Hid (w.heap.size ≤ (w6.alloc (.cells #[.int .u8 (x.1.f.kind.toNat : Int), .int .i64 x.1.f.fr, .int .i64 x.1.f.to, .int .i64 x.1.f.seq, .slice av x.1.f.nums.length cv, .int .i64 (s.now + 1)] 100)).heap.size) := hid (by have h1 := hxr.size; have h2 := HsW.out; have h3 := hx6.size; omega)
            have Hx7 := hid (hx6.trans hxr)
            clear z0 z1 z2 z3 z4 r3 f3 z5 hB6 hq6 hx6 hxr ho6 hk6 hl6 HB5 HN5 HW5)
         | (at_builtin; refine wpList_append_el w.heap.size Hbs.out 36 100 (.agg #[.int .u8 0, .int .i64 0, .int .i64 0, .int .i64 0, .slice none 0 0, .int .i64 0]) 6 64 Tryd.underlying36 rkept_info rfl (by omega) (by omega) rfl _ _ rfl (.slice ak nks.length ck) nks.length (nks.flatMap kcells) rfl Hr7.out w6.heap.size (kcells (⟨x.1.f, .slice av x.1.f.nums.length cv⟩, s.now + 1)) rfl (by simp [kcells, FV.cells, Value.oneCell']) rfl (Blk.new _ _ _) Hkl.out ?_; intro v8 w8 ho8 hk8 hl8; obtain ⟨a8, c8, rfl⟩ := row_form ho8))
        go_roundw
        case rel =>
          have hxe : (⟨x.1.f, .slice av x.1.f.nums.length cv⟩ : FV) = x.1 := by rw [← Hv.out]
          refine ⟨i + 1, outs ++ [x.1], nks ++ [(x.1, s.now + 1)], by go_num, by omega, ?_, ?_, ?_, ?_, ?_⟩
          · rw [outK_snoc s ks i x Hxk.out, Hl.out, HO.out]; simp
          · rw [newK_snoc s ks i x Hxk.out, HK.out]
            unfold stampK
            rw [if_pos (by have := Hl.out; unfold lateK at this; exact this)]
          · have h9 := row_keep Hr8.out hk8 fun b hb e => by
              obtain ⟨c, hc⟩ := own_ty Hr7.out e
              obtain ⟨c', hc'⟩ := own_ty Hr8.out hb
              exact hc.ty_ne hc' (by decide) rfl
            rw [hxe] at h9
            simpa using h9
          · rw [hxe] at ho8
            simpa using ho8
          · exact Keep.new Hx7.out hk8 fun b hb => by have := (World.ownsRow.lt Hr7.out b hb).1; have := HsW.out; omega
        case measure => simp [intOf]; omega
    · obtain rfl : i = ks.length := by omega
      have f4 := hpB.free 4
      have hP := hpB.set 4 (.slice ak nks.length ck)
      simp only [List.setIfInBounds_toArray, List.set_cons_zero, List.set_cons_succ] at hP
      have hne : ∀ b, (Value.slice ak nks.length ck).ownBlock = some b → b ≠ p := fun b hb e => by
        obtain ⟨c, hc⟩ := own_ty hr6 hb
        exact hpB.ty_ne hc (by decide) e.symm
      have hne5 : ∀ b, (Value.slice ao outs.length co).ownBlock = some b → b ≠ p := fun b hb e => by
        obtain ⟨c, hc⟩ := own_ty hr5 hb
        exact hpB.ty_ne hc (by decide) e.symm
      have hks : Keep (fun b => b = p) wr (wr.setCell ⟨p, 4, none⟩ (.slice ak nks.length ck)) := Keep.set (X := fun b => b = p) (Keep.refl _ _) rfl _
      have hwr : Wr wr n0 none fun b => b = p := Wr.blk hpB (by decide) Hlo.out
      have hAt : ∀ x ∈ ks, x.1.At (wr.setCell ⟨p, 4, none⟩ (.slice ak nks.length ck)) n0 none := fun x hx' => NumsAt.keep (NumsAt.ext (Hn1.out x hx') hx) hks hwr
      have hK2 : nks = ks.map (stampK s) := by rw [HK.out]; unfold newK; rw [List.take_length]
      have hO2 : outs = (ks.filter (lateK s)).map (·.1) := by rw [HO.out]; unfold outK; rw [List.take_length]
      have HR : Hid (RSnd (wr.setCell ⟨p, 4, none⟩ (.slice ak nks.length ck)) n0 p s.tick (.slice ak nks.length ck) nks) := hid ⟨hP, own_base (row_keep hr6 hks hne) Hn0.out, fun y hy => by
        rw [hK2] at hy
        obtain ⟨x, hx', rfl⟩ := List.mem_map.1 hy
        have : (stampK s x).1 = x.1 := by unfold stampK; split <;> rfl
        rw [this]
        exact hAt x hx', by rw [hK2]; exact Snd.tick_eq Heq.out, Hlo.out⟩
      have HF : Hid (FRow (wr.setCell ⟨p, 4, none⟩ (.slice ak nks.length ck)) n0 none w.heap.size 45 (.slice ao outs.length co) outs) := hid ⟨row_keep hr5 hks hne5, fun y hy => by
        rw [hO2] at hy
        obtain ⟨x, hx', rfl⟩ := List.mem_map.1 hy
        exact hAt x (List.mem_filter.1 hx').1⟩
      have HE : Hid (outs.map FV.f = s.again) := hid (by rw [hO2, Snd.again_eq Heq.out, List.map_map]; rfl)
      have HKk := hid ((Hk1.out.trans (hx.keep fun b => b = p)).trans hks)
      clear hr5 hr6 hP hne hne5 hks hwr hAt hK2 hO2 hx hpB
      go_wp2
      go_ret
      exact ⟨_, outs, _, _, rfl, HR.out, HF.out, HE.out, HKk.out⟩
end Go.Proofs.YtkabgmohgjljkaaDoor


/- The reference's links: frames as a model has them. -/
namespace Go.Proofs.YtkabgmohgjljkaaDoor
set_option linter.unusedSimpArgs false
set_option linter.unusedVariables false
open Go Go.RowKit

set_option maxRecDepth 100000 in
theorem offr_any (f : Fr) (a : Option Addr) (cap : Nat) (w : World) : Calls Tryd.prog 15 #[frv f a cap] w fun e w' => e = .returned (frv f a cap) ∧ Ext w w' := by
  obtain ⟨kind, fr, to, seq, nums⟩ := f
  unfold frv
  simp only
  go_enter Tryd.func15, Tryd.ntmps15
  go_wp2
  exact bodyPost_ret (v := .agg #[.int .u8 (kind.toNat : Int), .int .i64 fr, .int .i64 to, .int .i64 seq, .slice a nums.length cap]) (by simp [results, Tryd.results15, go_sem]) rfl ⟨rfl, ((Ext.refl w).alloc _).alloc _⟩

set_option maxRecDepth 100000 in
set_option maxHeartbeats 1600000 in
theorem framesof_any (w : World) (n0 : Nat) (t : Option Nat) (base : Nat) (v : Value) (fs : List FV) (h : FRow w n0 t base 48 v fs) (hb : fs.length ≤ 1000000) :
    Calls Tryd.prog 17 #[v] w fun e w' => ∃ v', e = .returned v' ∧ FRow w' n0 t w.heap.size 45 v' fs ∧ Ext w w' := by
  obtain ⟨a4, cc, hv⟩ := h.form
  have H := hid h
  have Hv := hid hv
  rw [hv]
  clear h hv
  go_enter Tryd.func17, Tryd.ntmps17
  go_wp2
  go_loopw [3, 4] (fun t3 t4 wr => ∃ (i : Nat) (out : List FV), t4 = .int .i64 (i : Int) ∧ i ≤ fs.length ∧ out = fs.take i ∧ wr.ownsRow w.heap.size 45 5 t3 out.length (out.flatMap FV.cells) ∧ Ext w wr) (fun _ t4 _ => fs.length - (intOf t4).toNat)
  case atStart => exact ⟨0, [], rfl, Nat.zero_le _, rfl, World.ownsRow_nil _ _ _ _, Ext.refl _⟩
  case round =>
    obtain ⟨i, out, rfl, hi, hO, hrow, hx⟩ := hrel
    have hol : out.length ≤ 1000000 := by rw [hO, List.length_take]; omega
    have Hol := hid hol
    have HO := hid hO
    clear hO hol
    obtain ⟨ao, co, rfl⟩ := row_form hrow
    by_cases hlt : i < fs.length
    · have hxk : fs[i]? = some (fs[i]'hlt) := List.getElem?_eq_getElem hlt
      obtain ⟨x, hxd⟩ : ∃ x, x = fs[i]'hlt := ⟨_, rfl⟩
      rw [← hxd] at hxk
      have hm := List.mem_of_getElem? hxk
      have hlr := row_keep H.out.row (hx.keep fun _ => False) (fun _ _ h => h)
      obtain ⟨gb, cp, he⟩ := own_some hlr (by omega)
      have he2 := Hv.out.symm.trans he
      simp only [Value.slice.injEq, true_and] at he2
      obtain ⟨rfl, rfl⟩ := he2
      rw [he] at hlr
      obtain ⟨c0, c1, c2, c3, c4⟩ := own_f hlr hxk
      obtain ⟨av, cv, _, hxv, _⟩ := FV.At.form (H.out.nums x hm)
      rw [hxv] at c4
      have HC := hid (offr_any x.f av cv wr)
      unfold frv at HC
      have Hxv := hid hxv
      have Hxk := hid hxk
      have Hrow := hid hrow
      have Hx := hid hx
      clear hlr hxd hxk hm he hxv hrow hx
      go_wp2_with fail
      refine HC.out.mono ?_
      intro e w1 hx1
      obtain ⟨rfl, hx1⟩ := hx1
      obtain ⟨W2, hW2⟩ : ∃ W2, W2 = (w1.alloc (.cells #[.int .u8 (x.f.kind.toNat : Int), .int .i64 x.f.fr, .int .i64 x.f.to, .int .i64 x.f.seq, .slice av x.f.nums.length cv] 45)).alloc (.cells #[.int .u8 (x.f.kind.toNat : Int), .int .i64 x.f.fr, .int .i64 x.f.to, .int .i64 x.f.seq, .slice av x.f.nums.length cv] 45) := ⟨_, rfl⟩
      have hx2 : Ext w1 W2 := by rw [hW2]; exact ((Ext.refl _).alloc _).alloc _
      have hB2 : Blk W2 (w1.heap.size + 1) #[.int .u8 (x.f.kind.toNat : Int), .int .i64 x.f.fr, .int .i64 x.f.to, .int .i64 x.f.seq, .slice av x.f.nums.length cv] 45 := by
        rw [hW2]
        have := Blk.new (w1.alloc (.cells #[.int .u8 (x.f.kind.toNat : Int), .int .i64 x.f.fr, .int .i64 x.f.to, .int .i64 x.f.seq, .slice av x.f.nums.length cv] 45)) #[.int .u8 (x.f.kind.toNat : Int), .int .i64 x.f.fr, .int .i64 x.f.to, .int .i64 x.f.seq, .slice av x.f.nums.length cv] 45
        rwa [heap_size_alloc] at this
      have hxw := Hx.out.trans (hx1.trans hx2)
      have Hq := hid (row_keep Hrow.out ((hx1.trans hx2).keep fun _ => False) (fun _ _ h => h))
      have Hbs : Hid (w.heap.size ≤ W2.heap.size) := hid hxw.size
      have HW2 := hid hW2
      have HB2 := hid hB2
      have Hxw := hid hxw
      clear hW2 hB2 hxw hx1 hx2 HC c0 c1 c2 c3 c4
      go_wp2_with (at_builtin; rw [← HW2.out]; refine wpList_append_el w.heap.size Hbs.out 40 45 (.agg #[.int .u8 0, .int .i64 0, .int .i64 0, .int .i64 0, .slice none 0 0]) 5 56 Tryd.underlying40 rframe_info rfl (by omega) (by omega) rfl _ _ rfl (.slice ao out.length co) out.length (out.flatMap FV.cells) rfl Hq.out (w1.heap.size + 1) (FV.cells ⟨x.f, .slice av x.f.nums.length cv⟩) rfl (by simp [FV.cells, Value.oneCell']) rfl HB2.out Hol.out ?_; intro v6 w6 ho6 hk6 hl6; obtain ⟨a6, c6, rfl⟩ := row_form ho6)
      go_roundw
      case rel =>
        have hxe : (⟨x.f, .slice av x.f.nums.length cv⟩ : FV) = x := by rw [← Hxv.out]
        refine ⟨i + 1, out ++ [x], by go_num, by omega, ?_, ?_, ?_⟩
        · rw [List.take_add_one, Hxk.out, HO.out]; rfl
        · rw [hxe] at ho6
          simpa using ho6
        · exact Keep.new Hxw.out hk6 fun b hb => (World.ownsRow.lt Hq.out b hb).1
      case measure => simp [intOf]; omega
    · obtain rfl : i = fs.length := by omega
      have HO2 := hid (show out = fs by rw [HO.out, List.take_length])
      have HF : Hid (FRow wr n0 t w.heap.size 45 (.slice ao out.length co) fs) := hid ⟨by rw [HO2.out] at hrow ⊢; exact hrow, fun x hm => NumsAt.ext (H.out.nums x hm) hx⟩
      have Hx := hid hx
      clear hrow hx
      go_wp2
      go_ret
      exact ⟨_, rfl, HF.out, Hx.out⟩
end Go.Proofs.YtkabgmohgjljkaaDoor


/- The reference's text of a frame is walked. -/
namespace Go.Proofs.YtkabgmohgjljkaaDoor
set_option linter.unusedSimpArgs false
set_option linter.unusedVariables false
open Go Go.RowKit

theorem refhigh_arg {k : Nat} {x : Int} (hx : (k : Int) = x) (hk : k ≤ 4294967295) (w : World) : Calls Tryd.prog 38 #[.int .i64 x] w fun e w' => e = .returned (.string ⟨(high4 k).toArray⟩) ∧ Ext w w' := by
  subst hx; exact refhigh_any k hk w

set_option maxRecDepth 100000 in
set_option maxHeartbeats 3200000 in
theorem reftext_any (f : Fr) (a : Option Addr) (cap : Nat) (w : World) (hr : Ints w a f.nums.length f.nums) (hc : f.code = 0) :
    Calls Tryd.prog 14 #[frv f a cap] w fun e w' => e = .returned (.string ⟨f.text.toArray⟩) ∧ Ext w w' := by
  have Hr := hid hr
  obtain ⟨z1, ⟨z2, z3⟩, ⟨z4, z5⟩, ⟨z6, z7⟩, z8, z9, z10⟩ := Fr.code_zero hc
  obtain ⟨kind, fr, to, seq, nums⟩ := f
  simp only at *
  obtain ⟨fn, rfl⟩ := Int.eq_ofNat_of_zero_le z2
  obtain ⟨tn, rfl⟩ := Int.eq_ofNat_of_zero_le z4
  obtain ⟨sn, rfl⟩ := Int.eq_ofNat_of_zero_le z6
  have Hfar := hid z8
  have hkb := byte_lt kind
  have B1 := fun w => hid (byte_any kind.toNat w (by omega))
  have B2 := fun w => hid (byte_any fn w (by omega))
  have B3 := fun w => hid (byte_any tn w (by omega))
  have B4 := fun w => hid (refhigh_any sn (by omega) w)
  have B5 := fun w => hid (byte_any nums.length w (by omega))
  rw [ofNat_byte] at B1
  unfold frv
  simp only
  clear hr hc z1 z2 z4 z6 z8 z9
  obtain ⟨W, hW⟩ : ∃ W, W = w.alloc (Obj.cells #[Value.int .u8 (kind.toNat : Int), .int .i64 fn, .int .i64 tn, .int .i64 sn, .slice a nums.length cap] 45) := ⟨_, rfl⟩
  have xW : Ext w W := by rw [hW]; exact (Ext.refl w).alloc _
  have bW : Blk W w.heap.size #[Value.int .u8 (kind.toNat : Int), .int .i64 fn, .int .i64 tn, .int .i64 sn, .slice a nums.length cap] 45 := by rw [hW]; exact Blk.new _ _ _
  have HW := hid hW
  clear hW
  have d0 := bW.kc (X := fun _ => False) (fun e => e) 0 rfl
  have d1 := bW.kc (X := fun _ => False) (fun e => e) 1 rfl
  have d2 := bW.kc (X := fun _ => False) (fun e => e) 2 rfl
  have d3 := bW.kc (X := fun _ => False) (fun e => e) 3 rfl
  have d4 := bW.kc (X := fun _ => False) (fun e => e) 4 rfl
  go_enter Tryd.func14, Tryd.ntmps14
  go_wp2
  rw [← HW.out]
  refine wp_flowT (fun _ => False) (by kernel_rfl) (by kernel_rfl) ?_
  repeat (apply FlowT.d; (intro w1 hk; unfold does; go_simp; (try go_ints); (first | exact DetR.mk | (simp only [↓IntWalk.iteOmega, Oper.doesUpon_value]; exact DetR.mk) | (simp only [↓IntWalk.iteOmega]; go_simp; (try go_ints); exact DetR.mk))); simp only [Act.put, List.setIfInBounds_toArray, List.set_cons_zero, List.set_cons_succ])
  apply FlowT.d
  · intro w1 hk
    unfold does
    go_simp
    exact CallR.det ((B1 w1).out)
  simp only [Act.put, List.setIfInBounds_toArray, List.set_cons_zero, List.set_cons_succ]
  repeat (apply FlowT.d; (intro w1 hk; unfold does; go_simp; (try go_ints); (first | exact DetR.mk | (simp only [↓IntWalk.iteOmega, Oper.doesUpon_value]; exact DetR.mk) | (simp only [↓IntWalk.iteOmega]; go_simp; (try go_ints); exact DetR.mk))); simp only [Act.put, List.setIfInBounds_toArray, List.set_cons_zero, List.set_cons_succ])
  apply FlowT.d
  · intro w1 hk
    unfold does
    go_simp
    exact CallR.det ((B2 w1).out)
  simp only [Act.put, List.setIfInBounds_toArray, List.set_cons_zero, List.set_cons_succ]
  repeat (apply FlowT.d; (intro w1 hk; unfold does; go_simp; (try go_ints); (first | exact DetR.mk | (simp only [↓IntWalk.iteOmega, Oper.doesUpon_value]; exact DetR.mk) | (simp only [↓IntWalk.iteOmega]; go_simp; (try go_ints); exact DetR.mk))); simp only [Act.put, List.setIfInBounds_toArray, List.set_cons_zero, List.set_cons_succ])
  apply FlowT.d
  · intro w1 hk
    unfold does
    go_simp
    exact CallR.det ((B3 w1).out)
  simp only [Act.put, List.setIfInBounds_toArray, List.set_cons_zero, List.set_cons_succ]
  repeat (apply FlowT.d; (intro w1 hk; unfold does; go_simp; (try go_ints); (first | exact DetR.mk | (simp only [↓IntWalk.iteOmega, Oper.doesUpon_value]; exact DetR.mk) | (simp only [↓IntWalk.iteOmega]; go_simp; (try go_ints); exact DetR.mk))); simp only [Act.put, List.setIfInBounds_toArray, List.set_cons_zero, List.set_cons_succ])
  apply FlowT.d
  · intro w1 hk
    unfold does
    go_simp
    exact CallR.det ((B4 w1).out)
  simp only [Act.put, List.setIfInBounds_toArray, List.set_cons_zero, List.set_cons_succ]
  repeat (apply FlowT.d; (intro w1 hk; unfold does; go_simp; (try go_ints); (first | exact DetR.mk | (simp only [↓IntWalk.iteOmega, Oper.doesUpon_value]; exact DetR.mk) | (simp only [↓IntWalk.iteOmega]; go_simp; (try go_ints); exact DetR.mk))); simp only [Act.put, List.setIfInBounds_toArray, List.set_cons_zero, List.set_cons_succ])
  apply FlowT.d
  · intro w1 hk
    unfold does
    go_simp
    exact CallR.det ((B5 w1).out)
  simp only [Act.put, List.setIfInBounds_toArray, List.set_cons_zero, List.set_cons_succ]
  repeat (apply FlowT.d; (intro w1 hk; unfold does; go_simp; (try go_ints); (first | exact DetR.mk | (simp only [↓IntWalk.iteOmega, Oper.doesUpon_value]; exact DetR.mk) | (simp only [↓IntWalk.iteOmega]; go_simp; (try go_ints); exact DetR.mk))); simp only [Act.put, List.setIfInBounds_toArray, List.set_cons_zero, List.set_cons_succ])
  refine FlowT.fin fun w1 hx hk => ?_
  clear hk d0 d1 d2 d3 d4 B1 B2 B3 B4 B5
  obtain ⟨h8, hh8⟩ : ∃ h8, h8 = [kind, UInt8.ofNat fn, UInt8.ofNat tn] ++ high4 sn ++ [UInt8.ofNat nums.length] := ⟨_, rfl⟩
  have hl8 : h8.length = 8 := by rw [hh8]; rfl
  have hst : (⟨#[kind]⟩ ++ ⟨#[UInt8.ofNat fn]⟩ ++ ⟨#[UInt8.ofNat tn]⟩ ++ ⟨(high4 sn).toArray⟩ ++ ⟨#[UInt8.ofNat nums.length]⟩ : ByteArray) = ⟨h8.toArray⟩ := by
    rw [hh8]; exact ByteArray.ext (by simp)
  rw [hst]
  have Hh8 := hid hh8
  have Hl8 := hid hl8
  clear hh8 hl8 hst
  have d4 := bW.ec 4 rfl
  go_wp2
  go_loopw [3, 4] (fun t3 t4 wr => ∃ k : Nat, t4 = .int .i64 (k : Int) ∧ k ≤ nums.length ∧ t3 = .string ⟨(h8 ++ (nums.take k).flatMap fun n => high4 n.toNat).toArray⟩ ∧ Ext W wr) (fun _ t4 _ => nums.length - (intOf t4).toNat)
  case atStart => exact ⟨0, rfl, Nat.zero_le _, by simp, hx⟩
  case round =>
    clear hx
    obtain ⟨k, rfl, hk, rfl, hx⟩ := hrel
    by_cases hlt : k < nums.length
    · obtain ⟨x, rfl⟩ := Hr.out.sm (by omega)
      have hcx := (xW.trans hx).cellx (Hr.out.cl x rfl k hlt)
      have hnear := near_of Hfar.out (nums.getD k 0) (by
        rw [List.getD_eq_getElem?_getD, List.getElem?_eq_getElem hlt]; exact List.getElem_mem _)
      have hts := flat_take_succ nums k hlt
      obtain ⟨n, hn⟩ := Int.eq_ofNat_of_zero_le hnear.1
      have hn2 : n ≤ 2147483648 := by omega
      rw [hn] at hcx hts
      simp only [Int.toNat_natCast] at hts
      have Hts := hid hts
      have hfl : (h8 ++ (nums.take k).flatMap fun n => high4 n.toNat).length ≤ 1000 := by
        rw [List.length_append, Hl8.out, flat_len]
        have := List.length_take_le k nums
        omega
      obtain ⟨pre, hpre⟩ : ∃ pre, pre = h8 ++ (nums.take k).flatMap fun n => high4 n.toNat := ⟨_, rfl⟩
      rw [← hpre] at hfl ⊢
      have Hpre := hid hpre
      clear hn hts hpre hnear
      have HH := fun w => hid (refhigh_any n (by omega) w)
      have hsz : (high4 n).toArray.size = 4 := rfl
      have hps : pre.toArray.size ≤ 1000 := by simpa using hfl
      go_wp2_with fail
      refine (HH _).out.mono ?_
      rintro e w3 ⟨rfl, hx3⟩
      clear HH hcx
      have hx4 := hx.trans hx3
      go_wp2
      go_roundw
      case rel => exact ⟨k + 1, by go_num, by omega, by rw [Hts.out, ← List.append_assoc, ← Hpre.out, ByteArray.mk_append_mk], hx4⟩
      case measure => simp [intOf]; omega
    · obtain rfl : k = nums.length := by omega
      rw [List.take_of_length_le (Nat.le_refl _)]
      obtain ⟨body, hbody⟩ : ∃ body, body = h8 ++ nums.flatMap fun n => high4 n.toNat := ⟨_, rfl⟩
      rw [← hbody]
      have hbl : body.length ≤ 1000 := by
        rw [hbody, List.length_append, Hl8.out, flat_len]; omega
      have Hbody : Hid (body = Fr.body ⟨kind, fn, tn, sn, nums⟩) := hid (by
        rw [hbody, Hh8.out]; rfl)
      have hbsz : (⟨body.toArray⟩ : ByteArray).size ≤ 1000000 := by
        show body.toArray.size ≤ _
        simp; omega
      have HS := fun w => hid (refcrc_any ⟨body.toArray⟩ w hbsz)
      have hcl := crc_lt body
      have HL := fun w => hid (reflow_any (crc body) (by omega) w)
      have hl4 : (low4 (crc body)).toArray.size = 4 := rfl
      clear hbody hlt hk
      go_wp2_with fail
      refine (HS _).out.mono ?_
      rintro e w3 ⟨rfl, rfl⟩
      go_wp2_with fail
      refine (HL _).out.mono ?_
      rintro e w4 ⟨rfl, hx4⟩
      go_wp2
      go_ret
      refine ⟨?_, xW.trans (hx.trans hx4)⟩
      rw [Fr.text, ← Hbody.out, ← ByteArray.mk_append_mk]
      rfl
end Go.Proofs.YtkabgmohgjljkaaDoor


/- The reference's links: the same frames. -/
namespace Go.Proofs.YtkabgmohgjljkaaDoor
set_option linter.unusedSimpArgs false
set_option linter.unusedVariables false
open Go Go.RowKit

set_option maxRecDepth 100000 in
set_option maxHeartbeats 1600000 in
theorem samefr_any (w : World) (n0 : Nat) (t : Option Nat) (b1 b2 : Nat) (v1 v2 : Value) (fs gs : List FV) (h1 : FRow w n0 t b1 45 v1 fs) (h2 : FRow w n0 t b2 45 v2 gs) (he : fs.map FV.f = gs.map FV.f) (hc : ∀ x ∈ fs, x.f.code = 0) (hb : fs.length ≤ 1000000) :
    Calls Tryd.prog 16 #[v1, v2] w fun e w' => e = .returned (.bool true) ∧ Ext w w' := by
  have hl : gs.length = fs.length := by have := congrArg List.length he; simpa using this.symm
  obtain ⟨a1, c1, hv1⟩ := h1.form
  obtain ⟨a2, c2, hv2⟩ := h2.form
  rw [hl] at hv2
  have H1 := hid h1
  have H2 := hid h2
  have Hv1 := hid hv1
  have Hv2 := hid hv2
  have He := hid he
  have Hc := hid hc
  have Hl := hid hl
  rw [hv1, hv2]
  clear h1 h2 hv1 hv2 he hc hl
  go_enter Tryd.func16, Tryd.ntmps16
  go_wp2
  go_loopw [5] (fun t5 wr => ∃ i : Nat, t5 = .int .i64 (i : Int) ∧ i ≤ fs.length ∧ Ext w wr) (fun t5 _ => fs.length - (intOf t5).toNat)
  case atStart => exact ⟨0, rfl, Nat.zero_le _, Ext.refl _⟩
  case round =>
    obtain ⟨i, rfl, hi, hx⟩ := hrel
    by_cases hlt : i < fs.length
    · have hxk : fs[i]? = some (fs[i]'hlt) := List.getElem?_eq_getElem hlt
      obtain ⟨x, hxd⟩ : ∃ x, x = fs[i]'hlt := ⟨_, rfl⟩
      rw [← hxd] at hxk
      have hyk : gs[i]? = some (gs[i]'(by rw [Hl.out]; exact hlt)) := List.getElem?_eq_getElem _
      obtain ⟨y, hyd⟩ : ∃ y, y = gs[i]'(by rw [Hl.out]; exact hlt) := ⟨_, rfl⟩
      rw [← hyd] at hyk
      have hxy : x.f = y.f := by
        have h3 : (fs.map FV.f)[i]? = (gs.map FV.f)[i]? := by rw [He.out]
        rw [List.getElem?_map, List.getElem?_map, hxk, hyk] at h3
        simpa using h3
      have hmx := List.mem_of_getElem? hxk
      have hmy := List.mem_of_getElem? hyk
      have hlr := (H1.out.ext hx).row
      have hls := (H2.out.ext hx).row
      obtain ⟨g1, p1, e1⟩ := own_some hlr (by omega)
      have e1' := Hv1.out.symm.trans e1
      simp only [Value.slice.injEq, true_and] at e1'
      obtain ⟨rfl, rfl⟩ := e1'
      rw [e1] at hlr
      obtain ⟨g2, p2, e2⟩ := own_some hls (by rw [Hl.out]; omega)
      have e2' := Hv2.out.symm.trans e2
      simp only [Value.slice.injEq] at e2'
      obtain ⟨rfl, _, rfl⟩ := e2'
      rw [e2] at hls
      obtain ⟨u0, u1, u2, u3, u4⟩ := own_f hlr hxk
      obtain ⟨y0, y1, y2, y3, y4⟩ := own_f hls hyk
      obtain ⟨av, cv, _, hxv, hiv⟩ := FV.At.form (NumsAt.ext (H1.out.nums x hmx) hx)
      obtain ⟨bv, dv, _, hyv, hjv⟩ := FV.At.form (NumsAt.ext (H2.out.nums y hmy) hx)
      rw [hxv] at u4
      rw [hyv] at y4
      rw [← hxy] at y0 y1 y2 y3 y4 hjv
      have hcx := Hc.out x hmx
      have HT1 := fun w1 (k : Keep (fun _ => False) wr w1) => hid (reftext_any x.f av cv w1 (hiv.keep k fun _ _ _ e => e) hcx)
      have HT2 := fun w1 (k : Keep (fun _ => False) wr w1) => hid (reftext_any x.f bv dv w1 (hjv.keep k fun _ _ _ e => e) hcx)
      unfold frv at HT1 HT2
      have k0 := fun w1 (k : Keep (fun _ => False) wr w1) => k.cellx u0 fun e => e
      have k1 := fun w1 (k : Keep (fun _ => False) wr w1) => k.cellx u1 fun e => e
      have k2 := fun w1 (k : Keep (fun _ => False) wr w1) => k.cellx u2 fun e => e
      have k3 := fun w1 (k : Keep (fun _ => False) wr w1) => k.cellx u3 fun e => e
      have k4 := fun w1 (k : Keep (fun _ => False) wr w1) => k.cellx u4 fun e => e
      have m0 := fun w1 (k : Keep (fun _ => False) wr w1) => k.cellx y0 fun e => e
      have m1 := fun w1 (k : Keep (fun _ => False) wr w1) => k.cellx y1 fun e => e
      have m2 := fun w1 (k : Keep (fun _ => False) wr w1) => k.cellx y2 fun e => e
      have m3 := fun w1 (k : Keep (fun _ => False) wr w1) => k.cellx y3 fun e => e
      have m4 := fun w1 (k : Keep (fun _ => False) wr w1) => k.cellx y4 fun e => e
      clear u0 u1 u2 u3 u4 y0 y1 y2 y3 y4 hlr hls hxd hyd hxk hyk hxy hmx hmy e1 e2 hxv hyv hiv hjv hcx
      go_wp2
      refine wp_flowT (fun _ => False) (by kernel_rfl) (by kernel_rfl) ?_
      repeat (apply FlowT.d; (intro w1 hk; unfold does; go_simp; (try go_ints); (first | exact DetR.mk | (simp only [↓IntWalk.iteOmega, Oper.doesUpon_value]; exact DetR.mk) | (simp only [↓IntWalk.iteOmega]; go_simp; (try go_ints); exact DetR.mk))); simp only [Act.put, List.setIfInBounds_toArray, List.set_cons_zero, List.set_cons_succ])
      apply FlowT.d
      · intro w1 hk
        unfold does
        go_simp
        exact CallR.det ((HT1 w1 hk).out)
      simp only [Act.put, List.setIfInBounds_toArray, List.set_cons_zero, List.set_cons_succ]
      repeat (apply FlowT.d; (intro w1 hk; unfold does; go_simp; (try go_ints); (first | exact DetR.mk | (simp only [↓IntWalk.iteOmega, Oper.doesUpon_value]; exact DetR.mk) | (simp only [↓IntWalk.iteOmega]; go_simp; (try go_ints); exact DetR.mk))); simp only [Act.put, List.setIfInBounds_toArray, List.set_cons_zero, List.set_cons_succ])
      apply FlowT.d
      · intro w1 hk
        unfold does
        go_simp
        exact CallR.det ((HT2 w1 hk).out)
      simp only [Act.put, List.setIfInBounds_toArray, List.set_cons_zero, List.set_cons_succ]
      repeat (apply FlowT.d; (intro w1 hk; unfold does; go_simp; (try go_ints); (first | exact DetR.mk | (simp only [↓IntWalk.iteOmega, Oper.doesUpon_value]; exact DetR.mk) | (simp only [↓IntWalk.iteOmega]; go_simp; (try go_ints); exact DetR.mk))); simp only [Act.put, List.setIfInBounds_toArray, List.set_cons_zero, List.set_cons_succ])
      refine FlowT.fin fun w3 hx3 hk3 => ?_
      have Hx3 := hid (hx.trans hx3)
      clear k0 k1 k2 k3 k4 m0 m1 m2 m3 m4 HT1 HT2 hx hx3 hk3
      go_wp2
      go_roundw
      case rel => exact ⟨i + 1, by go_num, by omega, Hx3.out⟩
      case measure => simp [intOf]; omega
    · obtain rfl : i = fs.length := by omega
      go_wp2
      go_ret
      exact ⟨rfl, hx⟩
end Go.Proofs.YtkabgmohgjljkaaDoor
