
/- Links: a frame is sent and kept. -/
import Derived.Test.YtcfopaopcbjkeaaDoorL3
namespace Go.Proofs.YtcfopaopcbjkeaaDoor
set_option linter.unusedSimpArgs false
set_option linter.unusedVariables false
open Go Go.RowKit

theorem fr_cells (f : Fr) (v : Value) (n : Int) : kcells (⟨f, v⟩, n) = [.int .u8 (f.kind.toNat : Int), .int .i64 f.fr, .int .i64 f.to, .int .i64 f.seq, v, .int .i64 n] := rfl

set_option maxRecDepth 100000 in
set_option maxHeartbeats 3200000 in
theorem send_ok (s : Snd) (kind : UInt8) (nums : List Int) (a : Option Addr) (cap : Nat) (w : World) (n0 : Nat) (t : Option Nat) (p : Nat) (lv : Value) (ks : List (FV × Int)) (h : SndAt w n0 t p s lv ks) (hr : Ints w a nums.length nums) (hl : nums.length ≤ 1000)
    (ev : Nat → Value) (he : ErrsC w ev)
    (hc : (s.frame kind nums).code = 0) (hk : kind ≠ 97) (hf : s.l.length < 200) (m : Nat) (ok : s.Ok m) (hm : m ≤ 1000000) (hn0 : n0 ≤ w.heap.size) (ht : ∀ b, t = some b → b < w.heap.size) :
    Calls Tryd.prog 11 #[.pointer (some ⟨p, 0, none⟩), .int .u8 (kind.toNat : Int), .slice a nums.length cap] w fun e w' => ∃ v lv' ks', e = .returned (.tuple #[(FV.mk (s.frame kind nums) v).val, .nilIface]) ∧ SndAt w' n0 t p (s.sent kind nums) lv' ks' ∧ IRow w.heap.size w' v nums ∧ Keep (fun b => b = p ∨ lv.ownBlock = some b) w w' := by
  obtain ⟨a4, c4, rfl⟩ := row_form h.hl
  have hE : errv ev 0 = .nilIface := rfl
  have hkn : ¬ (kind.toNat : Int) = 97 := fun e => hk (UInt8.toNat_inj.1 (by rw [show (97 : UInt8).toNat = 97 from rfl]; omega))
  have hf' : (ks.length : Int) < 200 := by have := h.len; omega
  have hnx := ok.next
  have Hn0 := hid hn0
  have Ht := hid ht
  clear hk hf ok hn0 ht
  obtain ⟨W0, hW0⟩ : ∃ W0, W0 = w.alloc (.cells frz 34) := ⟨_, rfl⟩
  have xW0 : Ext w W0 := by rw [hW0]; exact (Ext.refl w).alloc _
  have hs0 : W0.heap.size = w.heap.size + 1 := by rw [hW0]; simp
  have b6 : Blk W0 w.heap.size frz 34 := by rw [hW0]; exact Blk.new _ _ _
  have hpl := h.hp.lt
  have hnp : ¬ W0.heap.size ≤ p := by omega
  have g0 := (h.hp.ext xW0).kc (X := fun b => W0.heap.size ≤ b) hnp 0 rfl
  have g1 := (h.hp.ext xW0).kc (X := fun b => W0.heap.size ≤ b) hnp 1 rfl
  have g2 := (h.hp.ext xW0).kc (X := fun b => W0.heap.size ≤ b) hnp 2 rfl
  simp only [List.getElem_toArray, List.getElem_cons_zero, List.getElem_cons_succ] at g0 g1 g2
  have HC := fun w1 (x : Ext w w1) => hid (copied_any (s.frame kind nums) a cap w1 (hr.ext x) hl)
  have HK := fun w1 (x : Ext w w1) a1 c1 (hi : Ints w1 a1 nums.length nums) => hid (fcheck_any (s.frame kind nums) a1 c1 w1 ev hi (by simp only [Snd.frame]; omega) (he.ext x))
  have Hhi : Hid (∀ i, nums.getD i 0 ≤ 9223372036854775807) := hid hr.hi
  unfold frz at hW0
  have HW0 := hid hW0
  have H := hid h
  have Hb6 := hid b6
  have Hs0 := hid hs0
  clear hW0 h hr b6 hs0
  simp only [Snd.frame, frv] at HC HK hc
  simp only [hc, hE] at HK
  clear hc hE
  go_enter Tryd.func11, Tryd.ntmps11
  go_wp2
  rw [← HW0.out]
  refine wp_flow (fun b => W0.heap.size ≤ b) (by kernel_rfl) (by kernel_rfl) ?_
  apply Flow.d 0 _ rfl (by simp) (by kernel_rfl)
  · intro w1 hk; unfold does; go_simp; (try go_ints); exact DetR.mk
  simp only [List.getElem_toArray, List.getElem_cons_zero, List.getElem_cons_succ, Act.put, List.setIfInBounds_toArray, List.set_cons_zero, List.set_cons_succ]
  apply Flow.d 1 _ rfl (by simp) (by kernel_rfl)
  · intro w1 hk; unfold does; go_simp; (try go_ints); exact DetR.mk
  simp only [List.getElem_toArray, List.getElem_cons_zero, List.getElem_cons_succ, Act.put, List.setIfInBounds_toArray, List.set_cons_zero, List.set_cons_succ]
  apply Flow.d 2 _ rfl (by simp) (by kernel_rfl)
  · intro w1 hk; unfold does; go_simp; (try go_ints); exact DetR.mk
  simp only [List.getElem_toArray, List.getElem_cons_zero, List.getElem_cons_succ, Act.put, List.setIfInBounds_toArray, List.set_cons_zero, List.set_cons_succ]
  apply Flow.d 3 _ rfl (by simp) (by kernel_rfl)
  · intro w1 hk; unfold does; go_simp; (try go_ints); exact DetR.mk
  simp only [List.getElem_toArray, List.getElem_cons_zero, List.getElem_cons_succ, Act.put, List.setIfInBounds_toArray, List.set_cons_zero, List.set_cons_succ]
  apply Flow.d 4 _ rfl (by simp) (by kernel_rfl)
  · intro w1 hk; unfold does; go_simp; (try go_ints); exact DetR.mk
  simp only [List.getElem_toArray, List.getElem_cons_zero, List.getElem_cons_succ, Act.put, List.setIfInBounds_toArray, List.set_cons_zero, List.set_cons_succ]
  apply Flow.d 5 _ rfl (by simp) (by kernel_rfl)
  · intro w1 hk; unfold does; go_simp; (try go_ints); exact DetR.mk
  simp only [List.getElem_toArray, List.getElem_cons_zero, List.getElem_cons_succ, Act.put, List.setIfInBounds_toArray, List.set_cons_zero, List.set_cons_succ]
  apply Flow.d 6 _ rfl (by simp) (by kernel_rfl)
  · intro w1 hk; unfold does; go_simp; (try go_ints); exact DetR.mk
  simp only [List.getElem_toArray, List.getElem_cons_zero, List.getElem_cons_succ, Act.put, List.setIfInBounds_toArray, List.set_cons_zero, List.set_cons_succ]
  apply Flow.d 7 _ rfl (by simp) (by kernel_rfl)
  · intro w1 hk; unfold does; go_simp; (try go_ints); exact DetR.mk
  simp only [List.getElem_toArray, List.getElem_cons_zero, List.getElem_cons_succ, Act.put, List.setIfInBounds_toArray, List.set_cons_zero, List.set_cons_succ]
  apply Flow.d 8 _ rfl (by simp) (by kernel_rfl)
  · intro w1 hk; unfold does; go_simp; (try go_ints); exact DetR.mk
  simp only [List.getElem_toArray, List.getElem_cons_zero, List.getElem_cons_succ, Act.put, List.setIfInBounds_toArray, List.set_cons_zero, List.set_cons_succ]
  apply Flow.d 9 _ rfl (by simp) (by kernel_rfl)
  · intro w1 hk; unfold does; go_simp; (try go_ints); exact DetR.mk
  simp only [List.getElem_toArray, List.getElem_cons_zero, List.getElem_cons_succ, Act.put, List.setIfInBounds_toArray, List.set_cons_zero, List.set_cons_succ]
  apply Flow.d 10 _ rfl (by simp) (by kernel_rfl)
  · intro w1 hk; unfold does; go_simp; (try go_ints); exact DetR.mk
  simp only [List.getElem_toArray, List.getElem_cons_zero, List.getElem_cons_succ, Act.put, List.setIfInBounds_toArray, List.set_cons_zero, List.set_cons_succ]
  apply Flow.d 11 _ rfl (by simp) (by kernel_rfl)
  · intro w1 hk; unfold does; go_simp; (try go_ints); exact DetR.mk
  simp only [List.getElem_toArray, List.getElem_cons_zero, List.getElem_cons_succ, Act.put, List.setIfInBounds_toArray, List.set_cons_zero, List.set_cons_succ]
  apply Flow.d 12 _ rfl (by simp) (by kernel_rfl)
  · intro w1 hk; unfold does; go_simp; (try go_ints); exact DetR.mk
  simp only [List.getElem_toArray, List.getElem_cons_zero, List.getElem_cons_succ, Act.put, List.setIfInBounds_toArray, List.set_cons_zero, List.set_cons_succ]
  apply Flow.d 13 _ rfl (by simp) (by kernel_rfl)
  · intro w1 hk; unfold does; go_simp; (try go_ints); exact DetR.mk
  simp only [List.getElem_toArray, List.getElem_cons_zero, List.getElem_cons_succ, Act.put, List.setIfInBounds_toArray, List.set_cons_zero, List.set_cons_succ]
  apply Flow.d 14 _ rfl (by simp) (by kernel_rfl)
  · intro w1 hk; unfold does; go_simp; (try go_ints); exact DetR.mk
  simp only [List.getElem_toArray, List.getElem_cons_zero, List.getElem_cons_succ, Act.put, List.setIfInBounds_toArray, List.set_cons_zero, List.set_cons_succ]
  refine Flow.par2 15 16 _ _ rfl rfl (by decide) (fun _ _ h => by cases h) (fun _ _ h => by cases h) (by kernel_rfl) (by kernel_rfl) (by kernel_rfl) (by kernel_rfl)
    (fun v w1 => ∃ v1, v = (FV.mk ⟨kind, s.fr, s.to, s.next, nums⟩ v1).val ∧ IRow W0.heap.size w1 v1 nums) (fun v w1 => ∃ b, v = .pointer (some ⟨b, 0, none⟩) ∧ Blk w1 b frz 34 ∧ W0.heap.size ≤ b) (fun _ _ h x => h.trans x) (fun _ _ _ ⟨v1, h1, h2⟩ x => ⟨v1, h1, h2.ext x⟩) (fun _ _ _ ⟨g, h1, h2, h3⟩ x => ⟨g, h1, h2.ext x, h3⟩) ?_ ?_ ?_
  · intro w1 hC hk
    unfold does
    go_simp
    refine CallR.gen ((HC w1 (xW0.trans hC)).out.mono ?_)
    rintro e w2 ⟨v, rfl, hx, hI⟩
    exact ⟨_, rfl, hx, v, rfl, hI.base hC.size⟩
  · intro w1 hC hk
    unfold does
    go_simp
    exact ⟨(Ext.refl _).alloc _, _, rfl, Blk.new _ _ _, hC.size⟩
  rintro _ _ ⟨_, v1, rfl, hI0⟩ ⟨_, b8, rfl, _, hb8⟩
  obtain ⟨a1, c1, rfl⟩ := hI0.form
  have Hb8 := hid hb8
  clear hI0 hb8
  simp only [List.getElem_toArray, List.getElem_cons_zero, List.getElem_cons_succ, Act.put, List.setIfInBounds_toArray, List.set_cons_zero, List.set_cons_succ]
  refine Flow.one 17 _ rfl (by kernel_rfl) (fun _ w1 => Blk w1 b8 #[.int .u8 (kind.toNat : Int), .int .i64 s.fr, .int .i64 s.to, .int .i64 s.next, .slice a1 nums.length c1] 34 ∧ IRow W0.heap.size w1 (.slice a1 nums.length c1) nums ∧ Ext W0 w1) (fun _ _ _ ⟨h1, h2, h3⟩ x => ⟨h1.ext x, h2.ext x, h3.trans x⟩) ?_ ?_
  · rintro w1 ⟨hx, ⟨v2, e2, hI⟩, b', eb, hB, _⟩ hk
    obtain rfl : v2 = .slice a1 nums.length c1 := by simpa [FV.val, eq_comm] using e2
    obtain rfl : b8 = b' := by simpa using eb
    have c0 := hB.av 0 rfl
    have c1 := hB.av 1 rfl
    have c2 := hB.av 2 rfl
    have c3 := hB.av 3 rfl
    have c4 := hB.av 4 rfl
    have f0 := hB.free
    unfold does
    unfold FV.val
    go_simp
    refine ⟨(store5_keep _ _ _ _ _ _ _ |>.mono fun b _ e => by subst e; exact Hb8.out) |> hk.trans, store5 hB, hI.keep (store5_keep _ _ _ _ _ _ _) (fun b hb' e => ?_), Keep.new hx (store5_keep _ _ _ _ _ _ _) (fun b e => by subst e; exact Hb8.out)⟩
    obtain ⟨c, hc⟩ := own_ty (show w1.ownsRow W0.heap.size 3 1 _ nums.length (icells nums) from hI) hb'
    exact hB.ty_ne hc (by decide) e.symm
  rintro _ ⟨_, _⟩
  simp only [List.getElem_toArray, List.getElem_cons_zero, List.getElem_cons_succ, Act.put, List.setIfInBounds_toArray, List.set_cons_zero, List.set_cons_succ]
  refine Flow.fin (by kernel_rfl) fun w1 hC hk => ?_
  obtain ⟨hB, hI, hx⟩ := hC
  clear g0 g1 g2 HC hk HW0
  have hx1 := xW0.trans hx
  have Hx1 := hid hx1
  have d0 := hB.av 0 rfl
  have d1 := hB.av 1 rfl
  have d2 := hB.av 2 rfl
  have d3 := hB.av 3 rfl
  have d4 := hB.av 4 rfl
  go_wp2_with fail
  refine (HK _ hx1 _ _ (hI.ints Hhi.out)).out.mono ?_
  intro e w2 hx2
  obtain ⟨rfl, hx2⟩ := hx2
  clear HK d0 d1 d2 d3 d4
  have hx2' := hx1.trans hx2
  have h2 := H.out.ext hx2'
  have q2 := h2.hp.av 2 rfl
  have q4 := h2.hp.av 4 rfl
  have f2 := h2.hp.free
  simp only [List.getElem_toArray, List.getElem_cons_zero, List.getElem_cons_succ] at q2 q4
  have hB2 := hB.ext hx2
  have hI2 := hI.ext hx2
  have b62 := Hb6.out.ext (hx.trans hx2)
  have hk3 : Keep (fun b => b = p) w2 (w2.setCell ⟨p, 2, none⟩ (.int .i64 (s.next + 1))) := Keep.set (X := fun b => b = p) (Keep.refl _ _) rfl _
  have hwr : Wr w2 n0 t fun b => b = p := Wr.blk h2.hp (by decide) h2.lo
  have hP3 := h2.hp.set 2 (.int .i64 (s.next + 1))
  simp only [List.setIfInBounds_toArray, List.set_cons_zero, List.set_cons_succ] at hP3
  have hB3 := hB2.keep hk3 fun e => h2.hp.ty_ne hB2 (by decide) e.symm
  have hI3 := hI2.keep hk3 fun b hb e => by
    obtain ⟨c, hc⟩ := own_ty (show w2.ownsRow W0.heap.size 3 1 _ nums.length (icells nums) from hI2) hb
    exact h2.hp.ty_ne hc (by decide) e.symm
  have b63 := b62.keep hk3 fun e => h2.hp.ty_ne b62 (by decide) e.symm
  have hL3 := row_keep h2.hl hk3 fun b hb e => by
    obtain ⟨c, hc⟩ := own_ty h2.hl hb
    exact h2.hp.ty_ne hc (by decide) e.symm
  have hN3 : ∀ x ∈ ks, x.1.At (w2.setCell ⟨p, 2, none⟩ (.int .i64 (s.next + 1))) n0 t := fun x hm => NumsAt.keep (h2.hn x hm) hk3 hwr
  have hlp : ¬ (Value.slice a4 ks.length c4).ownBlock = some p := fun e => by
    obtain ⟨c, hc⟩ := own_ty h2.hl e
    exact h2.hp.ty_ne hc (by decide) rfl
  have Hlp := hid hlp
  have HkA := hid ((hx2'.keep fun b => b = p).trans hk3)
  have hsz3 : Hid (w2.heap.size = (w2.setCell ⟨p, 2, none⟩ (.int .i64 (s.next + 1))).heap.size) := hid (by simp [World.setCell])
  have hw0 : Hid (W0.heap.size ≤ w2.heap.size) := hid (hx.trans hx2).size
  have Heq := hid h2.eq
  have Hlo := hid h2.lo
  clear hB hI hx1 hx hx2 hx2' h2 hB2 hI2 b62 hk3 hwr hlp Hb6 H Hx1
  go_wp2
  generalize w2.setCell ⟨p, 2, none⟩ (.int .i64 (s.next + 1)) = W3 at *
  clear q2 q4 f2
  have g3 := hP3.kc (X := fun k => (Value.slice a4 ks.length c4).ownBlock = some k) Hlp.out 3 rfl
  have g4 := hP3.kc (X := fun k => (Value.slice a4 ks.length c4).ownBlock = some k) Hlp.out 4 rfl
  simp only [List.getElem_toArray, List.getElem_cons_zero, List.getElem_cons_succ] at g3 g4
  have hb8 : ¬ (Value.slice a4 ks.length c4).ownBlock = some b8 := fun e => by
    obtain ⟨c, hc⟩ := own_ty hL3 e
    exact hB3.ty_ne hc (by decide) rfl
  have d0 := hB3.kc (X := fun k => (Value.slice a4 ks.length c4).ownBlock = some k) hb8 0 rfl
  have d1 := hB3.kc (X := fun k => (Value.slice a4 ks.length c4).ownBlock = some k) hb8 1 rfl
  have d2 := hB3.kc (X := fun k => (Value.slice a4 ks.length c4).ownBlock = some k) hb8 2 rfl
  have d3 := hB3.kc (X := fun k => (Value.slice a4 ks.length c4).ownBlock = some k) hb8 3 rfl
  have d4 := hB3.kc (X := fun k => (Value.slice a4 ks.length c4).ownBlock = some k) hb8 4 rfl
  obtain ⟨ti, hi, hz0, hz1, hz2⟩ := info_parts kept_info
  have HP3 := hid hP3
  have HB3 := hid hB3
  have HI3 := hid hI3
  have HL3 := hid hL3
  have HN3 := hid hN3
  have Hb63 := hid b63
  have Hb8' := hid hb8
  clear hP3 hB3 hI3 hL3 hN3 b63 hb8
  refine wp_flowT (fun k => (Value.slice a4 ks.length c4).ownBlock = some k) (by kernel_rfl) (by kernel_rfl) ?_
  repeat (apply FlowT.d; (intro w1 hk; unfold does; go_simp; (try go_ints); (first | exact DetR.mk | (simp only [↓IntWalk.iteOmega, Oper.doesUpon_value]; exact DetR.mk) | (simp only [↓IntWalk.iteOmega]; go_simp; (try go_ints); exact DetR.mk))); simp only [Act.put, List.setIfInBounds_toArray, List.set_cons_zero, List.set_cons_succ])
  obtain ⟨NC, hNC⟩ : ∃ NC, NC = kcells (⟨s.frame kind nums, .slice a1 nums.length c1⟩, s.now) := ⟨_, rfl⟩
  have HNC := hid hNC
  clear hNC
  refine FlowT.s (fun v' w' => ∃ b, v' = .slice (some ⟨b, 0, none⟩) 1 1 ∧ Blk w' b #[.int .u8 (kind.toNat : Int), .int .i64 s.fr, .int .i64 s.to, .int .i64 s.next, .slice a1 nums.length c1, .int .i64 s.now] 113 ∧ Ext W3 w') 11 rfl (by kernel_rfl) (fun _ _ _ ⟨b, h1, h2, h3⟩ he => ⟨b, h1, h2.ext he, h3.trans he⟩) (fun w4 hC hk => ?_) (fun v2 hv2 => ?_)
  · unfold does
    go_simp
    exact ⟨hk.alloc _, _, rfl, Blk.new _ _ _, hC.alloc _⟩
  obtain ⟨_, b, rfl, _, _⟩ := hv2
  simp only [Act.put, List.setIfInBounds_toArray, List.set_cons_zero, List.set_cons_succ]
  refine FlowT.s (fun v' w' => w'.ownsRow 0 113 6 v' (ks.length + 1) (ks.flatMap kcells ++ NC) ∧ ∀ k, v'.ownBlock = some k → (Value.slice a4 ks.length c4).ownBlock = some k ∨ W3.heap.size ≤ k) 12 rfl (by kernel_rfl) (fun _ _ _ h he => ⟨row_keep h.1 (he.keep fun _ => False) (fun _ _ h => h), h.2⟩) (fun w5 hC hk => ?_) (fun v3 hv3 => ?_)
  · obtain ⟨b', hb', hblk, hx⟩ := hC
    obtain rfl : b = b' := by simpa using hb'
    refine does_append rfl (.tmp 57) (.tmp 64) 104 rfl 113 ti _ 6 64 Tryd.underlying104 hi hz0 hz1 hz2 rfl (by decide) (.slice a4 ks.length c4) ks.length (ks.flatMap kcells) rfl (own_base (row_keep HL3.out (hx.keep fun _ => False) (fun _ _ h => h)) (Nat.zero_le _)) ⟨b, 0, none⟩ 1 1 NC rfl (by rw [HNC.out]; rfl) ?_ (by rw [HNC.out, fr_cells]; simp [Value.oneCell']) (by unfold maxLen; omega) (by omega) (fun v' w' ho hkk hb2 => ?_)
    · intro j u hj
      rw [HNC.out, fr_cells] at hj
      rw [show (⟨b, 0, none⟩ : Addr).add j = ⟨b, j, none⟩ from by by_cases h0 : j = 0 <;> simp [Addr.add, h0], hblk.cell j]
      simpa [Snd.frame] using hj
    · refine ⟨(hx.keep _).trans hkk, ho, fun k hk' => ?_⟩
      rcases hb2 k hk' with h1 | h1
      · exact .inl h1
      · exact .inr (Nat.le_trans hx.size h1)
  obtain ⟨a5, c5, rfl⟩ : ∃ a5 c5, v3 = .slice a5 (ks.length + 1) c5 := by
    obtain ⟨_, h1, _⟩ := hv3
    exact row_form h1
  clear hv3
  simp only [Act.put, List.setIfInBounds_toArray, List.set_cons_zero, List.set_cons_succ]
  repeat (apply FlowT.d; (intro w1 hk; unfold does; go_simp; (try go_ints); (first | exact DetR.mk | (simp only [↓IntWalk.iteOmega, Oper.doesUpon_value]; exact DetR.mk) | (simp only [↓IntWalk.iteOmega]; go_simp; (try go_ints); exact DetR.mk))); simp only [Act.put, List.setIfInBounds_toArray, List.set_cons_zero, List.set_cons_succ])
  refine FlowT.last (fun _ w' => ∃ w6, w6.ownsRow 0 113 6 (.slice a5 (ks.length + 1) c5) (ks.length + 1) (ks.flatMap kcells ++ NC) ∧ (∀ k, (Value.slice a5 (ks.length + 1) c5).ownBlock = some k → (Value.slice a4 ks.length c4).ownBlock = some k ∨ W3.heap.size ≤ k) ∧ Keep (fun k => (Value.slice a4 ks.length c4).ownBlock = some k) W3 w6 ∧ w' = w6.setCell ⟨p, 4, none⟩ (.slice a5 (ks.length + 1) c5)) 15 rfl (by kernel_rfl) (by kernel_rfl) (fun w6 hC hk => ?_) (fun v w7 hR => ?_)
  · have q4 := g4 w6 hk
    have f4 := (HP3.out.keep hk Hlp.out).free 4
    unfold does
    go_simp
    exact ⟨w6, hC.1, hC.2, hk, rfl⟩
  obtain ⟨w6, ho, hb3, hk6, rfl⟩ := hR
  simp only [Act.put]
  clear g3 g4 d0 d1 d2 d3 d4
  have hP6 := HP3.out.keep hk6 Hlp.out
  have hne5 : ∀ k, (Value.slice a5 (ks.length + 1) c5).ownBlock = some k → k ≠ p := fun k hk e => by
    obtain ⟨c, hc⟩ := own_ty ho hk
    exact hP6.ty_ne hc (by decide) e.symm
  have hP7 := hP6.set 4 (.slice a5 (ks.length + 1) c5)
  simp only [List.setIfInBounds_toArray, List.set_cons_zero, List.set_cons_succ] at hP7
  have hk7 : Keep (fun k => k = p ∨ (Value.slice a4 ks.length c4).ownBlock = some k) W3 (w6.setCell ⟨p, 4, none⟩ (.slice a5 (ks.length + 1) c5)) := (hk6.mono fun k _ h => .inr h).set (.inl rfl) _
  have hwr : Wr W3 n0 t fun k => k = p ∨ (Value.slice a4 ks.length c4).ownBlock = some k := (Wr.blk HP3.out (by decide) Hlo.out).or (Wr.row HL3.out (by decide))
  have hL7 := row_keep (X := fun k => k = p) ho (Keep.set (X := fun k => k = p) (Keep.refl _ w6) rfl _) (w' := w6.setCell ⟨p, 4, none⟩ (.slice a5 (ks.length + 1) c5)) hne5
  have hB7 := HB3.out.keep hk7 fun e => e.elim (fun e => HP3.out.ty_ne HB3.out (by decide) e.symm) Hb8'.out
  have hI7 := HI3.out.keep hk7 fun b hb e => by
    obtain ⟨c, hc⟩ := own_ty (show W3.ownsRow W0.heap.size 3 1 _ nums.length (icells nums) from HI3.out) hb
    rcases e with e | e
    · exact HP3.out.ty_ne hc (by decide) e.symm
    · obtain ⟨c', hc'⟩ := own_ty HL3.out e
      exact hc'.ty_ne hc (by decide) rfl
  have hN7 : ∀ x ∈ ks, x.1.At (w6.setCell ⟨p, 4, none⟩ (.slice a5 (ks.length + 1) c5)) n0 t := fun x hm => NumsAt.keep (HN3.out x hm) hk7 hwr
  have b67 := Hb63.out.keep hk7 fun e => e.elim (fun e => HP3.out.ty_ne Hb63.out (by decide) e.symm) fun e => by
    obtain ⟨c, hc⟩ := own_ty HL3.out e
    exact Hb63.out.ty_ne hc (by decide) rfl
  have HkB := hid (HkA.out.mono (Y := fun k => k = p ∨ (Value.slice a4 ks.length c4).ownBlock = some k) (fun k _ h => .inl h) |>.trans hk7)
  have hw0' : Hid (W0.heap.size ≤ (w6.setCell ⟨p, 4, none⟩ (.slice a5 (ks.length + 1) c5)).heap.size) := hid (by have := hk7.size; have := hsz3.out; have := hw0.out; omega)
  have hlo5 : Hid (∀ k, (Value.slice a5 (ks.length + 1) c5).ownBlock = some k → n0 ≤ k) := hid fun k hk => by
    rcases hb3 k hk with h1 | h1
    · exact (World.ownsRow.lt HL3.out k h1).1
    · have := Hn0.out; have := hw0.out; have := hsz3.out; have := Hs0.out; omega
  have Ha5 : Hid (∀ k, (Value.slice a5 (ks.length + 1) c5).ownBlock = some k → True) := hid fun _ _ => trivial
  clear ho hb3 hk6 hP6 hne5 hk7 hwr HkA HP3 HL3 HN3 HI3 HB3 Hb63 Hb8' Ha5
  generalize w6.setCell ⟨p, 4, none⟩ (.slice a5 (ks.length + 1) c5) = W7 at *
  have d0 := hB7.av 0 rfl
  have d1 := hB7.av 1 rfl
  have d2 := hB7.av 2 rfl
  have d3 := hB7.av 3 rfl
  have d4 := hB7.av 4 rfl
  have HC7 := hid (copied_any (s.frame kind nums) a1 c1 W7 (hI7.ints Hhi.out) hl)
  simp only [Snd.frame, frv] at HC7
  have HI7 := hid hI7
  have HP7 := hid hP7
  have HL7 := hid hL7
  have HN7 := hid hN7
  clear hI7 hP7 hL7 hN7 hB7
  go_wp2_with fail
  refine HC7.out.mono ?_
  intro e w8 hx
  obtain ⟨v9, rfl, hx8, hI8⟩ := hx
  obtain ⟨a9, c9, rfl⟩ := hI8.form
  have b68 := b67.ext hx8
  have e0 := b68.av 0 rfl
  have e1 := b68.av 1 rfl
  have e2 := b68.av 2 rfl
  have e3 := b68.av 3 rfl
  have e4 := b68.av 4 rfl
  have f6 := b68.free
  have hB6 := hid (store5 (b0 := .int .u8 (kind.toNat : Int)) (b1 := .int .i64 s.fr) (b2 := .int .i64 s.to) (b3 := .int .i64 s.next) (b4 := .slice a9 nums.length c9) b68)
  have hk6 := hid (store5_keep w8 w.heap.size (.int .u8 (kind.toNat : Int)) (.int .i64 s.fr) (.int .i64 s.to) (.int .i64 s.next) (.slice a9 nums.length c9))
  have Hb68 := hid b68
  have Hx8 := hid hx8
  have HI8 := hid hI8
  have Hb67 := hid b67
  have Hpl := hid hpl
  clear d0 d1 d2 d3 d4 HC7 b67 b68 hx8 hI8 hpl
  generalize hN : w.heap.size = N at *
  have HN := hid hN
  clear hN
  simp only [FV.val]
  go_wp2
  have c0 := hB6.out.av 0 rfl
  have c1' := hB6.out.av 1 rfl
  have c2 := hB6.out.av 2 rfl
  have c3 := hB6.out.av 3 rfl
  have c4' := hB6.out.av 4 rfl
  have hkN := hid ((Hx8.out.keep fun b => b = N).trans hk6.out)
  have hI9 := hid (HI8.out.keep hk6.out fun b hb e => by
    obtain ⟨c, hc⟩ := own_ty (show w8.ownsRow W7.heap.size 3 1 _ nums.length (icells nums) from HI8.out) hb
    exact Hb68.out.ty_ne hc (by decide) e.symm)
  clear hk6 hB6 Hx8 HI8
  generalize (((((w8.setCell ⟨N, 0, none⟩ (.int .u8 (kind.toNat : Int))).setCell ⟨N, 1, none⟩ (.int .i64 s.fr)).setCell ⟨N, 2, none⟩ (.int .i64 s.to)).setCell ⟨N, 3, none⟩ (.int .i64 s.next)).setCell ⟨N, 4, none⟩ (.slice a9 nums.length c9)) = w9 at *
  refine bodyPost_ret (v := .tuple #[(FV.mk ⟨kind, s.fr, s.to, s.next, nums⟩ (.slice a9 nums.length c9)).val, .nilIface]) (by simp [results, Tryd.results11, go_sem, c0, c1', c2, c3, c4']; rfl) rfl ⟨_, .slice a5 (ks.length + 1) c5, ks ++ [(⟨s.frame kind nums, .slice a1 nums.length c1⟩, s.now)], rfl, ?_, ?_, ?_⟩
  · have hwr : Wr W7 n0 t fun b => b = N := Wr.blk Hb67.out (by decide) (by have := Hn0.out; have := HN.out; omega)
    refine ⟨HP7.out.keep hkN.out (by have := Hpl.out; omega), ?_, fun x hx => ?_, ?_, Hlo.out⟩
    · have h1 := row_keep (own_rebase HL7.out hlo5.out) hkN.out fun b hb e => by
        obtain ⟨c, hc⟩ := own_ty HL7.out hb
        exact Hb67.out.ty_ne hc (by decide) e.symm
      rw [HNC.out] at h1
      simpa using h1
    · rcases List.mem_append.1 hx with hx | hx
      · exact NumsAt.keep (HN7.out x hx) hkN.out hwr
      · obtain rfl := List.mem_singleton.1 hx
        refine NumsAt.keep (NumsAt.of_row HI7.out Hhi.out fun b hb e => ?_) hkN.out hwr
        have h1 := (HI7.out.lt hb).1
        have h2 := Ht.out b e
        have h3 := Hs0.out
        have h4 := HN.out
        omega
    · simp [Snd.sent, Heq.out]
  · refine hI9.out.base ?_
    have := hw0'.out
    have := Hs0.out
    have := HN.out
    omega
  · refine Keep.tr HkB.out hkN.out fun b hb => .inl ?_
    have := HN.out
    omega
end Go.Proofs.YtcfopaopcbjkeaaDoor
