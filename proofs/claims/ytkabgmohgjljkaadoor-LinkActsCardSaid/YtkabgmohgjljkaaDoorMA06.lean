/- Texts of one proof, put together: L4 L5 L6 L7. -/
import Derived.Test.YtkabgmohgjljkaaDoorMA05
import Derived.Maps.AppendAt

/- Links: a frame is sent and kept. -/
namespace Go.Proofs.YtkabgmohgjljkaaDoor
set_option linter.unusedSimpArgs false
set_option linter.unusedVariables false
open Go Go.RowKit

theorem fr_cells (f : Fr) (v : Value) (n : Int) : kcells (⟨f, v⟩, n) = [.int .u8 (f.kind.toNat : Int), .int .i64 f.fr, .int .i64 f.to, .int .i64 f.seq, v, .int .i64 n] := rfl

set_option maxRecDepth 100000 in
set_option maxHeartbeats 3200000 in
theorem send_ok (s : Snd) (kind : UInt8) (nums : List Int) (a : Option Addr) (cap : Nat) (w : World) (n0 : Nat) (t : Option Nat) (p : Nat) (lv : Value) (ks : List (FV × Int)) (h : SndAt w n0 t p s lv ks) (hr : Ints w a nums.length nums) (hl : nums.length ≤ 1000)
    (ev : Nat → Value) (he : ErrsC w ev)
    (hc : (s.frame kind nums).code = 0) (hk : kind ≠ 97) (hf : s.l.length < 200) (m : Nat) (ok : s.Ok m) (hm : m ≤ 1000000) (hn0 : n0 ≤ w.heap.size) (ht : ∀ b, t = some b → b < w.heap.size) :
    Calls Tryd.prog 11 #[.pointer (some ⟨p, 0, none⟩), .int .u8 (kind.toNat : Int), .slice a nums.length cap] w fun e w' => ∃ v lv' ks', e = .returned (.tuple #[(FV.mk (s.frame kind nums) v).val, .nilIface]) ∧ SndAt w' n0 t p (s.sent kind nums) lv' ks' ∧ IRow w.heap.size w' v nums ∧ Keep (fun b => b = p ∨ lv.ownBlock = some b) w w' := by
  obtain ⟨a4, c4, rfl⟩ := row_form h.hl
  have hE : errv ev 0 = .nilIface := rfl
  have hkn : ¬ (kind.toNat : Int) = 97 := fun e => hk (UInt8.toNat_inj.1 (by rw [show (97 : UInt8).toNat = 97 from rfl]; omega))
  have hf' : (ks.length : Int) < 200 := by have := h.len; omega
  have hnx := ok.next
  have Hn0 := hid hn0
  have Ht := hid ht
  clear hk hf ok hn0 ht
  obtain ⟨W0, hW0⟩ : ∃ W0, W0 = w.alloc (.cells frz 48) := ⟨_, rfl⟩
  have xW0 : Ext w W0 := by rw [hW0]; exact (Ext.refl w).alloc _
  have hs0 : W0.heap.size = w.heap.size + 1 := by rw [hW0]; simp
  have b6 : Blk W0 w.heap.size frz 48 := by rw [hW0]; exact Blk.new _ _ _
  have hpl := h.hp.lt
  have hnp : ¬ W0.heap.size ≤ p := by omega
  have g0 := (h.hp.ext xW0).kc (X := fun b => W0.heap.size ≤ b) hnp 0 rfl
  have g1 := (h.hp.ext xW0).kc (X := fun b => W0.heap.size ≤ b) hnp 1 rfl
  have g2 := (h.hp.ext xW0).kc (X := fun b => W0.heap.size ≤ b) hnp 2 rfl
  simp only [List.getElem_toArray, List.getElem_cons_zero, List.getElem_cons_succ] at g0 g1 g2
  have HC := fun w1 (x : Ext w w1) => hid (copied_any (s.frame kind nums) a cap w1 (hr.ext x) hl)
  have HK := fun w1 (x : Ext w w1) a1 c1 (hi : Ints w1 a1 nums.length nums) => hid (fcheck_any (s.frame kind nums) a1 c1 w1 ev hi (by simp only [Snd.frame]; omega) (he.ext x))
  have Hhi : Hid (∀ i, nums.getD i 0 ≤ 9223372036854775807) := hid hr.hi
  unfold frz at hW0
  have HW0 := hid hW0
  have H := hid h
  have Hb6 := hid b6
  have Hs0 := hid hs0
  clear hW0 h hr b6 hs0
  simp only [Snd.frame, frv] at HC HK hc
  simp only [hc, hE] at HK
  clear hc hE
  go_enter Tryd.func11, Tryd.ntmps11
  go_wp2
  rw [← HW0.out]
  refine wp_flow (fun b => W0.heap.size ≤ b) (by kernel_rfl) (by kernel_rfl) ?_
  apply Flow.d 0 _ rfl (by simp) (by kernel_rfl)
  · intro w1 hk; unfold does; go_simp; (try go_ints); exact DetR.mk
  simp only [List.getElem_toArray, List.getElem_cons_zero, List.getElem_cons_succ, Act.put, List.setIfInBounds_toArray, List.set_cons_zero, List.set_cons_succ]
  apply Flow.d 1 _ rfl (by simp) (by kernel_rfl)
  · intro w1 hk; unfold does; go_simp; (try go_ints); exact DetR.mk
  simp only [List.getElem_toArray, List.getElem_cons_zero, List.getElem_cons_succ, Act.put, List.setIfInBounds_toArray, List.set_cons_zero, List.set_cons_succ]
  apply Flow.d 2 _ rfl (by simp) (by kernel_rfl)
  · intro w1 hk; unfold does; go_simp; (try go_ints); exact DetR.mk
  simp only [List.getElem_toArray, List.getElem_cons_zero, List.getElem_cons_succ, Act.put, List.setIfInBounds_toArray, List.set_cons_zero, List.set_cons_succ]
  apply Flow.d 3 _ rfl (by simp) (by kernel_rfl)
  · intro w1 hk; unfold does; go_simp; (try go_ints); exact DetR.mk
  simp only [List.getElem_toArray, List.getElem_cons_zero, List.getElem_cons_succ, Act.put, List.setIfInBounds_toArray, List.set_cons_zero, List.set_cons_succ]
  apply Flow.d 4 _ rfl (by simp) (by kernel_rfl)
  · intro w1 hk; unfold does; go_simp; (try go_ints); exact DetR.mk
  simp only [List.getElem_toArray, List.getElem_cons_zero, List.getElem_cons_succ, Act.put, List.setIfInBounds_toArray, List.set_cons_zero, List.set_cons_succ]
  apply Flow.d 5 _ rfl (by simp) (by kernel_rfl)
  · intro w1 hk; unfold does; go_simp; (try go_ints); exact DetR.mk
  simp only [List.getElem_toArray, List.getElem_cons_zero, List.getElem_cons_succ, Act.put, List.setIfInBounds_toArray, List.set_cons_zero, List.set_cons_succ]
  apply Flow.d 6 _ rfl (by simp) (by kernel_rfl)
  · intro w1 hk; unfold does; go_simp; (try go_ints); exact DetR.mk
  simp only [List.getElem_toArray, List.getElem_cons_zero, List.getElem_cons_succ, Act.put, List.setIfInBounds_toArray, List.set_cons_zero, List.set_cons_succ]
  apply Flow.d 7 _ rfl (by simp) (by kernel_rfl)
  · intro w1 hk; unfold does; go_simp; (try go_ints); exact DetR.mk
  simp only [List.getElem_toArray, List.getElem_cons_zero, List.getElem_cons_succ, Act.put, List.setIfInBounds_toArray, List.set_cons_zero, List.set_cons_succ]
  apply Flow.d 8 _ rfl (by simp) (by kernel_rfl)
  · intro w1 hk; unfold does; go_simp; (try go_ints); exact DetR.mk
  simp only [List.getElem_toArray, List.getElem_cons_zero, List.getElem_cons_succ, Act.put, List.setIfInBounds_toArray, List.set_cons_zero, List.set_cons_succ]
  apply Flow.d 9 _ rfl (by simp) (by kernel_rfl)
  · intro w1 hk; unfold does; go_simp; (try go_ints); exact DetR.mk
  simp only [List.getElem_toArray, List.getElem_cons_zero, List.getElem_cons_succ, Act.put, List.setIfInBounds_toArray, List.set_cons_zero, List.set_cons_succ]
  apply Flow.d 10 _ rfl (by simp) (by kernel_rfl)
  · intro w1 hk; unfold does; go_simp; (try go_ints); exact DetR.mk
  simp only [List.getElem_toArray, List.getElem_cons_zero, List.getElem_cons_succ, Act.put, List.setIfInBounds_toArray, List.set_cons_zero, List.set_cons_succ]
  apply Flow.d 11 _ rfl (by simp) (by kernel_rfl)
  · intro w1 hk; unfold does; go_simp; (try go_ints); exact DetR.mk
  simp only [List.getElem_toArray, List.getElem_cons_zero, List.getElem_cons_succ, Act.put, List.setIfInBounds_toArray, List.set_cons_zero, List.set_cons_succ]
  apply Flow.d 12 _ rfl (by simp) (by kernel_rfl)
  · intro w1 hk; unfold does; go_simp; (try go_ints); exact DetR.mk
  simp only [List.getElem_toArray, List.getElem_cons_zero, List.getElem_cons_succ, Act.put, List.setIfInBounds_toArray, List.set_cons_zero, List.set_cons_succ]
  apply Flow.d 13 _ rfl (by simp) (by kernel_rfl)
  · intro w1 hk; unfold does; go_simp; (try go_ints); exact DetR.mk
  simp only [List.getElem_toArray, List.getElem_cons_zero, List.getElem_cons_succ, Act.put, List.setIfInBounds_toArray, List.set_cons_zero, List.set_cons_succ]
  apply Flow.d 14 _ rfl (by simp) (by kernel_rfl)
  · intro w1 hk; unfold does; go_simp; (try go_ints); exact DetR.mk
  simp only [List.getElem_toArray, List.getElem_cons_zero, List.getElem_cons_succ, Act.put, List.setIfInBounds_toArray, List.set_cons_zero, List.set_cons_succ]
  refine Flow.par2 15 16 _ _ rfl rfl (by decide) (fun _ _ h => by cases h) (fun _ _ h => by cases h) (by kernel_rfl) (by kernel_rfl) (by kernel_rfl) (by kernel_rfl)
    (fun v w1 => ∃ v1, v = (FV.mk ⟨kind, s.fr, s.to, s.next, nums⟩ v1).val ∧ IRow W0.heap.size w1 v1 nums) (fun v w1 => ∃ b, v = .pointer (some ⟨b, 0, none⟩) ∧ Blk w1 b frz 48 ∧ W0.heap.size ≤ b) (fun _ _ h x => h.trans x) (fun _ _ _ ⟨v1, h1, h2⟩ x => ⟨v1, h1, h2.ext x⟩) (fun _ _ _ ⟨g, h1, h2, h3⟩ x => ⟨g, h1, h2.ext x, h3⟩) ?_ ?_ ?_
  · intro w1 hC hk
    unfold does
    go_simp
    refine CallR.gen ((HC w1 (xW0.trans hC)).out.mono ?_)
    rintro e w2 ⟨v, rfl, hx, hI⟩
    exact ⟨_, rfl, hx, v, rfl, hI.base hC.size⟩
  · intro w1 hC hk
    unfold does
    go_simp
    exact ⟨(Ext.refl _).alloc _, _, rfl, Blk.new _ _ _, hC.size⟩
  rintro _ _ ⟨_, v1, rfl, hI0⟩ ⟨_, b8, rfl, _, hb8⟩
  obtain ⟨a1, c1, rfl⟩ := hI0.form
  have Hb8 := hid hb8
  clear hI0 hb8
  simp only [List.getElem_toArray, List.getElem_cons_zero, List.getElem_cons_succ, Act.put, List.setIfInBounds_toArray, List.set_cons_zero, List.set_cons_succ]
  refine Flow.one 17 _ rfl (by kernel_rfl) (fun _ w1 => Blk w1 b8 #[.int .u8 (kind.toNat : Int), .int .i64 s.fr, .int .i64 s.to, .int .i64 s.next, .slice a1 nums.length c1] 48 ∧ IRow W0.heap.size w1 (.slice a1 nums.length c1) nums ∧ Ext W0 w1) (fun _ _ _ ⟨h1, h2, h3⟩ x => ⟨h1.ext x, h2.ext x, h3.trans x⟩) ?_ ?_
  · rintro w1 ⟨hx, ⟨v2, e2, hI⟩, b', eb, hB, _⟩ hk
    obtain rfl : v2 = .slice a1 nums.length c1 := by simpa [FV.val, eq_comm] using e2
    obtain rfl : b8 = b' := by simpa using eb
    have c0 := hB.av 0 rfl
    have c1 := hB.av 1 rfl
    have c2 := hB.av 2 rfl
    have c3 := hB.av 3 rfl
    have c4 := hB.av 4 rfl
    have f0 := hB.free
    unfold does
    unfold FV.val
    go_simp
    refine ⟨(store5_keep _ _ _ _ _ _ _ |>.mono fun b _ e => by subst e; exact Hb8.out) |> hk.trans, store5 hB, hI.keep (store5_keep _ _ _ _ _ _ _) (fun b hb' e => ?_), Keep.new hx (store5_keep _ _ _ _ _ _ _) (fun b e => by subst e; exact Hb8.out)⟩
    obtain ⟨c, hc⟩ := own_ty (show w1.ownsRow W0.heap.size 3 1 _ nums.length (icells nums) from hI) hb'
    exact hB.ty_ne hc (by decide) e.symm
  rintro _ ⟨_, _⟩
  simp only [List.getElem_toArray, List.getElem_cons_zero, List.getElem_cons_succ, Act.put, List.setIfInBounds_toArray, List.set_cons_zero, List.set_cons_succ]
  refine Flow.fin (by kernel_rfl) fun w1 hC hk => ?_
  obtain ⟨hB, hI, hx⟩ := hC
  clear g0 g1 g2 HC hk HW0
  have hx1 := xW0.trans hx
  have Hx1 := hid hx1
  have d0 := hB.av 0 rfl
  have d1 := hB.av 1 rfl
  have d2 := hB.av 2 rfl
  have d3 := hB.av 3 rfl
  have d4 := hB.av 4 rfl
  go_wp2_with fail
  refine (HK _ hx1 _ _ (hI.ints Hhi.out)).out.mono ?_
  intro e w2 hx2
  obtain ⟨rfl, hx2⟩ := hx2
  clear HK d0 d1 d2 d3 d4
  have hx2' := hx1.trans hx2
  have h2 := H.out.ext hx2'
  have q2 := h2.hp.av 2 rfl
  have q4 := h2.hp.av 4 rfl
  have f2 := h2.hp.free
  simp only [List.getElem_toArray, List.getElem_cons_zero, List.getElem_cons_succ] at q2 q4
  have hB2 := hB.ext hx2
  have hI2 := hI.ext hx2
  have b62 := Hb6.out.ext (hx.trans hx2)
  have hk3 : Keep (fun b => b = p) w2 (w2.setCell ⟨p, 2, none⟩ (.int .i64 (s.next + 1))) := Keep.set (X := fun b => b = p) (Keep.refl _ _) rfl _
  have hwr : Wr w2 n0 t fun b => b = p := Wr.blk h2.hp (by decide) h2.lo
  have hP3 := h2.hp.set 2 (.int .i64 (s.next + 1))
  simp only [List.setIfInBounds_toArray, List.set_cons_zero, List.set_cons_succ] at hP3
  have hB3 := hB2.keep hk3 fun e => h2.hp.ty_ne hB2 (by decide) e.symm
  have hI3 := hI2.keep hk3 fun b hb e => by
    obtain ⟨c, hc⟩ := own_ty (show w2.ownsRow W0.heap.size 3 1 _ nums.length (icells nums) from hI2) hb
    exact h2.hp.ty_ne hc (by decide) e.symm
  have b63 := b62.keep hk3 fun e => h2.hp.ty_ne b62 (by decide) e.symm
  have hL3 := row_keep h2.hl hk3 fun b hb e => by
    obtain ⟨c, hc⟩ := own_ty h2.hl hb
    exact h2.hp.ty_ne hc (by decide) e.symm
  have hN3 : ∀ x ∈ ks, x.1.At (w2.setCell ⟨p, 2, none⟩ (.int .i64 (s.next + 1))) n0 t := fun x hm => NumsAt.keep (h2.hn x hm) hk3 hwr
  have hlp : ¬ (Value.slice a4 ks.length c4).ownBlock = some p := fun e => by
    obtain ⟨c, hc⟩ := own_ty h2.hl e
    exact h2.hp.ty_ne hc (by decide) rfl
  have Hlp := hid hlp
  have HkA := hid ((hx2'.keep fun b => b = p).trans hk3)
  have hsz3 : Hid (w2.heap.size = (w2.setCell ⟨p, 2, none⟩ (.int .i64 (s.next + 1))).heap.size) := hid (by simp [World.setCell])
  have hw0 : Hid (W0.heap.size ≤ w2.heap.size) := hid (hx.trans hx2).size
  have Heq := hid h2.eq
  have Hlo := hid h2.lo
  clear hB hI hx1 hx hx2 hx2' h2 hB2 hI2 b62 hk3 hwr hlp Hb6 H Hx1
  go_wp2
  generalize w2.setCell ⟨p, 2, none⟩ (.int .i64 (s.next + 1)) = W3 at *
  clear q2 q4 f2
  have g3 := hP3.kc (X := fun k => (Value.slice a4 ks.length c4).ownBlock = some k) Hlp.out 3 rfl
  have g4 := hP3.kc (X := fun k => (Value.slice a4 ks.length c4).ownBlock = some k) Hlp.out 4 rfl
  simp only [List.getElem_toArray, List.getElem_cons_zero, List.getElem_cons_succ] at g3 g4
  have hb8 : ¬ (Value.slice a4 ks.length c4).ownBlock = some b8 := fun e => by
    obtain ⟨c, hc⟩ := own_ty hL3 e
    exact hB3.ty_ne hc (by decide) rfl
  have d0 := hB3.kc (X := fun k => (Value.slice a4 ks.length c4).ownBlock = some k) hb8 0 rfl
  have d1 := hB3.kc (X := fun k => (Value.slice a4 ks.length c4).ownBlock = some k) hb8 1 rfl
  have d2 := hB3.kc (X := fun k => (Value.slice a4 ks.length c4).ownBlock = some k) hb8 2 rfl
  have d3 := hB3.kc (X := fun k => (Value.slice a4 ks.length c4).ownBlock = some k) hb8 3 rfl
  have d4 := hB3.kc (X := fun k => (Value.slice a4 ks.length c4).ownBlock = some k) hb8 4 rfl
  obtain ⟨ti, hi, hz0, hz1, hz2⟩ := info_parts kept_info
  have HP3 := hid hP3
  have HB3 := hid hB3
  have HI3 := hid hI3
  have HL3 := hid hL3
  have HN3 := hid hN3
  have Hb63 := hid b63
  have Hb8' := hid hb8
  clear hP3 hB3 hI3 hL3 hN3 b63 hb8
  refine wp_flowT (fun k => (Value.slice a4 ks.length c4).ownBlock = some k) (by kernel_rfl) (by kernel_rfl) ?_
  repeat (apply FlowT.d; (intro w1 hk; unfold does; go_simp; (try go_ints); (first | exact DetR.mk | (simp only [↓IntWalk.iteOmega, Oper.doesUpon_value]; exact DetR.mk) | (simp only [↓IntWalk.iteOmega]; go_simp; (try go_ints); exact DetR.mk))); simp only [Act.put, List.setIfInBounds_toArray, List.set_cons_zero, List.set_cons_succ])
  obtain ⟨NC, hNC⟩ : ∃ NC, NC = kcells (⟨s.frame kind nums, .slice a1 nums.length c1⟩, s.now) := ⟨_, rfl⟩
  have HNC := hid hNC
  clear hNC
  refine FlowT.s (fun v' w' => ∃ b, v' = .slice (some ⟨b, 0, none⟩) 1 1 ∧ Blk w' b #[.int .u8 (kind.toNat : Int), .int .i64 s.fr, .int .i64 s.to, .int .i64 s.next, .slice a1 nums.length c1, .int .i64 s.now] 97 ∧ Ext W3 w') 11 rfl (by kernel_rfl) (fun _ _ _ ⟨b, h1, h2, h3⟩ he => ⟨b, h1, h2.ext he, h3.trans he⟩) (fun w4 hC hk => ?_) (fun v2 hv2 => ?_)
  · unfold does
    go_simp
    exact ⟨hk.alloc _, _, rfl, Blk.new _ _ _, hC.alloc _⟩
  obtain ⟨_, b, rfl, _, _⟩ := hv2
  simp only [Act.put, List.setIfInBounds_toArray, List.set_cons_zero, List.set_cons_succ]
  refine FlowT.s (fun v' w' => w'.ownsRow 0 97 6 v' (ks.length + 1) (ks.flatMap kcells ++ NC) ∧ ∀ k, v'.ownBlock = some k → (Value.slice a4 ks.length c4).ownBlock = some k ∨ W3.heap.size ≤ k) 12 rfl (by kernel_rfl) (fun _ _ _ h he => ⟨row_keep h.1 (he.keep fun _ => False) (fun _ _ h => h), h.2⟩) (fun w5 hC hk => ?_) (fun v3 hv3 => ?_)
  · obtain ⟨b', hb', hblk, hx⟩ := hC
    obtain rfl : b = b' := by simpa using hb'
    refine does_append rfl (.tmp 57) (.tmp 64) 86 rfl 97 ti _ 6 64 Tryd.underlying86 hi hz0 hz1 hz2 rfl (by decide) (.slice a4 ks.length c4) ks.length (ks.flatMap kcells) rfl (own_base (row_keep HL3.out (hx.keep fun _ => False) (fun _ _ h => h)) (Nat.zero_le _)) ⟨b, 0, none⟩ 1 1 NC rfl (by rw [HNC.out]; rfl) ?_ (by rw [HNC.out, fr_cells]; simp [Value.oneCell']) (by unfold maxLen; omega) (by omega) (fun v' w' ho hkk hb2 => ?_)
    · intro j u hj
      rw [HNC.out, fr_cells] at hj
      rw [show (⟨b, 0, none⟩ : Addr).add j = ⟨b, j, none⟩ from by by_cases h0 : j = 0 <;> simp [Addr.add, h0], hblk.cell j]
      simpa [Snd.frame] using hj
    · refine ⟨(hx.keep _).trans hkk, ho, fun k hk' => ?_⟩
      rcases hb2 k hk' with h1 | h1
      · exact .inl h1
      · exact .inr (Nat.le_trans hx.size h1)
  obtain ⟨a5, c5, rfl⟩ : ∃ a5 c5, v3 = .slice a5 (ks.length + 1) c5 := by
    obtain ⟨_, h1, _⟩ := hv3
    exact row_form h1
  clear hv3
  simp only [Act.put, List.setIfInBounds_toArray, List.set_cons_zero, List.set_cons_succ]
  repeat (apply FlowT.d; (intro w1 hk; unfold does; go_simp; (try go_ints); (first | exact DetR.mk | (simp only [↓IntWalk.iteOmega, Oper.doesUpon_value]; exact DetR.mk) | (simp only [↓IntWalk.iteOmega]; go_simp; (try go_ints); exact DetR.mk))); simp only [Act.put, List.setIfInBounds_toArray, List.set_cons_zero, List.set_cons_succ])
  refine FlowT.last (fun _ w' => ∃ w6, w6.ownsRow 0 97 6 (.slice a5 (ks.length + 1) c5) (ks.length + 1) (ks.flatMap kcells ++ NC) ∧ (∀ k, (Value.slice a5 (ks.length + 1) c5).ownBlock = some k → (Value.slice a4 ks.length c4).ownBlock = some k ∨ W3.heap.size ≤ k) ∧ Keep (fun k => (Value.slice a4 ks.length c4).ownBlock = some k) W3 w6 ∧ w' = w6.setCell ⟨p, 4, none⟩ (.slice a5 (ks.length + 1) c5)) 15 rfl (by kernel_rfl) (by kernel_rfl) (fun w6 hC hk => ?_) (fun v w7 hR => ?_)
  · have q4 := g4 w6 hk
    have f4 := (HP3.out.keep hk Hlp.out).free 4
    unfold does
    go_simp
    exact ⟨w6, hC.1, hC.2, hk, rfl⟩
  obtain ⟨w6, ho, hb3, hk6, rfl⟩ := hR
  simp only [Act.put]
  clear g3 g4 d0 d1 d2 d3 d4
  have hP6 := HP3.out.keep hk6 Hlp.out
  have hne5 : ∀ k, (Value.slice a5 (ks.length + 1) c5).ownBlock = some k → k ≠ p := fun k hk e => by
    obtain ⟨c, hc⟩ := own_ty ho hk
    exact hP6.ty_ne hc (by decide) e.symm
  have hP7 := hP6.set 4 (.slice a5 (ks.length + 1) c5)
  simp only [List.setIfInBounds_toArray, List.set_cons_zero, List.set_cons_succ] at hP7
  have hk7 : Keep (fun k => k = p ∨ (Value.slice a4 ks.length c4).ownBlock = some k) W3 (w6.setCell ⟨p, 4, none⟩ (.slice a5 (ks.length + 1) c5)) := (hk6.mono fun k _ h => .inr h).set (.inl rfl) _
  have hwr : Wr W3 n0 t fun k => k = p ∨ (Value.slice a4 ks.length c4).ownBlock = some k := (Wr.blk HP3.out (by decide) Hlo.out).or (Wr.row HL3.out (by decide))
  have hL7 := row_keep (X := fun k => k = p) ho (Keep.set (X := fun k => k = p) (Keep.refl _ w6) rfl _) (w' := w6.setCell ⟨p, 4, none⟩ (.slice a5 (ks.length + 1) c5)) hne5
  have hB7 := HB3.out.keep hk7 fun e => e.elim (fun e => HP3.out.ty_ne HB3.out (by decide) e.symm) Hb8'.out
  have hI7 := HI3.out.keep hk7 fun b hb e => by
    obtain ⟨c, hc⟩ := own_ty (show W3.ownsRow W0.heap.size 3 1 _ nums.length (icells nums) from HI3.out) hb
    rcases e with e | e
    · exact HP3.out.ty_ne hc (by decide) e.symm
    · obtain ⟨c', hc'⟩ := own_ty HL3.out e
      exact hc'.ty_ne hc (by decide) rfl
  have hN7 : ∀ x ∈ ks, x.1.At (w6.setCell ⟨p, 4, none⟩ (.slice a5 (ks.length + 1) c5)) n0 t := fun x hm => NumsAt.keep (HN3.out x hm) hk7 hwr
  have b67 := Hb63.out.keep hk7 fun e => e.elim (fun e => HP3.out.ty_ne Hb63.out (by decide) e.symm) fun e => by
    obtain ⟨c, hc⟩ := own_ty HL3.out e
    exact Hb63.out.ty_ne hc (by decide) rfl
  have HkB := hid (HkA.out.mono (Y := fun k => k = p ∨ (Value.slice a4 ks.length c4).ownBlock = some k) (fun k _ h => .inl h) |>.trans hk7)
  have hw0' : Hid (W0.heap.size ≤ (w6.setCell ⟨p, 4, none⟩ (.slice a5 (ks.length + 1) c5)).heap.size) := hid (by have := hk7.size; have := hsz3.out; have := hw0.out; omega)
  have hlo5 : Hid (∀ k, (Value.slice a5 (ks.length + 1) c5).ownBlock = some k → n0 ≤ k) := hid fun k hk => by
    rcases hb3 k hk with h1 | h1
    · exact (World.ownsRow.lt HL3.out k h1).1
    · have := Hn0.out; have := hw0.out; have := hsz3.out; have := Hs0.out; omega
  have Ha5 : Hid (∀ k, (Value.slice a5 (ks.length + 1) c5).ownBlock = some k → True) := hid fun _ _ => trivial
  clear ho hb3 hk6 hP6 hne5 hk7 hwr HkA HP3 HL3 HN3 HI3 HB3 Hb63 Hb8' Ha5
  generalize w6.setCell ⟨p, 4, none⟩ (.slice a5 (ks.length + 1) c5) = W7 at *
  have d0 := hB7.av 0 rfl
  have d1 := hB7.av 1 rfl
  have d2 := hB7.av 2 rfl
  have d3 := hB7.av 3 rfl
  have d4 := hB7.av 4 rfl
  have HC7 := hid (copied_any (s.frame kind nums) a1 c1 W7 (hI7.ints Hhi.out) hl)
  simp only [Snd.frame, frv] at HC7
  have HI7 := hid hI7
  have HP7 := hid hP7
  have HL7 := hid hL7
  have HN7 := hid hN7
  clear hI7 hP7 hL7 hN7 hB7
  go_wp2_with fail
  refine HC7.out.mono ?_
  intro e w8 hx
  obtain ⟨v9, rfl, hx8, hI8⟩ := hx
  obtain ⟨a9, c9, rfl⟩ := hI8.form
  have b68 := b67.ext hx8
  have e0 := b68.av 0 rfl
  have e1 := b68.av 1 rfl
  have e2 := b68.av 2 rfl
  have e3 := b68.av 3 rfl
  have e4 := b68.av 4 rfl
  have f6 := b68.free
  have hB6 := hid (store5 (b0 := .int .u8 (kind.toNat : Int)) (b1 := .int .i64 s.fr) (b2 := .int .i64 s.to) (b3 := .int .i64 s.next) (b4 := .slice a9 nums.length c9) b68)
  have hk6 := hid (store5_keep w8 w.heap.size (.int .u8 (kind.toNat : Int)) (.int .i64 s.fr) (.int .i64 s.to) (.int .i64 s.next) (.slice a9 nums.length c9))
  have Hb68 := hid b68
  have Hx8 := hid hx8
  have HI8 := hid hI8
  have Hb67 := hid b67
  have Hpl := hid hpl
  clear d0 d1 d2 d3 d4 HC7 b67 b68 hx8 hI8 hpl
  generalize hN : w.heap.size = N at *
  have HN := hid hN
  clear hN
  simp only [FV.val]
  go_wp2
  have c0 := hB6.out.av 0 rfl
  have c1' := hB6.out.av 1 rfl
  have c2 := hB6.out.av 2 rfl
  have c3 := hB6.out.av 3 rfl
  have c4' := hB6.out.av 4 rfl
  have hkN := hid ((Hx8.out.keep fun b => b = N).trans hk6.out)
  have hI9 := hid (HI8.out.keep hk6.out fun b hb e => by
    obtain ⟨c, hc⟩ := own_ty (show w8.ownsRow W7.heap.size 3 1 _ nums.length (icells nums) from HI8.out) hb
    exact Hb68.out.ty_ne hc (by decide) e.symm)
  clear hk6 hB6 Hx8 HI8
  generalize (((((w8.setCell ⟨N, 0, none⟩ (.int .u8 (kind.toNat : Int))).setCell ⟨N, 1, none⟩ (.int .i64 s.fr)).setCell ⟨N, 2, none⟩ (.int .i64 s.to)).setCell ⟨N, 3, none⟩ (.int .i64 s.next)).setCell ⟨N, 4, none⟩ (.slice a9 nums.length c9)) = w9 at *
  refine bodyPost_ret (v := .tuple #[(FV.mk ⟨kind, s.fr, s.to, s.next, nums⟩ (.slice a9 nums.length c9)).val, .nilIface]) (by simp [results, Tryd.results11, go_sem, c0, c1', c2, c3, c4']; rfl) rfl ⟨_, .slice a5 (ks.length + 1) c5, ks ++ [(⟨s.frame kind nums, .slice a1 nums.length c1⟩, s.now)], rfl, ?_, ?_, ?_⟩
  · have hwr : Wr W7 n0 t fun b => b = N := Wr.blk Hb67.out (by decide) (by have := Hn0.out; have := HN.out; omega)
    refine ⟨HP7.out.keep hkN.out (by have := Hpl.out; omega), ?_, fun x hx => ?_, ?_, Hlo.out⟩
    · have h1 := row_keep (own_rebase HL7.out hlo5.out) hkN.out fun b hb e => by
        obtain ⟨c, hc⟩ := own_ty HL7.out hb
        exact Hb67.out.ty_ne hc (by decide) e.symm
      rw [HNC.out] at h1
      simpa using h1
    · rcases List.mem_append.1 hx with hx | hx
      · exact NumsAt.keep (HN7.out x hx) hkN.out hwr
      · obtain rfl := List.mem_singleton.1 hx
        refine NumsAt.keep (NumsAt.of_row HI7.out Hhi.out fun b hb e => ?_) hkN.out hwr
        have h1 := (HI7.out.lt hb).1
        have h2 := Ht.out b e
        have h3 := Hs0.out
        have h4 := HN.out
        omega
    · simp [Snd.sent, Heq.out]
  · refine hI9.out.base ?_
    have := hw0'.out
    have := Hs0.out
    have := HN.out
    omega
  · refine Keep.tr HkB.out hkN.out fun b hb => .inl ?_
    have := HN.out
    omega
end Go.Proofs.YtkabgmohgjljkaaDoor


/- Links: what is answered is struck. -/
namespace Go.Proofs.YtkabgmohgjljkaaDoor
set_option linter.unusedSimpArgs false
set_option linter.unusedVariables false
open Go Go.RowKit

def kval (x : FV × Int) : Value := .agg #[.int .u8 (x.1.f.kind.toNat : Int), .int .i64 x.1.f.fr, .int .i64 x.1.f.to, .int .i64 x.1.f.seq, x.1.v, .int .i64 x.2]
theorem set_shift (l : List Value) (a0 a1 a2 a3 a4 a5 v : Value) (i : Nat) : (a0 :: a1 :: a2 :: a3 :: a4 :: a5 :: l).set (i + 6) v = a0 :: a1 :: a2 :: a3 :: a4 :: a5 :: l.set i v := rfl
theorem kset6 : ∀ (R : List (FV × Int)) (i : Nat) (y : FV × Int), i < R.length → ((((((R.flatMap kcells).set (i * 6) (.int .u8 (y.1.f.kind.toNat : Int))).set (i * 6 + 1) (.int .i64 y.1.f.fr)).set (i * 6 + 2) (.int .i64 y.1.f.to)).set (i * 6 + 3) (.int .i64 y.1.f.seq)).set (i * 6 + 4) y.1.v).set (i * 6 + 5) (.int .i64 y.2) = (R.set i y).flatMap kcells
  | [], i, y, h => by simp at h
  | x :: l, 0, y, h => by simp [kcells, FV.cells]
  | x :: l, i + 1, y, h => by
    have ih := kset6 l i y (by simpa using h)
    rw [List.set_cons_succ, List.flatMap_cons, List.flatMap_cons, ← ih]
    rw [show (i + 1) * 6 = i * 6 + 6 by omega, show i * 6 + 6 + 1 = i * 6 + 1 + 6 by omega, show i * 6 + 6 + 2 = i * 6 + 2 + 6 by omega, show i * 6 + 6 + 3 = i * 6 + 3 + 6 by omega, show i * 6 + 6 + 4 = i * 6 + 4 + 6 by omega, show i * 6 + 6 + 5 = i * 6 + 5 + 6 by omega]
    simp only [kcells, FV.cells, List.cons_append, List.nil_append, set_shift]
theorem kset5 (R : List (FV × Int)) (i : Nat) (x : FV × Int) (n : Int) (hx : R[i]? = some x) : (R.flatMap kcells).set (i * 6 + 5) (.int .i64 n) = (R.set i (x.1, n)).flatMap kcells := by
  have hi : i < R.length := by
    rcases Nat.lt_or_ge i R.length with h | h
    · exact h
    · rw [List.getElem?_eq_none h] at hx; cases hx
  rw [← kset6 R i (x.1, n) hi]
  have g : ∀ j v, (kcells x)[j]? = some v → j < 6 → (R.flatMap kcells)[i * 6 + j]? = some v := fun j v hv hj => (fm_get kcells 6 kcells_len R i j x hx hj).trans hv
  have s : ∀ (L : List Value) (k : Nat) (v : Value), L[k]? = some v → L.set k v = L := fun L k v h => by
    apply List.ext_getElem?
    intro j
    rw [List.getElem?_set]
    by_cases hkj : k = j
    · subst hkj
      rw [h]
      have : k < L.length := by
        rcases Nat.lt_or_ge k L.length with h1 | h1
        · exact h1
        · rw [List.getElem?_eq_none h1] at h; cases h
      simp [this]
    · simp [hkj]
  have g0 : (R.flatMap kcells)[i * 6]? = some (.int .u8 (x.1.f.kind.toNat : Int)) := g 0 _ rfl (by omega)
  simp only
  rw [s _ _ _ g0, s _ _ _ (g 1 _ rfl (by omega)), s _ _ _ (g 2 _ rfl (by omega)), s _ _ _ (g 3 _ rfl (by omega)), s _ _ _ (g 4 _ rfl (by omega))]

def store6 (w : World) (g i : Nat) (y : FV × Int) : World := (((((w.setCell ⟨g, i, none⟩ (.int .u8 (y.1.f.kind.toNat : Int))).setCell ⟨g, i + 1, none⟩ (.int .i64 y.1.f.fr)).setCell ⟨g, i + 2, none⟩ (.int .i64 y.1.f.to)).setCell ⟨g, i + 3, none⟩ (.int .i64 y.1.f.seq)).setCell ⟨g, i + 4, none⟩ y.1.v).setCell ⟨g, i + 5, none⟩ (.int .i64 y.2)
theorem store6_keep (w : World) (g i : Nat) (y : FV × Int) : Keep (fun b => b = g) w (store6 w g i y) :=
  have k : ∀ (u : World) j v, Keep (fun b => b = g) w u → Keep (fun b => b = g) w (u.setCell ⟨g, j, none⟩ v) := fun _ _ v h => h.set rfl v
  k _ _ _ (k _ _ _ (k _ _ _ (k _ _ _ (k _ _ _ (k _ _ _ (Keep.refl _ w))))))
theorem own_put6 {w : World} {base g n cap : Nat} {e : TypeId} {R : List (FV × Int)} (h : w.ownsRow base e 6 (.slice (some ⟨g, 0, none⟩) n cap) n (R.flatMap kcells)) (i : Nat) (hi : i < R.length) (y : FV × Int) : (store6 w g (i * 6) y).ownsRow base e 6 (.slice (some ⟨g, 0, none⟩) n cap) n ((R.set i y).flatMap kcells) := by
  have hl : (R.flatMap kcells).length = R.length * 6 := fm_len kcells 6 kcells_len R
  rw [← kset6 R i y hi]
  unfold store6
  exact own_set (own_set (own_set (own_set (own_set (own_set h _ (by omega) _) _ (by simp only [List.length_set]; omega) _) _ (by simp only [List.length_set]; omega) _) _ (by simp only [List.length_set]; omega) _) _ (by simp only [List.length_set]; omega) _) _ (by simp only [List.length_set]; omega) _
theorem own_k {w : World} {base g n cap : Nat} {e : TypeId} {R : List (FV × Int)} (h : w.ownsRow base e 6 (.slice (some ⟨g, 0, none⟩) n cap) n (R.flatMap kcells)) {i : Nat} {x : FV × Int} (hx : R[i]? = some x) :
    w.cell? ⟨g, i * 6, none⟩ = some (.int .u8 (x.1.f.kind.toNat : Int)) ∧ w.cell? ⟨g, i * 6 + 1, none⟩ = some (.int .i64 x.1.f.fr) ∧ w.cell? ⟨g, i * 6 + 2, none⟩ = some (.int .i64 x.1.f.to) ∧ w.cell? ⟨g, i * 6 + 3, none⟩ = some (.int .i64 x.1.f.seq) ∧ w.cell? ⟨g, i * 6 + 4, none⟩ = some x.1.v ∧ w.cell? ⟨g, i * 6 + 5, none⟩ = some (.int .i64 x.2) := by
  have c : ∀ j v, (kcells x)[j]? = some v → j < 6 → w.cell? ⟨g, i * 6 + j, none⟩ = some v := fun j v hv hj => own_get h _ ((fm_get kcells 6 kcells_len R i j x hx hj).trans hv)
  exact ⟨c 0 _ rfl (by omega), c 1 _ rfl (by omega), c 2 _ rfl (by omega), c 3 _ rfl (by omega), c 4 _ rfl (by omega), c 5 _ rfl (by omega)⟩

set_option maxRecDepth 100000 in
set_option maxHeartbeats 800000 in
theorem lackedf_any (x : FV × Int) (n : Int) (g : Nat) (w : World) (hg : w.cell? ⟨g, 0, none⟩ = some (.int .i64 n)) (hx : ∃ a l c, x.1.v = .slice a l c) :
    Calls Tryd.prog 42 #[kval x, .pointer (some ⟨g, 0, none⟩)] w fun e w' => e = .returned (.bool (decide (x.1.f.seq < n))) ∧ Ext w w' := by
  obtain ⟨a, l, c, hv⟩ := hx
  have hlt := cell_lt hg
  unfold kval
  rw [hv]
  clear hv
  go_enter Tryd.func42, Tryd.ntmps42
  go_wp2
  go_ret
  exact ⟨rfl, (Ext.refl w).alloc _⟩

/-- What is not answered below n. -/
def keptB (n : Int) (x : FV × Int) : Bool := decide (n ≤ x.1.f.seq)
def ackFn (g : Nat) : Value := .func (.func 42) #[] #[.pointer (some ⟨g, 0, none⟩)]

set_option maxRecDepth 100000 in
set_option maxHeartbeats 1600000 in
theorem lindf_any (lv : Value) (ks : List (FV × Int)) (n : Int) (g : Nat) (w : World) (n0 : Nat) (t : Option Nat) (hl : w.ownsRow n0 97 6 lv ks.length (ks.flatMap kcells)) (hn : ∀ x ∈ ks, x.1.At w n0 t) (hg : w.cell? ⟨g, 0, none⟩ = some (.int .i64 n)) (hb : ks.length ≤ 1000) :
    Calls Tryd.prog 56 #[lv, ackFn g] w fun e w' => Ext w w' ∧ ((e = .returned (.int .i64 (-1)) ∧ ∀ x ∈ ks, keptB n x = true) ∨ ∃ (i : Nat) (x : FV × Int), e = .returned (.int .i64 (i : Int)) ∧ ks[i]? = some x ∧ keptB n x = false ∧ ∀ j y, j < i → ks[j]? = some y → keptB n y = true) := by
  obtain ⟨a, c, hlv⟩ := row_form hl
  have Hl := hid hl
  have Hn := hid hn
  have Hg := hid hg
  have Hlv := hid hlv
  unfold ackFn
  rw [hlv]
  clear hl hn hg hlv
  go_enter Tryd.func56, Tryd.ntmps56
  go_wp2
  go_loopw [8] (fun t8 wr => ∃ k : Nat, t8 = .int .i64 (k : Int) ∧ k ≤ ks.length ∧ (∀ j y, j < k → ks[j]? = some y → keptB n y = true) ∧ Ext w wr) (fun t8 _ => ks.length - (intOf t8).toNat)
  case atStart => exact ⟨0, rfl, Nat.zero_le _, fun j y h => by omega, Ext.refl _⟩
  case round =>
    obtain ⟨k, rfl, hk, hne, hx⟩ := hrel
    have Hne := hid hne
    clear hne
    by_cases hlt : k < ks.length
    · have hlr := row_keep Hl.out (hx.keep fun _ => False) (fun _ _ h => h)
      obtain ⟨gb, cp, he⟩ := own_some hlr (by omega)
      have he2 := Hlv.out.symm.trans he
      simp only [Value.slice.injEq, true_and] at he2
      obtain ⟨rfl, rfl⟩ := he2
      rw [he] at hlr
      have hxk : ks[k]? = some (ks[k]'hlt) := List.getElem?_eq_getElem hlt
      obtain ⟨x, hxd⟩ : ∃ x, x = ks[k]'hlt := ⟨_, rfl⟩
      rw [← hxd] at hxk
      have Hxk := hid hxk
      have hm : x ∈ ks := List.mem_of_getElem? hxk
      obtain ⟨c0, c1, c2, c3, c4, c5⟩ := own_k hlr hxk
      obtain ⟨av, cv, _, hv, _⟩ := (Hn.out x hm).form
      rw [hv] at c4
      have HF := fun w1 (x1 : Ext w w1) => hid (lackedf_any x n g w1 (x1.cellx Hg.out) ⟨_, _, _, hv⟩)
      unfold kval at HF
      rw [hv] at HF
      have HB : Hid (keptB n x = !decide (x.1.f.seq < n)) := hid (by unfold keptB; by_cases h : n ≤ x.1.f.seq <;> simp [h] <;> omega)
      clear hlr hxd hxk hm he hv
      cases hf : decide (x.1.f.seq < n) with
      | true =>
        have Hf := hid (show keptB n x = false by rw [HB.out, hf]; rfl)
        rw [hf] at HF
        clear hf HB
        go_wp2_with fail
        refine (HF _ hx).out.mono ?_
        intro e w1 hx1
        obtain ⟨rfl, hx1⟩ := hx1
        go_wp2
        go_ret
        exact ⟨hx.trans hx1, .inr ⟨k, x, rfl, Hxk.out, Hf.out, Hne.out⟩⟩
      | false =>
        have Hf := hid (show keptB n x = true by rw [HB.out, hf]; rfl)
        rw [hf] at HF
        clear hf HB
        go_wp2_with fail
        refine (HF _ hx).out.mono ?_
        intro e w1 hx1
        obtain ⟨rfl, hx1⟩ := hx1
        have hx2 := hx.trans hx1
        clear hx hx1 HF c0 c1 c2 c3 c4 c5
        go_wp2
        go_roundw
        case rel => exact ⟨k + 1, by go_num, by omega, fun j y hj hy => by
          by_cases hjk : j = k
          · subst hjk
            obtain rfl := Option.some.inj (Hxk.out.symm.trans hy)
            exact Hf.out
          · exact Hne.out j y (by omega) hy, hx2⟩
        case measure => simp [intOf]; omega
    · obtain rfl : k = ks.length := by omega
      go_wp2
      go_ret
      exact ⟨hx, .inl ⟨rfl, fun x hm => by
        obtain ⟨j, hj, e⟩ := List.mem_iff_getElem.1 hm
        exact Hne.out j x hj (by rw [List.getElem?_eq_getElem hj, e])⟩⟩
end Go.Proofs.YtkabgmohgjljkaaDoor


/- Links: what is answered is struck, in place. -/
namespace Go.Proofs.YtkabgmohgjljkaaDoor
set_option linter.unusedSimpArgs false
set_option linter.unusedVariables false
open Go Go.RowKit

theorem mem_zeroCells {z : Array Value} {n : Nat} {u : Value} (h : u ∈ (Builtin.zeroCells z n).toList) : u ∈ z.toList := by
  obtain ⟨i, hi, e⟩ := List.mem_iff_getElem.1 h
  simp only [Builtin.zeroCells] at e
  rw [← e]
  simp only [Array.getElem_toList, Array.getElem_map, Array.getElem_range]
  have hz : 0 < z.size := by
    rcases Nat.eq_zero_or_pos z.size with h0 | h0
    · rw [Array.length_toList, size_zeroCells, h0] at hi; simp at hi
    · exact h0
  have hlt := Nat.mod_lt i hz
  rw [getElem!_pos z _ hlt]
  simp
/-- clear of n elements in a row of one's own. -/
theorem run_clear_row {P : Program} (w : World) (t ty e : TypeId) (i : TypeInfo) (z : Value) (ht : P.underlying t = some (.slice e)) (hi : P.info? e = some i) (hz : i.zero = some z) (h1 : ∀ u ∈ z.cells.toList, u.oneCell' = true)
    (g off n cap : Nat) (hn : 0 < n) (c : Array Value) (hb : Blk w g c e) (hfit : off + n * z.cells.size ≤ c.size) :
    (Builtin.clear_ #[t] ty #[.slice (some ⟨g, off, none⟩) n cap]).run P w = .ok (.tuple #[]) (w.setRow g (c.toList.take off ++ (Builtin.zeroCells z.cells n).toList ++ c.toList.drop (off + n * z.cells.size)).toArray) := by
  obtain ⟨k, rfl⟩ : ∃ k, n = k + 1 := ⟨n - 1, by omega⟩
  have hl : (Builtin.zeroCells z.cells (k + 1)).toList.length = (k + 1) * z.cells.size := by rw [Array.length_toList, size_zeroCells]
  have hst := run_storeCells_at P g off e (Builtin.zeroCells z.cells (k + 1)).toList 0 c w hb (by rw [hl]; simpa using hfit) (fun u hu => h1 u (mem_zeroCells hu))
  rw [hl] at hst
  simp only [Nat.add_zero] at hst
  simp [Builtin.clear_, run_underlying ht, zeroValue, typeInfo, hi, hz, hst, Result.andThen]

theorem own_ne_lt {w : World} {base g n cap size : Nat} {e : TypeId} {xs : List Value} (h : w.ownsRow base e size (.slice (some ⟨g, 0, none⟩) n cap) n xs) : g < w.heap.size := (World.ownsRow.lt h g rfl).2
theorem take_set_succ {α : Type} (R : List α) (i : Nat) (x : α) (hi : i < R.length) : (R.set i x).take (i + 1) = R.take i ++ [x] := by
  apply List.ext_getElem?
  intro k
  rw [List.getElem?_take, List.getElem?_set]
  by_cases h1 : k < i
  · rw [if_pos (by omega), if_neg (by omega), List.getElem?_append_left (by rw [List.length_take]; omega), List.getElem?_take, if_pos h1]
  · by_cases h2 : k = i
    · subst h2
      rw [if_pos (by omega), if_pos rfl, if_pos hi, List.getElem?_append_right (by rw [List.length_take]; omega), List.length_take, Nat.min_eq_left (by omega)]
      simp
    · rw [if_neg (by omega), List.getElem?_eq_none (by simp; omega)]
def kz : Array Value := #[.int .u8 0, .int .i64 0, .int .i64 0, .int .i64 0, .slice none 0 0, .int .i64 0]
theorem store6_blk {w : World} {b : Nat} {a0 a1 a2 a3 a4 a5 : Value} {e : TypeId} (h : Blk w b #[a0, a1, a2, a3, a4, a5] e) (y : FV × Int) : Blk (store6 w b 0 y) b #[.int .u8 (y.1.f.kind.toNat : Int), .int .i64 y.1.f.fr, .int .i64 y.1.f.to, .int .i64 y.1.f.seq, y.1.v, .int .i64 y.2] e := by
  unfold store6
  have := (((((h.set 0 (.int .u8 (y.1.f.kind.toNat : Int))).set 1 (.int .i64 y.1.f.fr)).set 2 (.int .i64 y.1.f.to)).set 3 (.int .i64 y.1.f.seq)).set 4 y.1.v).set 5 (.int .i64 y.2)
  simpa using this
theorem filter_snoc (ks : List (FV × Int)) (n : Int) (j : Nat) (x : FV × Int) (hx : ks[j]? = some x) : (ks.take (j + 1)).filter (keptB n) = (ks.take j).filter (keptB n) ++ if keptB n x = true then [x] else [] := by
  rw [List.take_add_one, hx, List.filter_append]
  simp only [Option.toList, List.filter_cons, List.filter_nil]

set_option maxRecDepth 100000 in
set_option maxHeartbeats 3200000 in
theorem ldelf_any (lv : Value) (ks : List (FV × Int)) (n : Int) (g : Nat) (w : World) (n0 : Nat) (t : Option Nat) (hl : w.ownsRow n0 97 6 lv ks.length (ks.flatMap kcells)) (hn : ∀ x ∈ ks, x.1.At w n0 t) (hg : w.cell? ⟨g, 0, none⟩ = some (.int .i64 n)) (hgi : IsInt w g) (hb : ks.length ≤ 1000) :
    Calls Tryd.prog 41 #[lv, ackFn g] w fun e w' => ∃ lv', e = .returned lv' ∧ w'.ownsRow n0 97 6 lv' (ks.filter (keptB n)).length ((ks.filter (keptB n)).flatMap kcells) ∧ Keep (fun b => lv.ownBlock = some b) w w' ∧ lv'.ownBlock = lv.ownBlock := by
  have HI := hid (lindf_any lv ks n g w n0 t hl hn hg hb)
  obtain ⟨a, c, hlv⟩ := row_form hl
  have Hl := hid hl
  have Hn := hid hn
  have Hg := hid hg
  have Hgi := hid hgi
  subst hlv
  unfold ackFn at HI ⊢
  clear hl hn hg hgi
  go_enter Tryd.func41, Tryd.ntmps41
  go_wp2_with fail
  refine HI.out.mono ?_
  intro e w1 hx
  obtain ⟨hx1, hx⟩ := hx
  rcases hx with ⟨rfl, hall⟩ | ⟨i0, x0, rfl, hx0, hd0, hlow⟩
  · have hf := hid (List.filter_eq_self.2 hall)
    have hR := hid (row_keep Hl.out (hx1.keep fun _ => False) (fun _ _ h => h))
    clear HI hall
    go_wp2
    go_ret
    exact ⟨_, rfl, by rw [hf.out]; exact hR.out, hx1.keep _, rfl⟩
  · have hi0 : i0 < ks.length := by
      rcases Nat.lt_or_ge i0 ks.length with h | h
      · exact h
      · rw [List.getElem?_eq_none h] at hx0; cases hx0
    obtain ⟨gb, cp, he⟩ := own_some Hl.out (by omega)
    simp only [Value.slice.injEq, true_and] at he
    obtain ⟨rfl, rfl⟩ := he
    obtain ⟨cu, hcu, _, hcap, hmx, hcs, _⟩ := own_blk Hl.out
    have hstart : ks.take i0 = (ks.take (i0 + 1)).filter (keptB n) := by
      rw [List.take_add_one, hx0, List.filter_append]
      simp only [Option.toList, List.filter_cons, hd0, List.filter_nil]
      rw [List.filter_eq_self.2 fun x hx => ?_]
      · simp
      · obtain ⟨j, hj, e⟩ := List.mem_iff_getElem.1 hx
        rw [List.length_take] at hj
        rw [List.getElem_take] at e
        exact hlow j x (by omega) (by rw [List.getElem?_eq_getElem (by omega), e])
    have hr0 := hid (row_keep Hl.out (hx1.keep fun _ => False) (fun _ _ h => h))
    have Hk0 := hid (hx1.keep fun b => (Value.slice (some ⟨gb, 0, none⟩) ks.length c).ownBlock = some b)
    have Hstart := hid hstart
    have Hcap := hid hcap
    have hmx' : (c : Int) ≤ 9223372036854775807 := by unfold maxLen at hmx; omega
    have Hgne : Hid (g ≠ gb) := hid fun e => by subst e; exact IsInt.not hcu (by decide) Hgi.out
    clear HI hx0 hd0 hlow hstart hcu hmx hcs hx1 hcap
    have hcl : (ks.length : Int) ≤ (c : Int) := by have := Hcap.out; omega
    have hi1 : ((i0 : Int) == -1) = false := beq_eq_false_iff_ne.2 (by omega)
    go_wp2
    clear hi1
    go_loopw [5, 6] (fun t5 t6 wr => ∃ (i j : Nat) (R : List (FV × Int)), t5 = .int .i64 (i : Int) ∧ t6 = .int .i64 (j : Int) ∧ i < j ∧ j ≤ ks.length ∧ R.length = ks.length ∧ R.take i = (ks.take j).filter (keptB n) ∧ R.drop j = ks.drop j ∧
      wr.ownsRow n0 97 6 (.slice (some ⟨gb, 0, none⟩) ks.length c) ks.length (R.flatMap kcells) ∧ (∀ x ∈ R, x ∈ ks) ∧ Keep (fun b => (Value.slice (some ⟨gb, 0, none⟩) ks.length c).ownBlock = some b) w wr) (fun _ t6 _ => ks.length - (intOf t6).toNat)
    case atStart => exact ⟨i0, i0 + 1, ks, rfl, rfl, by omega, by omega, rfl, Hstart.out, rfl, hr0.out, fun _ h => h, Hk0.out⟩
    case round =>
      obtain ⟨i, j, R, rfl, rfl, hij, hj, hRl, hT, hD, hrow, hmem, hkp⟩ := hrel
      have HRl := hid hRl
      have HT := hid hT
      have HD := hid hD
      have Hmem := hid hmem
      clear hRl hT hD hmem hr0 Hk0 Hstart
      by_cases hlt : j < ks.length
      · have hxj : R[j]? = some (ks[j]'hlt) := by
          have := congrArg (fun l => l[0]?) HD.out
          simpa [List.getElem?_drop, List.getElem?_eq_getElem hlt] using this
        obtain ⟨x, hxd⟩ : ∃ x, x = ks[j]'hlt := ⟨_, rfl⟩
        rw [← hxd] at hxj
        have hxk : ks[j]? = some x := by rw [hxd]; exact List.getElem?_eq_getElem hlt
        have hm : x ∈ ks := List.mem_of_getElem? hxk
        obtain ⟨c0, c1, c2, c3, c4, c5⟩ := own_k hrow hxj
        obtain ⟨av, cv, _, hv, _⟩ := (Hn.out x hm).form
        have Hv := hid hv
        have hcg : ∀ w1, Ext wr w1 → w1.cell? ⟨g, 0, none⟩ = some (.int .i64 n) := fun w1 x1 => x1.cellx (hkp.cellx Hg.out (fun e => by
          simp only [Value.ownBlock, Option.some.injEq] at e
          exact Hgne.out e.symm))
        have HF := fun w1 (x1 : Ext wr w1) => hid (lackedf_any x n g w1 (hcg w1 x1) ⟨_, _, _, hv⟩)
        have HB : Hid (keptB n x = !decide (x.1.f.seq < n)) := hid (by unfold keptB; by_cases h : n ≤ x.1.f.seq <;> simp [h] <;> omega)
        have hW := hid (Blk.new wr #[.int .u8 (x.1.f.kind.toNat : Int), .int .i64 x.1.f.fr, .int .i64 x.1.f.to, .int .i64 x.1.f.seq, .slice av x.1.f.nums.length cv, .int .i64 x.2] 97)
        have hWx := hid ((Ext.refl wr).alloc (.cells #[.int .u8 (x.1.f.kind.toNat : Int), .int .i64 x.1.f.fr, .int .i64 x.1.f.to, .int .i64 x.1.f.seq, .slice av x.1.f.nums.length cv, .int .i64 x.2] 97))
        have hrlt : Hid (gb < wr.heap.size) := hid (own_ne_lt hrow)
        unfold kval at HF
        have Hrow := hid hrow
        have Hkp := hid hkp
        have Hxk := hid hxk
        have Hxj := hid hxj
        have hji : (i : Int) < (ks.length : Int) := by omega
        rw [hv] at c4 HF
        clear hxd hm hv hcg hrow hkp hxk hxj
        cases hf : decide (x.1.f.seq < n) with
        | true =>
          have Hf := hid (show keptB n x = false by rw [HB.out, hf]; rfl)
          rw [hf] at HF
          clear hf HB
          go_wp2_with fail
          refine (HF _ hWx.out).out.mono ?_
          intro e w2 hx2
          obtain ⟨rfl, hx2⟩ := hx2
          have hx2' := hWx.out.trans hx2
          clear c0 c1 c2 c3 c4 c5 HF hW hWx hx2
          go_wp2
          go_roundw
          case rel => exact ⟨i, j + 1, R, rfl, by go_num, by omega, by omega, HRl.out, by rw [filter_snoc ks n j x Hxk.out, Hf.out, HT.out]; simp, by rw [← List.drop_drop, HD.out, List.drop_drop], row_keep Hrow.out (hx2'.keep fun _ => False) (fun _ _ h => h), Hmem.out, Hkp.out.ext_r hx2'⟩
          case measure => simp [intOf]; omega
        | false =>
          have Hf := hid (show keptB n x = true by rw [HB.out, hf]; rfl)
          rw [hf] at HF
          clear hf HB
          go_wp2_with fail
          refine (HF _ hWx.out).out.mono ?_
          intro e w2 hx2
          obtain ⟨rfl, hx2⟩ := hx2
          have hB2 := hW.out.ext hx2
          have d0 := hB2.av 0 rfl
          have d1 := hB2.av 1 rfl
          have d2 := hB2.av 2 rfl
          have d3 := hB2.av 3 rfl
          have d4 := hB2.av 4 rfl
          have d5 := hB2.av 5 rfl
          have hx2' := hWx.out.trans hx2
          have hrow2 := row_keep Hrow.out (hx2'.keep fun _ => False) (fun _ _ h => h)
          have hiR : i < R.length := by have := HRl.out; omega
          obtain ⟨y0, y1, y2, y3, y4, y5⟩ := own_k hrow2 (List.getElem?_eq_getElem hiR)
          have hfr := own_free hrow2
          have hput := hid (own_put6 hrow2 i hiR x)
          have hkp2 := hid ((Hkp.out.ext_r hx2').trans ((store6_keep w2 gb (i * 6) x).mono (Y := fun b => (Value.slice (some ⟨gb, 0, none⟩) ks.length c).ownBlock = some b) (fun b _ e => by rw [e]; rfl)))
          unfold store6 at hput hkp2
          rw [Hv.out] at hput hkp2
          generalize hyv : R[i] = y at *
          clear hyv c0 c1 c2 c3 c4 c5 HF hW hWx hx2 hB2 hrow2
          go_wp2
          go_roundw
          case rel => exact ⟨i + 1, j + 1, R.set i x, by go_num, by go_num, by omega, by omega, by rw [List.length_set]; exact HRl.out, by rw [take_set_succ R i x hiR, filter_snoc ks n j x Hxk.out, Hf.out, HT.out]; simp, by rw [List.drop_set_of_lt (by omega), ← List.drop_drop, HD.out, List.drop_drop], hput.out, fun y hy => (List.mem_or_eq_of_mem_set hy).elim (Hmem.out y) (fun e => by rw [e]; exact List.mem_of_getElem? Hxk.out), hkp2.out⟩
          case measure => simp [intOf]; omega
      · obtain rfl : j = ks.length := by omega
        have hTf : R.take i = ks.filter (keptB n) := by rw [HT.out, List.take_length]
        have hRi : (ks.filter (keptB n)).length = i := by rw [← hTf, List.length_take, HRl.out]; omega
        obtain ⟨cu, hcu, hb0, hcap, hmx, hcs, htk⟩ := own_blk hrow
        obtain ⟨ti, hi, hz0, hz1, hz2⟩ := info_parts kept_info
        have hsz : i * 6 + (ks.length - i) * 6 ≤ cu.size := by rw [hcs]; omega
        have hclr := fun ty => run_clear_row (P := Tryd.prog) wr 86 ty 97 ti _ Tryd.underlying86 hi hz0 (by simp [Value.cells, Value.oneCell']) gb (i * 6) (ks.length - i) (c - i) (by omega) cu hcu hsz
        obtain ⟨cu', hcu'⟩ : ∃ cu', cu' = (cu.toList.take (i * 6) ++ (Builtin.zeroCells (Value.agg #[.int .u8 0, .int .i64 0, .int .i64 0, .int .i64 0, .slice none 0 0, .int .i64 0]).cells (ks.length - i)).toList ++ cu.toList.drop (i * 6 + (ks.length - i) * (Value.agg #[.int .u8 0, .int .i64 0, .int .i64 0, .int .i64 0, .slice none 0 0, .int .i64 0]).cells.size)).toArray := ⟨_, rfl⟩
        rw [← hcu'] at hclr
        have hsz' : cu'.size = c * 6 := by
          have h6 : (Value.agg #[.int .u8 0, .int .i64 0, .int .i64 0, .int .i64 0, .slice none 0 0, .int .i64 0]).cells.size = 6 := rfl
          rw [hcu', List.size_toArray, List.length_append, List.length_append, List.length_take, List.length_drop, Array.length_toList, Array.length_toList, size_zeroCells, h6, hcs]
          omega
        have htk' : cu'.toList.take (i * 6) = (ks.filter (keptB n)).flatMap kcells := by
          rw [hcu', List.toList_toArray, List.append_assoc, List.take_append_of_le_length (by rw [List.length_take, Array.length_toList]; omega), List.take_take, Nat.min_self, ← hTf, ← fm_take kcells 6 kcells_len, ← htk, List.take_take, Nat.min_eq_left (by omega)]
        have hfin := hid (own_of_blk (setRow_blk hcu cu') hb0 (show i ≤ c by omega) hmx hsz' htk')
        have hkf := hid (hkp.trans ((setRow_keep wr gb cu').mono (Y := fun b => (Value.slice (some ⟨gb, 0, none⟩) ks.length c).ownBlock = some b) (fun b _ e => by rw [e]; rfl)))
        have HRi := hid hRi
        have hci : (i : Int) ≤ (ks.length : Int) := by omega
        clear hTf hRi hcu hb0 hcap hmx hcs htk hi hz0 hz1 hz2 hsz hcu' hsz' htk' hrow hkp HRl HT HD Hmem
        go_wp2
        go_ret
        exact ⟨.slice (some ⟨gb, 0, none⟩) i c, rfl, by rw [HRi.out]; exact hfin.out, hkf.out, rfl⟩
end Go.Proofs.YtkabgmohgjljkaaDoor


/- Links: what is answered; frames are appended. -/
namespace Go.Proofs.YtkabgmohgjljkaaDoor
set_option linter.unusedSimpArgs false
set_option linter.unusedVariables false
open Go Go.RowKit

theorem Snd.acked_eq {s : Snd} {ks : List (FV × Int)} (h : s.l = ks.map fun x => (x.1.f, x.2)) (n : Int) : (s.acked n).l = (ks.filter (keptB n)).map fun x => (x.1.f, x.2) := by
  simp only [Snd.acked, h, List.filter_map]
  rfl

set_option maxRecDepth 100000 in
set_option maxHeartbeats 1600000 in
theorem acked_any (s : Snd) (n : Int) (w : World) (n0 : Nat) (t : Option Nat) (p : Nat) (lv : Value) (ks : List (FV × Int)) (h : SndAt w n0 t p s lv ks) (hb : s.l.length ≤ 200) :
    Calls Tryd.prog 20 #[.pointer (some ⟨p, 0, none⟩), .int .i64 n] w fun e w' => e = .returned (.tuple #[]) ∧ ∃ lv' ks', SndAt w' n0 t p (s.acked n) lv' ks' ∧ Keep (fun b => b = p ∨ lv.ownBlock = some b) w w' := by
  have hx0 : Ext w (w.alloc (.cells #[.int .i64 n] 3)) := (Ext.refl w).alloc _
  have hB := Blk.new w #[.int .i64 n] 3
  have h0 := h.ext hx0
  have hbk : ks.length ≤ 1000 := by have := h.len; omega
  have HD := hid (ldelf_any lv ks n w.heap.size _ n0 t h0.hl h0.hn (hB.av 0 rfl) ⟨_, _, hB⟩ hbk)
  unfold ackFn at HD
  have H0 := hid h0
  have hlt := h.hp.lt
  have c4 := h.hp.av 4 rfl
  obtain ⟨a4, cc, rfl⟩ := row_form h.hl
  have Hx0 := hid hx0
  clear h h0 hx0 hB
  go_enter Tryd.func20, Tryd.ntmps20
  go_wp2_with fail
  refine HD.out.mono ?_
  intro e w1 hx
  obtain ⟨lv', rfl, hrow, hk, hob⟩ := hx
  obtain ⟨a5, c5, rfl⟩ := row_form hrow
  have hpn : ¬ (Value.slice a4 ks.length cc).ownBlock = some p := fun e => by
    obtain ⟨c, hc⟩ := own_ty H0.out.hl e
    exact H0.out.hp.ty_ne hc (by decide) rfl
  have hp1 := H0.out.hp.keep hk hpn
  have d4 := hp1.av 4 rfl
  have f4 := hp1.free
  have hp2 := hp1.set 4 (.slice a5 (ks.filter (keptB n)).length c5)
  simp only [List.setIfInBounds_toArray, List.set_cons_zero, List.set_cons_succ] at hp2
  have hk2 : Keep (fun b => b = p) w1 (w1.setCell ⟨p, 4, none⟩ (.slice a5 (ks.filter (keptB n)).length c5)) := Keep.set (X := fun b => b = p) (Keep.refl _ _) rfl _
  have hwr : Wr w1 n0 t fun b => b = p := Wr.blk hp1 (by decide) H0.out.lo
  have hR : SndAt (w1.setCell ⟨p, 4, none⟩ (.slice a5 (ks.filter (keptB n)).length c5)) n0 t p (s.acked n) (.slice a5 (ks.filter (keptB n)).length c5) (ks.filter (keptB n)) := by
    refine ⟨hp2, row_keep hrow hk2 fun b hb e => ?_, fun x hx => NumsAt.keep (NumsAt.keep (H0.out.hn x (List.mem_filter.1 hx).1) hk (Wr.row H0.out.hl (by decide))) hk2 hwr, Snd.acked_eq H0.out.eq n, H0.out.lo⟩
    subst e
    rw [hob] at hb
    exact hpn hb
  have HR := hid hR
  have HK := hid ((Hx0.out.keep (fun b => b = p ∨ (Value.slice a4 ks.length cc).ownBlock = some b)).trans ((hk.mono fun b _ h => .inr h).trans (hk2.mono fun b _ h => .inl h)))
  clear hrow hk hob hp1 hp2 hk2 hwr hR HD hpn c4
  go_wp2
  go_end0
  exact ⟨rfl, _, _, HR.out, HK.out⟩

/-- append of one element of several cells to a row of one's own, in a sequence. -/
theorem wpList_append_el {ops : Array Oper} {Q : Exit → Act → World → Prop} {rest : List Oper} {o : Oper} {a : Act} {w : World} (base : Nat) (hbase : base ≤ w.heap.size) (t e : TypeId) (z : Value) (size bytes : Nat) (ht : Tryd.prog.underlying t = some (.slice e)) (hinf : (Tryd.prog.info? e).map (fun i => (i.zero, i.size, i.bytes)) = some (some z, size, bytes)) (hz1 : z.cells.size = size) (hsz : 0 < size)
    (hb8 : bytes ≤ 64) (hg : o.guard = none) (s x : Operand) (ho : o.op = .call { callee := .builtin .append, args := #[s, x], argTypes := #[t, t] })
    (v : Value) (n : Nat) (xs : List Value) (hs : a.eval s = v) (hown : w.ownsRow base e size v n xs) (g : Nat) (us : List Value) (hul : us.length = size) (hu : ∀ u ∈ us, u.oneCell' = true) (hx : a.eval x = .slice (some ⟨g, 0, none⟩) 1 1) (hb : Blk w g us.toArray e) (hl : n ≤ 1000000)
    (h : ∀ v' w', w'.ownsRow base e size v' (n + 1) (xs ++ us) → Keep (fun k => v.ownBlock = some k) w w' → (v'.ownBlock = v.ownBlock ∨ v'.ownBlock = some w.heap.size) → wpList Tryd.prog ops Q rest (a.put o.dst v') w') : wpList Tryd.prog ops Q (o :: rest) a w := by
  obtain ⟨ti, hi, hz0, hz, hz2⟩ := info_parts hinf
  obtain ⟨v', w', hr, h2, h3, _, h4⟩ := run_append_own_at (P := Tryd.prog) w base t o.type e ti z size bytes ht hi hz0 hz hz2 hz1 hsz v n xs hown ⟨g, 0, none⟩ 1 1 us (by rw [hul]; omega) (fun j q hq => by
    rw [show (⟨g, 0, none⟩ : Addr).add j = ⟨g, j, none⟩ from by by_cases h0 : j = 0 <;> simp [Addr.add, h0], hb.cell j]
    simpa using hq) hu (by simp only [maxLen]; omega) (by
      have : (n + 1) * bytes ≤ (n + 1) * 64 := Nat.mul_le_mul_left _ hb8
      omega) hbase
  refine wpList_plain hg fun K hK => ?_
  unfold Oper.wp
  rw [run_exec_append s x t ho hs hx hr]
  exact hK _ _ (h v' w' h2 (grown_keep h3) h4)
theorem frame_info : (Tryd.prog.info? 48).map (fun i => (i.zero, i.size, i.bytes)) = some (some (.agg #[.int .u8 0, .int .i64 0, .int .i64 0, .int .i64 0, .slice none 0 0]), 5, 56) := by kernel_rfl
end Go.Proofs.YtkabgmohgjljkaaDoor
