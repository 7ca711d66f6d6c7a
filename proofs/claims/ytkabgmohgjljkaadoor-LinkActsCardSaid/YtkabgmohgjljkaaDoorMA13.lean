/- Texts of one proof, put together: K9 LE LO LP. -/
import Derived.Test.YtkabgmohgjljkaaDoorMA04
import Derived.Test.YtkabgmohgjljkaaDoorMA09
import Derived.Test.YtkabgmohgjljkaaDoorMA12

/- The reference's links: a frame is taken that comes too early. -/
namespace Go.Proofs.YtkabgmohgjljkaaDoor
set_option linter.unusedSimpArgs false
set_option linter.unusedVariables false
open Go Go.RowKit

set_option maxRecDepth 100000 in
set_option maxHeartbeats 3200000 in
theorem reftake_far (r : Rcv) (f : Fr) (a : Option Addr) (cap : Nat) (w : World) (n0 q : Nat) (wv : Value) (fs : List FV) (h : RRcv w n0 q r wv fs) (hr : Ints w a f.nums.length f.nums) (hl : f.nums.length ≤ 1000)
    (hnv : NumsAt w n0 none (.slice a f.nums.length cap) f.nums) (hc : f.code = 0) (hs1 : f.fr = r.fr) (hs2 : f.to = r.to) (hs3 : f.kind ≠ 97) (hwl : r.wait.length ≤ 8) (hfd : Rcv.find r.wait f.seq = none) (hd : r.due < f.seq) (hn0 : n0 ≤ w.heap.size) :
    Calls Tryd.prog 24 #[.pointer (some ⟨q, 0, none⟩), frv f a cap] w fun e w' => e = .returned (.tuple #[.slice none 0 0, .int .i64 0]) ∧ ∃ wv' fs', RRcv w' n0 q (r.took f).2 wv' fs' ∧ Keep (fun b => b = q ∨ wv.ownBlock = some b) w w' ∧ ∀ k, wv'.ownBlock = some k → wv.ownBlock = some k ∨ w.heap.size ≤ k := by
  obtain ⟨a4, c4, rfl⟩ := row_form h.hl.row
  have S1 := hid hs1
  have S2 := hid hs2
  have S3 : Hid (¬ (f.kind.toNat : Int) = 97) := hid fun e => hs3 (UInt8.toNat_inj.1 (by rw [show (97 : UInt8).toNat = 97 from rfl]; omega))
  have Hwl := hid hwl
  clear hs1 hs2 hs3 hwl
  have hto : (r.took f).2 = if r.wait.length < 8 then { r with wait := r.wait ++ [f] } else r := by
    unfold Rcv.took
    rw [if_neg (by rw [hfd]; simp; omega), if_pos hd]
  have hfv : findV r.wait f.seq = -1 := by unfold findV; rw [hfd]
  have Hto := hid hto
  have Hfv := hid hfv
  have Hnv := hid hnv
  have Hn0 := hid hn0
  have Hd2 := hid hd
  have Hlen := hid h.len
  have hnlt : ¬ f.seq < r.due := by omega
  clear hto hfv hnv hn0 hd hfd
  have HK := hid (referror_any f a cap _ (hr.ext ((Ext.refl w).alloc (.cells #[.int .u8 (f.kind.toNat : Int), .int .i64 f.fr, .int .i64 f.to, .int .i64 f.seq, .slice a f.nums.length cap] 45))) (by omega))
  have hB := Blk.new w #[.int .u8 (f.kind.toNat : Int), .int .i64 f.fr, .int .i64 f.to, .int .i64 f.seq, .slice a f.nums.length cap] 45
  have hx0 := (Ext.refl w).alloc (.cells #[.int .u8 (f.kind.toNat : Int), .int .i64 f.fr, .int .i64 f.to, .int .i64 f.seq, .slice a f.nums.length cap] 45)
  simp only [hc] at HK
  unfold frv at HK ⊢
  have Hr := hid hr
  have H := hid h
  have HB := hid hB
  have Hx0 := hid hx0
  clear hc hr h hB hx0
  go_enter Tryd.func24, Tryd.ntmps24
  go_wp2_with fail
  refine HK.out.mono ?_
  intro e w1 hx
  obtain ⟨rfl, hx1⟩ := hx
  have Hx1 := hid (Hx0.out.trans hx1)
  have HB1 := hid (HB.out.ext hx1)
  clear HK hx1 HB Hx0
  have s1 : (f.fr != r.fr) = false := by simp [S1.out]
  have s2 : (f.to != r.to) = false := by simp [S2.out]
  have s3 : ((f.kind.toNat : Int) == 97) = false := beq_eq_false_iff_ne.2 S3.out
  have h1 := H.out.ext Hx1.out
  generalize hN : w.heap.size = N at *
  have HN := hid hN
  clear hN
  go_wp2
  have d0 := HB1.out.kc (X := fun _ => False) (fun e => e) 0 rfl
  have d1 := HB1.out.kc (X := fun _ => False) (fun e => e) 1 rfl
  have d2 := HB1.out.kc (X := fun _ => False) (fun e => e) 2 rfl
  have g0 := h1.hp.kc (X := fun _ => False) (fun e => e) 0 rfl
  have g1 := h1.hp.kc (X := fun _ => False) (fun e => e) 1 rfl
  simp only [List.getElem_toArray, List.getElem_cons_zero, List.getElem_cons_succ] at d0 d1 d2 g0 g1
  refine wp_flowT (fun _ => False) (by kernel_rfl) (by kernel_rfl) ?_
  repeat (apply FlowT.d; (intro w1 hk; unfold does; go_simp; (try go_ints); (first | exact DetR.mk | (simp only [↓IntWalk.iteOmega, Oper.doesUpon_value]; exact DetR.mk) | (simp only [↓IntWalk.iteOmega]; go_simp; (try go_ints); exact DetR.mk))); simp only [Act.put, List.setIfInBounds_toArray, List.set_cons_zero, List.set_cons_succ])
  refine FlowT.fin fun w2 hx2 hk2 => ?_
  have Hx2 := hid (Hx1.out.trans hx2)
  have HB2 := hid (HB1.out.ext hx2)
  clear d0 d1 d2 g0 g1 hx2 hk2 HB1 Hx1 h1
  clear s1 s2 s3
  have h2 := H.out.ext Hx2.out
  have g2 := h2.hp.kc (X := fun _ => False) (fun e => e) 2 rfl
  have d3 := HB2.out.kc (X := fun _ => False) (fun e => e) 3 rfl
  simp only [List.getElem_toArray, List.getElem_cons_zero, List.getElem_cons_succ] at g2 d3
  have HFd := fun wa (k : Keep (fun _ => False) w2 wa) => hid (refrfind_ext r f.seq wa n0 q _ fs (h2.keep k Wr.none (fun e => e) (fun _ _ e => e)) (by have := Hwl.out; omega))
  clear h2
  go_wp2
  refine wp_flowT (fun _ => False) (by kernel_rfl) (by kernel_rfl) ?_
  repeat (apply FlowT.d; (intro w1 hk; unfold does; go_simp; (try go_ints); (first | exact DetR.mk | (simp only [↓IntWalk.iteOmega, Oper.doesUpon_value]; exact DetR.mk) | (simp only [↓IntWalk.iteOmega]; go_simp; (try go_ints); exact DetR.mk))); simp only [Act.put, List.setIfInBounds_toArray, List.set_cons_zero, List.set_cons_succ])
  rw [Hfv.out] at HFd
  apply FlowT.d
  · intro w1 hk
    unfold does
    go_simp
    exact CallR.det ((HFd w1 hk).out)
  simp only [Act.put, List.setIfInBounds_toArray, List.set_cons_zero, List.set_cons_succ]
  repeat (apply FlowT.d; (intro w1 hk; unfold does; go_simp; (try go_ints); (first | exact DetR.mk | (simp only [↓IntWalk.iteOmega, Oper.doesUpon_value]; exact DetR.mk) | (simp only [↓IntWalk.iteOmega]; go_simp; (try go_ints); exact DetR.mk))); simp only [Act.put, List.setIfInBounds_toArray, List.set_cons_zero, List.set_cons_succ])
  refine FlowT.fin fun w3 hx3 hk3 => ?_
  have h3 := H.out.ext (Hx2.out.trans hx3)
  have hB3 := HB2.out.ext hx3
  have Hx3 := hid (Hx2.out.trans hx3)
  clear g2 d3 HFd hx3 hk3 HB2 Hx2
  have g2 := h3.hp.kc (X := fun _ => False) (fun e => e) 2 rfl
  have d3 := hB3.kc (X := fun _ => False) (fun e => e) 3 rfl
  simp only [List.getElem_toArray, List.getElem_cons_zero, List.getElem_cons_succ] at g2 d3
  have hd2 := Hd2.out
  go_wp2
  refine wp_flowT (fun _ => False) (by kernel_rfl) (by kernel_rfl) ?_
  repeat (apply FlowT.d; (intro w1 hk; unfold does; go_simp; (try go_ints); (first | exact DetR.mk | (simp only [↓IntWalk.iteOmega, Oper.doesUpon_value]; exact DetR.mk) | (simp only [↓IntWalk.iteOmega]; go_simp; (try go_ints); exact DetR.mk))); simp only [Act.put, List.setIfInBounds_toArray, List.set_cons_zero, List.set_cons_succ])
  refine FlowT.fin fun w5 hx5 hk5 => ?_
  have h5 := h3.ext hx5
  have hB5 := hB3.ext hx5
  have Hx5 := hid (Hx3.out.trans hx5)
  clear g2 d3 h3 hB3 hx5 hk5 Hx3 hnlt
  have g3 := h5.hp.av 3 rfl
  simp only [List.getElem_toArray, List.getElem_cons_zero, List.getElem_cons_succ] at g3
  have hfl : (fs.length : Int) ≤ 8 := by have := Hlen.out; have := Hwl.out; omega
  by_cases hw : r.wait.length < 8
  · have hw' : (fs.length : Int) < 8 := by have := Hlen.out; omega
    have Hw := hid hw
    have H5 := hid h5
    have HB5 := hid hB5
    clear hd2 hw h5 hB5
    go_wp2
    have hqb : ¬ (Value.slice a4 fs.length c4).ownBlock = some q := fun e => by
      obtain ⟨c, hc⟩ := own_ty H5.out.hl.row e
      exact H5.out.hp.ty_ne hc (by decide) rfl
    have Hqb := hid hqb
    have g3 := H5.out.hp.kc (X := fun k => (Value.slice a4 fs.length c4).ownBlock = some k) hqb 3 rfl
    simp only [List.getElem_toArray, List.getElem_cons_zero, List.getElem_cons_succ] at g3
    clear hqb
    have hNb : ¬ (Value.slice a4 fs.length c4).ownBlock = some N := fun e => by
      have h1 := H.out.hl.row
      obtain ⟨c, hc⟩ := own_ty h1 e
      have h2 := hc.lt
      have h3 := HN.out
      omega
    have d0 := HB5.out.kc (X := fun k => (Value.slice a4 fs.length c4).ownBlock = some k) hNb 0 rfl
    have d1 := HB5.out.kc (X := fun k => (Value.slice a4 fs.length c4).ownBlock = some k) hNb 1 rfl
    have d2 := HB5.out.kc (X := fun k => (Value.slice a4 fs.length c4).ownBlock = some k) hNb 2 rfl
    have d3 := HB5.out.kc (X := fun k => (Value.slice a4 fs.length c4).ownBlock = some k) hNb 3 rfl
    have d4 := HB5.out.kc (X := fun k => (Value.slice a4 fs.length c4).ownBlock = some k) hNb 4 rfl
    simp only [List.getElem_toArray, List.getElem_cons_zero, List.getElem_cons_succ] at d0 d1 d2 d3 d4
    clear hNb hw'
    obtain ⟨ti, hi, hz0, hz1, hz2⟩ := info_parts rframe_info
    obtain ⟨NC, hNC⟩ : ∃ NC, NC = FV.cells ⟨f, .slice a f.nums.length cap⟩ := ⟨_, rfl⟩
    have HNC := hid hNC
    clear hNC
    refine wp_flowT (fun k => (Value.slice a4 fs.length c4).ownBlock = some k) (by kernel_rfl) (by kernel_rfl) ?_
    repeat (apply FlowT.d; (intro w1 hk; unfold does; go_simp; (try go_ints); (first | exact DetR.mk | (simp only [↓IntWalk.iteOmega, Oper.doesUpon_value]; exact DetR.mk) | (simp only [↓IntWalk.iteOmega]; go_simp; (try go_ints); exact DetR.mk))); simp only [Act.put, List.setIfInBounds_toArray, List.set_cons_zero, List.set_cons_succ])
    refine FlowT.s (fun v' w' => ∃ b, v' = .slice (some ⟨b, 0, none⟩) 1 1 ∧ Blk w' b #[.int .u8 (f.kind.toNat : Int), .int .i64 f.fr, .int .i64 f.to, .int .i64 f.seq, .slice a f.nums.length cap] 45 ∧ Ext w5 w') 6 rfl (by kernel_rfl) (fun _ _ _ ⟨b, h1, h2, h3⟩ he => ⟨b, h1, h2.ext he, h3.trans he⟩) (fun w4 hC hk => ?_) (fun v2 hv2 => ?_)
    · unfold does
      go_simp
      exact ⟨hk.alloc _, _, rfl, Blk.new _ _ _, hC.alloc _⟩
    obtain ⟨_, b, rfl, _, _⟩ := hv2
    simp only [Act.put, List.setIfInBounds_toArray, List.set_cons_zero, List.set_cons_succ]
    refine FlowT.s (fun v' w' => w'.ownsRow 0 45 5 v' (fs.length + 1) (fs.flatMap FV.cells ++ NC) ∧ ∀ k, v'.ownBlock = some k → (Value.slice a4 fs.length c4).ownBlock = some k ∨ w5.heap.size ≤ k) 7 rfl (by kernel_rfl) (fun _ _ _ h he => ⟨row_keep h.1 (he.keep fun _ => False) (fun _ _ h => h), h.2⟩) (fun w6 hC hk => ?_) (fun v3 hv3 => ?_)
    · obtain ⟨b', hb', hblk, hx⟩ := hC
      obtain rfl : b = b' := by simpa using hb'
      refine does_append rfl (.tmp 67) (.tmp 69) 40 rfl 45 ti _ 5 56 Tryd.underlying40 hi hz0 hz1 hz2 rfl (by decide) (.slice a4 fs.length c4) fs.length (fs.flatMap FV.cells) rfl (own_base (row_keep H5.out.hl.row (hx.keep fun _ => False) (fun _ _ h => h)) (Nat.zero_le _)) ⟨b, 0, none⟩ 1 1 NC rfl (by rw [HNC.out]; rfl) ?_ (by rw [HNC.out]; simp [FV.cells, Value.oneCell']) (by unfold maxLen; omega) (by omega) (fun v' w' ho hkk hb2 => ?_)
      · intro j u hj
        rw [HNC.out] at hj
        rw [show (⟨b, 0, none⟩ : Addr).add j = ⟨b, j, none⟩ from by by_cases h0 : j = 0 <;> simp [Addr.add, h0], hblk.cell j]
        simpa [FV.cells] using hj
      · refine ⟨(hx.keep _).trans hkk, ho, fun k hk' => ?_⟩
        rcases hb2 k hk' with h1 | h1
        · exact .inl h1
        · exact .inr (Nat.le_trans hx.size h1)
    obtain ⟨a5, c5, rfl⟩ : ∃ a5 c5, v3 = .slice a5 (fs.length + 1) c5 := by
      obtain ⟨_, h1, _⟩ := hv3
      exact row_form h1
    clear hv3
    simp only [Act.put, List.setIfInBounds_toArray, List.set_cons_zero, List.set_cons_succ]
    repeat (apply FlowT.d; (intro w1 hk; unfold does; go_simp; (try go_ints); (first | exact DetR.mk | (simp only [↓IntWalk.iteOmega, Oper.doesUpon_value]; exact DetR.mk) | (simp only [↓IntWalk.iteOmega]; go_simp; (try go_ints); exact DetR.mk))); simp only [Act.put, List.setIfInBounds_toArray, List.set_cons_zero, List.set_cons_succ])
    refine FlowT.last (fun _ w' => ∃ w6, w6.ownsRow 0 45 5 (.slice a5 (fs.length + 1) c5) (fs.length + 1) (fs.flatMap FV.cells ++ NC) ∧ (∀ k, (Value.slice a5 (fs.length + 1) c5).ownBlock = some k → (Value.slice a4 fs.length c4).ownBlock = some k ∨ w5.heap.size ≤ k) ∧ Keep (fun k => (Value.slice a4 fs.length c4).ownBlock = some k) w5 w6 ∧ w' = w6.setCell ⟨q, 3, none⟩ (.slice a5 (fs.length + 1) c5)) 10 rfl (by kernel_rfl) (by kernel_rfl) (fun w6 hC hk => ?_) (fun v w7 hR => ?_)
    · have q3 := g3 w6 hk
      have f3 := (H5.out.hp.keep hk Hqb.out).free 3
      unfold does
      go_simp
      exact ⟨w6, hC.1, hC.2, hk, rfl⟩
    obtain ⟨w6, ho, hb3, hk6, rfl⟩ := hR
    simp only [Act.put]
    clear g3 d0 d1 d2 d3 d4
    have hfin : RRcv (w6.setCell ⟨q, 3, none⟩ (.slice a5 (fs.length + 1) c5)) n0 q (r.took f).2 (.slice a5 (fs.length + 1) c5) (fs ++ [⟨f, .slice a f.nums.length cap⟩]) ∧ Keep (fun b => b = q ∨ (Value.slice a4 fs.length c4).ownBlock = some b) w (w6.setCell ⟨q, 3, none⟩ (.slice a5 (fs.length + 1) c5)) ∧ ∀ k, (Value.slice a5 (fs.length + 1) c5).ownBlock = some k → (Value.slice a4 fs.length c4).ownBlock = some k ∨ w.heap.size ≤ k := by
      have hP6 := H5.out.hp.keep hk6 Hqb.out
      have hlo : ∀ k, (Value.slice a5 (fs.length + 1) c5).ownBlock = some k → (Value.slice a4 fs.length c4).ownBlock = some k ∨ w.heap.size ≤ k := fun k hk => by
        rcases hb3 k hk with h1 | h1
        · exact .inl h1
        · exact .inr (Nat.le_trans Hx5.out.size h1)
      have hne5 : ∀ k, (Value.slice a5 (fs.length + 1) c5).ownBlock = some k → k ≠ q := fun k hk e => by
        obtain ⟨c, hc⟩ := own_ty ho hk
        exact hP6.ty_ne hc (by decide) e.symm
      have hks : Keep (fun k => k = q) w6 (w6.setCell ⟨q, 3, none⟩ (.slice a5 (fs.length + 1) c5)) := Keep.set (X := fun k => k = q) (Keep.refl _ w6) rfl _
      have hk7 : Keep (fun k => k = q ∨ (Value.slice a4 fs.length c4).ownBlock = some k) w5 (w6.setCell ⟨q, 3, none⟩ (.slice a5 (fs.length + 1) c5)) := (hk6.mono fun k _ h => .inr h).set (.inl rfl) _
      have hwr : Wr w5 n0 none fun k => k = q ∨ (Value.slice a4 fs.length c4).ownBlock = some k := (Wr.blk H5.out.hp (by decide) H5.out.lo).or (Wr.row H5.out.hl.row (by decide))
      have hP7 := hP6.set 3 (.slice a5 (fs.length + 1) c5)
      simp only [List.setIfInBounds_toArray, List.set_cons_zero, List.set_cons_succ] at hP7
      have hL7 := row_keep (X := fun k => k = q) ho hks hne5
      refine ⟨⟨by rw [Hto.out, if_pos Hw.out]; exact hP7, ⟨?_, fun x hx => ?_⟩, by rw [Hto.out, if_pos Hw.out]; simp [H5.out.eq], H5.out.lo⟩, (Hx5.out.keep _).trans hk7, hlo⟩
      · have h1 := own_rebase hL7 (b2 := n0) fun k hk => by
          rcases hlo k hk with h1 | h1
          · exact (World.ownsRow.lt H5.out.hl.row k h1).1
          · have h2 := Hn0.out
            have h3 := HN.out
            omega
        rw [HNC.out] at h1
        simpa using h1
      · rcases List.mem_append.1 hx with hx | hx
        · exact NumsAt.keep (H5.out.hl.nums x hx) hk7 hwr
        · obtain rfl := List.mem_singleton.1 hx
          exact NumsAt.keep (NumsAt.ext Hnv.out Hx5.out) hk7 hwr
    have Hfin := hid hfin
    clear hfin ho hb3 hk6
    go_wp2
    go_ret2
    exact ⟨rfl, _, _, Hfin.out.1, Hfin.out.2.1, HN.out ▸ Hfin.out.2.2⟩
  · have hw' : ¬ (fs.length : Int) < 8 := by have := Hlen.out; omega
    have H5 := hid h5
    have Hw := hid hw
    clear hd2 hw h5 hB5
    go_wp2
    go_ret2
    exact ⟨rfl, _, ⟨fs, by rw [Hto.out, if_neg Hw.out]; exact H5.out⟩, Hx5.out.keep _, fun _ h => .inl h⟩
end Go.Proofs.YtkabgmohgjljkaaDoor


/- Links: the law's own trial. -/
namespace Go.Proofs.YtkabgmohgjljkaaDoor
set_option linter.unusedSimpArgs false
set_option linter.unusedVariables false
open Go Go.RowKit

theorem ints_new (w : World) (vs : List Int) (hi : ∀ i, vs.getD i 0 ≤ 9223372036854775807) (hl : vs.length ≤ 1000) : Ints (w.alloc (.cells (icells vs).toArray 3)) (some ⟨w.heap.size, 0, none⟩) vs.length vs := by
  have h : IRow w.heap.size (w.alloc (.cells (icells vs).toArray 3)) (.slice (some ⟨w.heap.size, 0, none⟩) vs.length vs.length) vs :=
    own_of_blk (Blk.new _ _ _) (Nat.le_refl _) (Nat.le_refl _) (by unfold maxLen; omega) (by simp [icells]) (by rw [List.toList_toArray, Nat.mul_one, List.take_of_length_le (by simp [icells])])
  exact h.ints hi

set_option maxRecDepth 100000 in
set_option maxHeartbeats 3200000 in
theorem linked_any (w : World) (ev : Nat → Value) (he : ErrsC w ev) (hev : ∀ c, c ≠ 0 → ∃ t v, ev c = .iface t v) : Calls Tryd.prog 5 #[] w fun e w' => e = .returned (.bool true) ∧ Ext w w' := by
  have HN := hid (newS_ok 0 1 w ev he w.heap.size none (Nat.le_refl _) (by decide))
  have He := hid he
  clear he
  go_enter Tryd.func5, Tryd.ntmps5
  go_wp2_with fail
  refine HN.out.mono ?_
  intro e w1 hx
  obtain ⟨rfl, hS, hx1⟩ := hx
  have HR := hid (newR_ok 0 1 w1 ev (He.out.ext hx1) w.heap.size none hx1.size (by decide))
  have HS := hid hS
  have Hx1 := hid hx1
  clear HN hS hx1
  obtain ⟨p, hp⟩ : ∃ p, p = w.heap.size := ⟨_, rfl⟩
  have HS2 : Hid (SndAt w1 w.heap.size none p (Snd.new 0 1) (.slice none 0 0) []) := hid (by rw [hp]; exact HS.out)
  rw [← hp]
  have Hp := hid hp
  clear hp HS
  go_wp2_with fail
  refine HR.out.mono ?_
  intro e w2 hx
  obtain ⟨q, b, rfl, hR, hx2, hq, hb⟩ := hx
  have hS2 := HS2.out.ext (hx2.alloc (.cells #[.int .i64 5] 3))
  have hR2 := hR.ext ((Ext.refl w2).alloc (.cells #[.int .i64 5] 3))
  have hx3 := (Hx1.out.trans hx2).alloc (.cells #[.int .i64 5] 3)
  have HSd := hid (send_good (Snd.new 0 1) 100 [5] (some ⟨w2.heap.size, 0, none⟩) 1 (w2.alloc (.cells #[.int .i64 5] 3)) w.heap.size none p (.slice none 0 0) [] hS2 (ints_new w2 [5] (fun i => by
    rcases i with _ | i <;> simp) (by simp)) (by simp) ev (He.out.ext hx3) (by decide) 0 (Snd.Ok.new 0 1) (by omega) hx3.size (fun _ h => by cases h))
  have HR2 := hid hR2
  have Hx3 := hid hx3
  have HS3 := hid hS2
  clear HR hR hx2 hq hb hS2 hR2 hx3 HS2 Hx1
  go_wp2_with fail
  refine HSd.out.mono ?_
  intro e w3 hx
  obtain ⟨v, lv, ks, rfl, hS4, hI, hk⟩ := hx
  obtain ⟨av, cv, rfl⟩ := hI.form
  have hR4 := RcvAt.beside HS3.out HR2.out hk
  have hx4 := HS3.out.ext_of Hx3.out hk
  have hx5 := hx4.alloc (.cells #[.int .u8 100, .int .i64 0, .int .i64 1, .int .i64 0, .slice av 1 cv] 48)
  have hR5 := hR4.ext ((Ext.refl w3).alloc (.cells #[.int .u8 100, .int .i64 0, .int .i64 1, .int .i64 0, .slice av 1 cv] 48))
  have hS5 := hS4.ext ((Ext.refl w3).alloc (.cells #[.int .u8 100, .int .i64 0, .int .i64 1, .int .i64 0, .slice av 1 cv] 48))
  have hI5 := (hI.ext ((Ext.refl w3).alloc (.cells #[.int .u8 100, .int .i64 0, .int .i64 1, .int .i64 0, .slice av 1 cv] 48))).ints (fun i => by rcases i with _ | i <;> simp)
  have HT := hid (take_any (Rcv.new 0 1) ⟨100, 0, 1, 0, [5]⟩ av cv _ w.heap.size none q b [] hR5 hI5 (by simp) ev (He.out.ext hx5) hev (by decide) (by decide) hx5.size (fun _ h => by cases h) (by decide) (fun _ h => by cases h))
  have HS5 := hid hS5
  have HR5 := hid hR5
  have Hx5 := hid hx5
  clear HSd hS4 hI hk hR4 hx4 hx5 hR5 hS5 hI5 HS3 HR2 Hx3
  simp only [FV.val, Snd.frame, Snd.new]
  go_wp2_with fail
  refine HT.out.mono ?_
  intro e w4 hx
  obtain ⟨ov, outs, ms, rfl, hR6, hF6, hO, hk6⟩ := hx
  have hlen : outs.length = 1 := by have := congrArg List.length hO; rw [List.length_map] at this; exact this.trans rfl
  obtain ⟨ao, co, rfl⟩ := hF6.form
  rw [hlen]
  have HW := hid (waits_any w4 _ _ _ _ _ _ (SndAt.beside HS5.out HR5.out hk6))
  have HD := hid (due_any w4 _ _ _ _ _ _ hR6)
  have Hx6 := hid (HR5.out.ext_of Hx5.out hk6)
  have hE : errv ev ((Rcv.new 0 1).err ⟨100, 0, 1, 0, [5]⟩) = .nilIface := rfl
  rw [hE]
  clear HT hR6 hF6 hO hk6 hlen HS5 HR5 Hx5 hE
  have e1 : ((Rcv.new 0 1).take ⟨100, 0, 1, 0, [5]⟩).2.due = 1 := rfl
  have e2 : ((((Snd.new 0 1).sent 100 [5]).l.length : Nat) : Int) = 1 := rfl
  rw [e1] at HD
  rw [e2] at HW
  clear e1 e2
  go_wp2_with fail
  refine HD.out.mono ?_
  intro e w5 hx
  obtain ⟨rfl, rfl⟩ := hx
  go_wp2_with fail
  refine HW.out.mono ?_
  intro e w5 hx
  obtain ⟨rfl, rfl⟩ := hx
  go_wp2
  go_ret
  exact ⟨rfl, Hx6.out⟩
end Go.Proofs.YtkabgmohgjljkaaDoor


/- LinkOnce, plainly. -/
namespace Go.Proofs.YtkabgmohgjljkaaDoor
set_option linter.unusedSimpArgs false
set_option linter.unusedVariables false

/-- The frame of the k-th number. -/
def ofr (N : List Int) (k : Nat) : Fr := ⟨100, 2, 4, (k : Int), [N.getD k 0]⟩
def oks (N : List Int) : Nat → Snd
  | 0 => Snd.new 2 4
  | i + 1 => (oks N i).sent 100 [N.getD i 0]
theorem oks_eq (N : List Int) (i : Nat) : oks N i = ⟨2, 4, (i : Int), 0, (List.range i).map fun j => (ofr N j, (0 : Int))⟩ := by
  induction i with
  | zero => rfl
  | succ i ih =>
    show (oks N i).sent 100 [N.getD i 0] = _
    rw [ih]
    simp only [Snd.sent, Snd.frame, List.range_succ, List.map_append, List.map_cons, List.map_nil, ofr]
    rfl
theorem ofr_code (N : List Int) (k : Nat) (hk : k ≤ 1000) (h : 0 ≤ N.getD k 0 ∧ N.getD k 0 ≤ 2147483648) : (ofr N k).code = 0 := by
  have h1 : inB (k : Int) 2147483648 = true := by simp [inB]; omega
  have h2 : anyFar [N.getD k 0] = false := by
    generalize N.getD k 0 = v at *
    simp only [anyFar, List.any_cons, List.any_nil, farB]
    simp
    omega
  unfold Fr.code ofr
  simp only
  rw [h1, h2]
  rfl
theorem oks_err (N : List Int) (i : Nat) (hi : i < 200) (h : 0 ≤ N.getD i 0 ∧ N.getD i 0 ≤ 2147483648) : (oks N i).err 100 [N.getD i 0] = 0 := by
  have hc : ((oks N i).frame 100 [N.getD i 0]).code = 0 := by
    rw [oks_eq]
    exact ofr_code N i (by omega) h
  have hl : (oks N i).l.length = i := by rw [oks_eq]; simp
  unfold Snd.err
  rw [if_neg (fun e => e hc), if_neg (by decide), if_neg (by omega)]
theorem oks_ok (N : List Int) (i : Nat) (hi : i ≤ 200) : (oks N i).Ok i := by
  rw [oks_eq]
  exact ⟨by simp only; omega, by simp only; omega, fun k hk => by
    obtain ⟨j, _, rfl⟩ := List.mem_map.1 hk
    simp, by simp; exact hi⟩

/-- The sender, while what is told is answered: those from a on are kept, each sent last at c. -/
def osn (N : List Int) (n a : Nat) (now c : Int) : Snd := ⟨2, 4, (n : Int), now, (List.range' a (n - a)).map fun j => (ofr N j, c)⟩
theorem oks_osn (N : List Int) (n : Nat) : oks N n = osn N n 0 0 0 := by rw [oks_eq, osn, Nat.sub_zero, List.range_eq_range']
theorem osn_ok (N : List Int) (n a : Nat) (now c : Int) (hn : n ≤ 40) (h0 : 0 ≤ c) (h1 : c ≤ now) (h2 : now ≤ 1000) : (osn N n a now c).Ok 1000 :=
  ⟨by simp only [osn]; omega, by simp only [osn]; omega, fun x hx => by
    simp only [osn] at hx ⊢
    obtain ⟨j, _, rfl⟩ := List.mem_map.1 hx
    exact ⟨h0, h1⟩, by simp [osn]; omega⟩
theorem osn_nums (N : List Int) (n a : Nat) (now c : Int) : ∀ x ∈ (osn N n a now c).l, x.1.nums.length ≤ 1000 := fun x hx => by
  simp only [osn] at hx
  obtain ⟨j, _, rfl⟩ := List.mem_map.1 hx
  simp [ofr]
theorem osn_tick (N : List Int) (n a : Nat) (now c : Int) : (osn N n a now c).tick = osn N n a (now + 1) (if now + 1 - c = 3 then now + 1 else c) := by
  have hl : (osn N n a now c).l.map (osn N n a now c).stamp = (osn N n a (now + 1) (if now + 1 - c = 3 then now + 1 else c)).l := by
    show ((List.range' a (n - a)).map fun j => (ofr N j, c)).map (osn N n a now c).stamp = (List.range' a (n - a)).map fun j => (ofr N j, if now + 1 - c = 3 then now + 1 else c)
    rw [List.map_map]
    refine List.map_congr_left fun j _ => ?_
    show (osn N n a now c).stamp (ofr N j, c) = _
    unfold Snd.stamp
    have hL : (osn N n a now c).late (ofr N j, c) = decide (now + 1 - c = 3) := rfl
    rw [hL]
    by_cases h : now + 1 - c = 3
    · rw [if_pos (decide_eq_true h), if_pos h]; rfl
    · rw [if_neg (by simp [h]), if_neg h]
  unfold Snd.tick
  rw [hl]
  rfl
theorem osn_again (N : List Int) (n a : Nat) (now c : Int) : (osn N n a now c).again = if now + 1 - c = 3 then (List.range' a (n - a)).map (ofr N) else [] := by
  unfold Snd.again
  by_cases h : now + 1 - c = 3
  · rw [if_pos h, List.filter_eq_self.2 fun x hx => ?_]
    · simp [osn, Function.comp]
    · simp only [osn] at hx
      obtain ⟨j, _, rfl⟩ := List.mem_map.1 hx
      exact decide_eq_true (show now + 1 - c = 3 from h)
  · rw [if_neg h, List.filter_eq_nil_iff.2 fun x hx => ?_]
    · rfl
    · simp only [osn] at hx
      obtain ⟨j, _, rfl⟩ := List.mem_map.1 hx
      exact fun e => h (of_decide_eq_true e)
theorem range'_filter (a m d : Nat) (h : a ≤ d) : (List.range' a m).filter (fun j : Nat => decide ((d : Int) ≤ (j : Int))) = List.range' d (a + m - d) := by
  induction m with
  | zero => simp; omega
  | succ m ih =>
    rw [List.range'_1_concat, List.filter_append, ih]
    by_cases hd : d ≤ a + m
    · have h1 : a + (m + 1) - d = (a + m - d) + 1 := by omega
      rw [h1, List.range'_1_concat]
      have : (d : Int) ≤ ((a + m : Nat) : Int) := by omega
      rw [List.filter_cons_of_pos (by simpa using this)]
      simp only [List.filter_nil]
      congr 2
      omega
    · have h1 : a + (m + 1) - d = 0 := by omega
      have h2 : a + m - d = 0 := by omega
      rw [h1, h2]
      have : ¬ (d : Int) ≤ ((a + m : Nat) : Int) := by omega
      rw [List.filter_cons_of_neg (by simpa using this)]
      simp
theorem osn_acked (N : List Int) (n a d : Nat) (now c : Int) (h : a ≤ d) (hn : a ≤ n) (hd : d ≤ n) : (osn N n a now c).acked (d : Int) = osn N n d now c := by
  unfold Snd.acked osn
  simp only [List.filter_map, Snd.mk.injEq, true_and]
  rw [show n - d = a + (n - a) - d by omega, ← range'_filter a (n - a) d h]
  rfl

/-- All are frames of the numbers. -/
def AllOf (N : List Int) (n : Nat) (l : List Fr) : Prop := ∀ f ∈ l, ∃ j, j < n ∧ f = ofr N j
/-- A receiver, while it takes frames of the numbers. -/
structure ORcv (N : List Int) (n d : Nat) (r : Rcv) : Prop where
  fr : r.fr = 2
  to : r.to = 4
  due : r.due = (d : Int)
  le : d ≤ n
  wait : AllOf N n r.wait
  len : r.wait.length ≤ 8
theorem run_of {N : List Int} {n : Nat} : ∀ (k : Nat) (d : Nat) (r : Rcv) (out : List Fr), ORcv N n d r → ∃ d' r', Rcv.run k r out = (out ++ (List.range' d (d' - d)).map (ofr N), r') ∧ ORcv N n d' r' ∧ d ≤ d' ∧ (r.wait.length < k → Rcv.find r'.wait r'.due = none)
  | 0, d, r, out, h => ⟨d, r, by simp [Rcv.run], h, Nat.le_refl _, fun h => by omega⟩
  | k + 1, d, r, out, h => by
    unfold Rcv.run
    cases hf : Rcv.find r.wait r.due with
    | none => exact ⟨d, r, by simp, h, Nat.le_refl _, fun _ => hf⟩
    | some j =>
      obtain ⟨f, hg, hs⟩ := Rcv.find_get hf
      obtain ⟨i, hi, rfl⟩ := h.wait f (List.mem_of_getElem? hg)
      have hid : i = d := by
        have h1 := h.due
        have h2 : ((i : Nat) : Int) = r.due := hs
        omega
      subst hid
      have h' : ORcv N n (i + 1) { r with due := r.due + 1, wait := r.wait.eraseIdx j } :=
        ⟨h.fr, h.to, by simp only; rw [h.due]; omega, by omega, fun g hg => h.wait g (List.mem_of_mem_eraseIdx hg), Nat.le_trans (List.length_eraseIdx_le ..) h.len⟩
      obtain ⟨d', r', e1, e2, e3, e4⟩ := run_of k (i + 1) _ (out ++ [ofr N i]) h'
      refine ⟨d', r', ?_, e2, by omega, fun hk => e4 ?_⟩
      rotate_left
      · have hj := Rcv.find_lt hf
        simp only [List.length_eraseIdx]
        rw [if_pos hj]
        omega
      simp only [hg, Option.toList]
      rw [e1, List.append_assoc]
      congr 2
      rw [show d' - i = (d' - (i + 1)) + 1 by omega, List.range'_succ]
      simp
theorem took_of {N : List Int} {n d j : Nat} {r : Rcv} (h : ORcv N n d r) (hst : Rcv.find r.wait r.due = none) (hj : j < n) : ∃ d' r', r.took (ofr N j) = ((List.range' d (d' - d)).map (ofr N), r') ∧ ORcv N n d' r' ∧ d ≤ d' ∧ (j ≤ d → j + 1 ≤ d') ∧ Rcv.find r'.wait r'.due = none := by
  unfold Rcv.took
  have hs : (ofr N j).seq = (j : Int) := rfl
  by_cases h1 : (ofr N j).seq < r.due ∨ (Rcv.find r.wait (ofr N j).seq).isSome = true
  · rw [if_pos h1]
    refine ⟨d, r, by simp, h, Nat.le_refl _, fun hd => ?_, hst⟩
    have hdu := h.due
    rcases h1 with h1 | h1
    · omega
    · rcases Nat.lt_or_ge j d with h2 | h2
      · omega
      · have : j = d := by omega
        subst this
        rw [hs, ← hdu, hst] at h1
        cases h1
  · rw [if_neg h1]
    by_cases h2 : r.due < (ofr N j).seq
    · rw [if_pos h2]
      have hdj : d < j := by have := h.due; omega
      by_cases h3 : r.wait.length < 8
      · rw [if_pos h3]
        refine ⟨d, { r with wait := r.wait ++ [ofr N j] }, by simp, ⟨h.fr, h.to, h.due, h.le, fun f hf => ?_, by simp; omega⟩, Nat.le_refl _, fun hd => by omega, ?_⟩
        rotate_left
        · show List.findIdx? _ (r.wait ++ [ofr N j]) = none
          rw [List.findIdx?_append, show List.findIdx? (fun f => decide (f.seq = r.due)) r.wait = none from hst]
          have : ¬ (ofr N j).seq = r.due := by omega
          simp [this]
        rcases List.mem_append.1 hf with hf | hf
        · exact h.wait f hf
        · exact ⟨j, hj, List.mem_singleton.1 hf⟩
      · rw [if_neg h3]
        exact ⟨d, r, by simp, h, Nat.le_refl _, fun hd => by omega, hst⟩
    · rw [if_neg h2]
      have hdj : j = d := by
        have h3 : ¬ (ofr N j).seq < r.due := fun e => h1 (.inl e)
        have := h.due
        omega
      subst hdj
      have h' : ORcv N n (j + 1) { r with due := r.due + 1 } := ⟨h.fr, h.to, by simp only; rw [h.due]; omega, by omega, h.wait, h.len⟩
      obtain ⟨d', r', e1, e2, e3, e4⟩ := run_of (r.wait.length + 1) (j + 1) _ [ofr N j] h'
      refine ⟨d', r', ?_, e2, by omega, fun _ => e3, e4 (Nat.lt_succ_self _)⟩
      rw [e1]
      rw [show d' - j = (d' - (j + 1)) + 1 by omega, List.range'_succ]
      simp

theorem took_take {N : List Int} {n d j : Nat} {r : Rcv} (h : ORcv N n d r) (hj : j < n) (hn : n ≤ 1000) (hv : ∀ k, k < n → 0 ≤ N.getD k 0 ∧ N.getD k 0 ≤ 2147483648) : r.err (ofr N j) = 0 ∧ r.take (ofr N j) = r.took (ofr N j) := by
  have hc := ofr_code N j (by omega) (hv j hj)
  have he : r.err (ofr N j) = 0 := by
    unfold Rcv.err
    rw [if_neg (fun e => e hc), if_neg]
    rintro (h1 | h1 | h1)
    · exact h1 h.fr.symm
    · exact h1 h.to.symm
    · cases h1
  exact ⟨he, by unfold Rcv.take; rw [if_pos he]⟩
theorem take_more (N : List Int) (d d' : Nat) (h : d ≤ d') (hn : d' ≤ N.length) : N.take d' = N.take d ++ (List.range' d (d' - d)).map fun j => N.getD j 0 := by
  obtain ⟨k, rfl⟩ : ∃ k, d' = d + k := ⟨d' - d, by omega⟩
  rw [Nat.add_sub_cancel_left]
  induction k with
  | zero => simp
  | succ k ih =>
    rw [List.range'_1_concat, List.map_append, ← List.append_assoc, ← ih (by omega) (by omega), ← Nat.add_assoc, List.take_succ_eq_append_getElem (by omega)]
    simp [show d + k < N.length by omega]
end Go.Proofs.YtkabgmohgjljkaaDoor


/- Links: what lies where in LinkOnce. -/
namespace Go.Proofs.YtkabgmohgjljkaaDoor
set_option linter.unusedSimpArgs false
set_option linter.unusedVariables false
open Go Go.RowKit

theorem own_nilSrc {w : World} {base : Nat} {t e : TypeId} {i : TypeInfo} {size n : Nat} {v : Value} {xs : List Value} (ht : Tryd.prog.underlying t = some (.slice e)) (hi : Tryd.prog.info? e = some i) (h : w.ownsRow base e size v n xs) (ty : TypeId) (c : Nat) : (Builtin.append_ #[t, t] ty #[v, .slice none 0 c]).run Tryd.prog w = .ok v w := by
  rcases h.2 with ⟨h2, h3⟩ | ⟨g, cap, cur, h2, _, _, hnc, _⟩
  · subst h2
    simp [Builtin.append_, run_underlying ht, sizeOf, typeInfo, hi, Builtin.lenOf, Builtin.firstCells]
  · subst h2
    simp [Builtin.append_, run_underlying ht, sizeOf, typeInfo, hi, Builtin.lenOf, Builtin.firstCells, hnc, storeCells]
/-- Cells that lie at an address. -/
structure Src (w : World) (a : Option Addr) (m : Nat) (size : Nat) (us : List Value) : Prop where
  len : us.length = m * size
  sm : 0 < m → ∃ x, a = some x
  cl : ∀ x, a = some x → ∀ j u, us[j]? = some u → w.cell? (x.add j) = some u
  one : ∀ u ∈ us, u.oneCell' = true
theorem run_append_src (w : World) (base : Nat) (hbase : base ≤ w.heap.size) (t e : TypeId) (z : Value) (size bytes : Nat) (ht : Tryd.prog.underlying t = some (.slice e)) (hinf : (Tryd.prog.info? e).map (fun i => (i.zero, i.size, i.bytes)) = some (some z, size, bytes)) (hz1 : z.cells.size = size) (hsz : 0 < size) (hb8 : bytes ≤ 64) (ty : TypeId)
    (v : Value) (n : Nat) (xs : List Value) (hown : w.ownsRow base e size v n xs) (a : Option Addr) (m c : Nat) (us : List Value) (hs : Src w a m size us) (hl : n + m ≤ 1000000) :
    ∃ v' w', (Builtin.append_ #[t, t] ty #[v, .slice a m c]).run Tryd.prog w = .ok v' w' ∧ w'.ownsRow base e size v' (n + m) (xs ++ us) ∧ Keep (fun k => v.ownBlock = some k) w w' ∧ ∀ k, v'.ownBlock = some k → v.ownBlock = some k ∨ w.heap.size ≤ k := by
  obtain ⟨ti, hi, hz0, hz, hz2⟩ := info_parts hinf
  rcases a with _ | ad
  · have hm : m = 0 := by
      rcases Nat.eq_zero_or_pos m with h0 | h0
      · exact h0
      · obtain ⟨x, hx⟩ := hs.sm h0; cases hx
    subst hm
    obtain rfl : us = [] := List.eq_nil_of_length_eq_zero (by have := hs.len; omega)
    exact ⟨v, w, own_nilSrc ht hi hown ty c, by simpa using hown, Keep.refl _ _, fun k hk => .inl hk⟩
  · obtain ⟨v', w', hr, h2, h3, _, h4⟩ := run_append_own_at (P := Tryd.prog) w base t ty e ti z size bytes ht hi hz0 hz hz2 hz1 hsz v n xs hown ad m c us hs.len (hs.cl ad rfl) hs.one (by simp only [maxLen]; omega) (by
      have : (n + m) * bytes ≤ (n + m) * 64 := Nat.mul_le_mul_left _ hb8
      omega) hbase
    refine ⟨v', w', hr, h2, grown_keep h3, fun k hk => ?_⟩
    rcases h4 with h4 | h4
    · exact .inl (h4 ▸ hk)
    · rw [h4] at hk
      have := Option.some.inj hk
      exact .inr (by omega)
theorem wpList_append_src {ops : Array Oper} {Q : Exit → Act → World → Prop} {rest : List Oper} {o : Oper} {a : Act} {w : World} (base : Nat) (hbase : base ≤ w.heap.size) (t e : TypeId) (z : Value) (size bytes : Nat) (ht : Tryd.prog.underlying t = some (.slice e)) (hinf : (Tryd.prog.info? e).map (fun i => (i.zero, i.size, i.bytes)) = some (some z, size, bytes)) (hz1 : z.cells.size = size) (hsz : 0 < size)
    (hb8 : bytes ≤ 64) (hg : o.guard = none) (s x : Operand) (ho : o.op = .call { callee := .builtin .append, args := #[s, x], argTypes := #[t, t] })
    (v : Value) (n : Nat) (xs : List Value) (hs : a.eval s = v) (hown : w.ownsRow base e size v n xs) (ad : Option Addr) (m c : Nat) (us : List Value) (hx : a.eval x = .slice ad m c) (hsrc : Src w ad m size us) (hl : n + m ≤ 1000000)
    (h : ∀ v' w', w'.ownsRow base e size v' (n + m) (xs ++ us) → Keep (fun k => v.ownBlock = some k) w w' → (∀ k, v'.ownBlock = some k → v.ownBlock = some k ∨ w.heap.size ≤ k) → wpList Tryd.prog ops Q rest (a.put o.dst v') w') : wpList Tryd.prog ops Q (o :: rest) a w := by
  obtain ⟨v', w', hr, h2, h3, h4⟩ := run_append_src w base hbase t e z size bytes ht hinf hz1 hsz hb8 o.type v n xs hown ad m c us hsrc hl
  refine wpList_plain hg fun K hK => ?_
  unfold Oper.wp
  rw [run_exec_append s x t ho hs hx hr]
  exact hK _ _ (h v' w' h2 h3 h4)
theorem Src.ints {w : World} {a : Option Addr} {m : Nat} {vs : List Int} (h : Ints w a m vs) : Src w a m 1 (icells vs) := by
  refine ⟨by simp [icells, h.ln], h.sm, fun x hx j u hu => ?_, icells_one⟩
  simp only [icells, List.getElem?_map] at hu
  have hj : j < vs.length := by
    rcases Nat.lt_or_ge j vs.length with h1 | h1
    · exact h1
    · rw [List.getElem?_eq_none h1] at hu; cases hu
  rw [h.cl x hx j (by have := h.ln; omega), List.getD_eq_getElem?_getD, List.getElem?_eq_getElem hj]
  rw [List.getElem?_eq_getElem hj] at hu
  exact hu
theorem FV.one {w : World} {n0 : Nat} {t : Option Nat} {fs : List FV} (h : ∀ x ∈ fs, x.At w n0 t) : ∀ u ∈ fs.flatMap FV.cells, u.oneCell' = true := by
  intro u hu
  obtain ⟨x, hx, hu⟩ := List.mem_flatMap.1 hu
  obtain ⟨a, c, _, hv, _⟩ := (h x hx).form
  simp only [FV.cells, hv, List.mem_cons, List.not_mem_nil, or_false] at hu
  rcases hu with rfl | rfl | rfl | rfl | rfl <;> rfl
/-- A part of a row of frames. -/
theorem Src.part {w : World} {n0 : Nat} {t : Option Nat} {base g n cap : Nat} {e : TypeId} {fs : List FV} (h : FRow w n0 t base e (.slice (some ⟨g, 0, none⟩) n cap) fs) (hn : fs.length = n) (i m : Nat) (him : i + m ≤ n) : Src w (some ⟨g, i * 5, none⟩) m 5 (((fs.drop i).take m).flatMap FV.cells) := by
  have hr := h.row
  rw [hn] at hr
  refine ⟨?_, fun _ => ⟨_, rfl⟩, fun x hx j u hu => ?_, FV.one (w := w) (n0 := n0) (t := t) fun x hx => h.nums x (List.mem_of_mem_drop (List.mem_of_mem_take hx))⟩
  · rw [fm_len FV.cells 5 FV.cells_len]
    simp
    omega
  · obtain rfl := Option.some.inj hx
    rw [show (⟨g, i * 5, none⟩ : Addr).add j = ⟨g, i * 5 + j, none⟩ from by by_cases h0 : j = 0 <;> simp [Addr.add, h0]]
    refine own_get hr _ ?_
    rw [← fm_take FV.cells 5 FV.cells_len, ← fm_drop FV.cells 5 FV.cells_len, List.getElem?_take, List.getElem?_drop] at hu
    split at hu
    · exact hu
    · cases hu
theorem Src.head {w : World} {n0 : Nat} {t : Option Nat} {base g n cap : Nat} {e : TypeId} {fs : List FV} (h : FRow w n0 t base e (.slice (some ⟨g, 0, none⟩) n cap) fs) (hn : fs.length = n) (k : Nat) (hk : k ≤ n) : Src w (some ⟨g, 0, none⟩) k 5 ((fs.take k).flatMap FV.cells) := by
  have := Src.part h hn 0 k (by omega)
  rwa [List.drop_zero, Nat.zero_mul] at this
theorem Src.tail {w : World} {n0 : Nat} {t : Option Nat} {base g n cap : Nat} {e : TypeId} {fs : List FV} (h : FRow w n0 t base e (.slice (some ⟨g, 0, none⟩) n cap) fs) (hn : fs.length = n) (k : Nat) (hk : k ≤ n) : Src w (some ⟨g, k * 5, none⟩) (n - k) 5 ((fs.drop k).flatMap FV.cells) := by
  have := Src.part h hn k (n - k) (by omega)
  rwa [List.take_of_length_le (by simp; omega)] at this
theorem Src.zero (w : World) (ad : Addr) (nets : List FV) (kk : Nat) (h : nets.length ≤ kk + 1) : Src w (some ad) (nets.length - (kk + 1)) 5 ((nets.drop (kk + 1)).flatMap FV.cells) := by
  have h1 : nets.drop (kk + 1) = [] := List.drop_of_length_le h
  rw [h1]
  exact ⟨by simp; omega, fun _ => ⟨_, rfl⟩, fun x _ j u hu => by simp at hu, fun u hu => by simp at hu⟩
theorem Src.all {w : World} {n0 : Nat} {t : Option Nat} {base n cap : Nat} {a : Option Addr} {e : TypeId} {fs : List FV} (h : FRow w n0 t base e (.slice a n cap) fs) (hn : fs.length = n) : Src w a n 5 (fs.flatMap FV.cells) := by
  rcases Nat.eq_zero_or_pos n with h0 | h0
  · subst h0
    obtain rfl := List.eq_nil_of_length_eq_zero hn
    exact ⟨rfl, fun h => by omega, fun x _ j u hu => by simp at hu, fun u hu => by simp at hu⟩
  · have hr := h.row
    obtain ⟨g, cp, he⟩ := own_some hr (by omega)
    simp only [Value.slice.injEq] at he
    obtain ⟨rfl, _, rfl⟩ := he
    have := Src.part h hn 0 n (by omega)
    rw [List.drop_zero, List.take_of_length_le (by omega), Nat.zero_mul] at this
    exact this

theorem FRow.getp {w : World} {n0 : Nat} {t : Option Nat} {base g n cap : Nat} {e : TypeId} {fs : List FV} (h : FRow w n0 t base e (.slice (some ⟨g, 0, none⟩) n cap) fs) (hn : fs.length = n) {j : Nat} {x : FV} (hx : fs[j]? = some x) :
    w.cell? ⟨g, j * 5, none⟩ = some (.int .u8 (x.f.kind.toNat : Int)) ∧ w.cell? ⟨g, j * 5 + 1, none⟩ = some (.int .i64 x.f.fr) ∧ w.cell? ⟨g, j * 5 + 2, none⟩ = some (.int .i64 x.f.to) ∧ w.cell? ⟨g, j * 5 + 3, none⟩ = some (.int .i64 x.f.seq) ∧ w.cell? ⟨g, j * 5 + 4, none⟩ = some x.v := by
  have hr := h.row
  rw [hn] at hr
  have c : ∀ i v, (FV.cells x)[i]? = some v → i < 5 → w.cell? ⟨g, j * 5 + i, none⟩ = some v := fun i v hv hi => own_get hr _ ((fm_get FV.cells 5 FV.cells_len fs j i x hx hi).trans hv)
  exact ⟨c 0 _ rfl (by omega), c 1 _ rfl (by omega), c 2 _ rfl (by omega), c 3 _ rfl (by omega), c 4 _ rfl (by omega)⟩
/-- Told turns: all else stays. -/
theorem Wr.told {w : World} {n0 : Nat} {t : Option Nat} (h : ∀ b, t = some b → n0 ≤ b) : Wr w n0 t fun b => t = some b := fun b hb _ => ⟨h b hb, fun _ => hb⟩
structure Told (w w' : World) (n0 : Nat) (t t' : Option Nat) : Prop where
  keep : Keep (fun b => t = some b) w w'
  lo : ∀ b, t = some b → n0 ≤ b
  int : ∀ b, t = some b → IsInt w b
  new : ∀ b, t' = some b → t = some b ∨ w.heap.size ≤ b
theorem NumsAt.told {w w' : World} {n0 : Nat} {t t' : Option Nat} {v : Value} {l : List Int} (h : NumsAt w n0 t v l) (k : Told w w' n0 t t') : NumsAt w' n0 t' v l := by
  obtain ⟨a, cap, rfl, hi, hb⟩ := h
  have hne : ∀ x, a = some x → 0 < l.length → ¬ t = some x.block := fun x hx hl e => by
    rcases hb x hx hl with h1 | h1
    · have := k.lo _ e; omega
    · exact h1.2 e
  refine ⟨a, cap, rfl, hi.keep k.keep hne, fun x hx hl => (hb x hx hl).imp id fun h1 => ⟨h1.1.keep k.keep (hne x hx hl), fun e => ?_⟩⟩
  rcases k.new _ e with h2 | h2
  · exact h1.2 h2
  · have := hi.blt hx hl; omega
theorem Told.ne {w w' : World} {n0 : Nat} {t t' : Option Nat} (k : Told w w' n0 t t') {b : Nat} {c : Array Value} {e : TypeId} (hb : Blk w b c e) (hne : e ≠ 3) : ¬ t = some b := fun h => IsInt.not hb hne (k.int b h)
theorem SndAt.told {w w' : World} {n0 : Nat} {t t' : Option Nat} {p : Nat} {s : Snd} {lv : Value} {ks : List (FV × Int)} (h : SndAt w n0 t p s lv ks) (k : Told w w' n0 t t') : SndAt w' n0 t' p s lv ks :=
  ⟨h.hp.keep k.keep (k.ne h.hp (by decide)), row_keep h.hl k.keep (fun b hb => by
    obtain ⟨c, hc⟩ := own_ty h.hl hb
    exact k.ne hc (by decide)), fun x hx => NumsAt.told (h.hn x hx) k, h.eq, h.lo⟩
theorem RcvAt.told {w w' : World} {n0 : Nat} {t t' : Option Nat} {q b : Nat} {r : Rcv} {ms : List FV} (h : RcvAt w n0 t q b r ms) (k : Told w w' n0 t t') : RcvAt w' n0 t' q b r ms :=
  ⟨h.hp.keep k.keep (k.ne h.hp (by decide)), h.hm.keep k.keep (fun e => by
    obtain ⟨es, c, hb, _⟩ := h.hm
    obtain ⟨c', z, hi⟩ := k.int b e
    rw [hb] at hi
    cases hi), fun x hx => NumsAt.told (h.hn x hx) k, h.eq, h.lo⟩
theorem FRow.told {w w' : World} {n0 : Nat} {t t' : Option Nat} {base : Nat} {e : TypeId} {v : Value} {fs : List FV} (h : FRow w n0 t base e v fs) (k : Told w w' n0 t t') (he : e ≠ 3) : FRow w' n0 t' base e v fs :=
  ⟨row_keep h.row k.keep (fun b hb => by
    obtain ⟨c, hc⟩ := own_ty h.row hb
    exact k.ne hc he), fun x hx => NumsAt.told (h.nums x hx) k⟩

/-- What lies where, while the law goes on: d are told, e are due. -/
structure LOn (w0 : World) (N : List Int) (n p q b a d e : Nat) (now c : Int) (r : Rcv) (nv tv : Value) (nets : List FV) (wr : World) : Prop where
  ext : Ext w0 wr
  snd : ∃ lv ks, SndAt wr w0.heap.size tv.ownBlock p (osn N n a now c) lv ks
  rcv : ∃ ms, RcvAt wr w0.heap.size tv.ownBlock q b r ms
  net : FRow wr w0.heap.size tv.ownBlock w0.heap.size 48 nv nets
  told : IRow w0.heap.size wr tv (N.take d)
  orc : ORcv N n e r
  st : Rcv.find r.wait r.due = none
  all : ∀ x ∈ nets, ∃ j, j < n ∧ x.f = ofr N j
  ae : a ≤ e
  de : d ≤ e
  c0 : 0 ≤ c
  c1 : c ≤ now
  c2 : now ≤ c + 2
section
variable {w0 : World} {N : List Int} {n p q b a d e : Nat} {now c : Int} {r : Rcv} {nv tv : Value} {nets : List FV} {wr : World}
theorem LOn.on (h : LOn w0 N n p q b a d e now c r nv tv nets wr) {w' : World} (x : Ext wr w') : LOn w0 N n p q b a d e now c r nv tv nets w' := by
  obtain ⟨lv, ks, hs⟩ := h.snd
  obtain ⟨ms, hr⟩ := h.rcv
  exact ⟨h.ext.trans x, ⟨lv, ks, hs.ext x⟩, ⟨ms, hr.ext x⟩, h.net.ext x, h.told.ext x, h.orc, h.st, h.all, h.ae, h.de, h.c0, h.c1, h.c2⟩
theorem LOn.tlt (h : LOn w0 N n p q b a d e now c r nv tv nets wr) : ∀ k, tv.ownBlock = some k → w0.heap.size ≤ k ∧ k < wr.heap.size := fun _ hk => h.told.lt hk
theorem LOn.tint (h : LOn w0 N n p q b a d e now c r nv tv nets wr) : ∀ k, tv.ownBlock = some k → ∃ c, Blk wr k c 3 := fun _ hk => own_ty (show wr.ownsRow w0.heap.size 3 1 tv _ (icells (N.take d)) from h.told) hk
/-- What is written of the sender does no harm. -/
theorem LOn.by_snd (h : LOn w0 N n p q b a d e now c r nv tv nets wr) {w' : World} {lv lv' : Value} {ks ks' : List (FV × Int)} (hs : SndAt wr w0.heap.size tv.ownBlock p (osn N n a now c) lv ks) (k : Keep (fun g => g = p ∨ lv.ownBlock = some g) wr w') {a' : Nat} {now' c' : Int} (hs' : SndAt w' w0.heap.size tv.ownBlock p (osn N n a' now' c') lv' ks')
    (hae : a' ≤ e) (h0 : 0 ≤ c') (h1 : c' ≤ now') (h2 : now' ≤ c' + 2) : LOn w0 N n p q b a' d e now' c' r nv tv nets w' := by
  obtain ⟨ms, hr⟩ := h.rcv
  have hwr : Wr wr w0.heap.size tv.ownBlock fun g => g = p ∨ lv.ownBlock = some g := (Wr.blk hs.hp (by decide) hs.lo).or (Wr.row hs.hl (by decide))
  have hX : ∀ (g : Nat) (c : Array Value) (ty : TypeId), Blk wr g c ty → ty ≠ 88 → ty ≠ 97 → ¬ (g = p ∨ lv.ownBlock = some g) := fun g c ty hb h1 h2 e => by
    rcases e with e | e
    · subst e; exact h1 (hb.inj hs.hp).2
    · obtain ⟨c', hc'⟩ := own_ty hs.hl e
      exact h2 (hb.inj hc').2
  refine ⟨hs.ext_of h.ext k, ⟨lv', ks', hs'⟩, ⟨ms, RcvAt.beside hs hr k⟩, h.net.keep k hwr fun g hg => ?_, h.told.keep k fun g hg => ?_, h.orc, h.st, h.all, hae, h.de, h0, h1, h2⟩
  · obtain ⟨cc, hc⟩ := own_ty h.net.row hg
    exact hX g cc _ hc (by decide) (by decide)
  · obtain ⟨cc, hc⟩ := h.tint g hg
    exact hX g cc _ hc (by decide) (by decide)
theorem LOn.tick (h : LOn w0 N n p q b a d e now c r nv tv nets wr) (hn : n ≤ 40) (hw : now ≤ 900) :
    Calls Tryd.prog 18 #[.pointer (some ⟨p, 0, none⟩)] wr fun ee w' => ∃ ov outs, ee = .returned ov ∧ LOn w0 N n p q b a d e (now + 1) (if now + 1 - c = 3 then now + 1 else c) r nv tv nets w' ∧ FRow w' w0.heap.size tv.ownBlock wr.heap.size 48 ov outs ∧ outs.map FV.f = if now + 1 - c = 3 then (List.range' a (n - a)).map (ofr N) else [] := by
  obtain ⟨lv, ks, hs⟩ := h.snd
  have h0 := h.c0
  have h1 := h.c1
  have h2 := h.c2
  refine (tick_any (osn N n a now c) 1000 (osn_ok N n a now c hn h0 h1 (by omega)) (by omega) wr w0.heap.size tv.ownBlock p lv ks hs h.ext.size (fun k hk => (h.tlt k hk).2) (fun x hx => osn_nums N n a now c (x.1.f, x.2) (by rw [hs.eq]; exact List.mem_map.2 ⟨x, hx, rfl⟩))).mono fun ee w' hx => ?_
  obtain ⟨ov, outs, ks', e1, e2, e3, e4, e5⟩ := hx
  rw [osn_tick] at e2
  rw [osn_again] at e4
  refine ⟨ov, outs, e1, h.by_snd hs e5 e2 h.ae ?_ ?_ ?_, e3, e4⟩
  · split <;> omega
  · split <;> omega
  · split <;> omega
theorem LOn.acked (h : LOn w0 N n p q b a d e now c r nv tv nets wr) (hn : n ≤ 40) (han : a ≤ n) :
    Calls Tryd.prog 20 #[.pointer (some ⟨p, 0, none⟩), .int .i64 (e : Int)] wr fun ee w' => ee = .returned (.tuple #[]) ∧ LOn w0 N n p q b e d e now c r nv tv nets w' := by
  obtain ⟨lv, ks, hs⟩ := h.snd
  have hl : (osn N n a now c).l.length ≤ 200 := by simp [osn]; omega
  refine (acked_any (osn N n a now c) (e : Int) wr w0.heap.size tv.ownBlock p lv ks hs hl).mono fun ee w' hx => ?_
  obtain ⟨e1, lv', ks', e2, e3⟩ := hx
  rw [osn_acked N n a e now c h.ae han h.orc.le] at e2
  exact ⟨e1, h.by_snd hs e3 e2 (Nat.le_refl _) h.c0 h.c1 h.c2⟩
theorem LOn.due (h : LOn w0 N n p q b a d e now c r nv tv nets wr) : Calls Tryd.prog 26 #[.pointer (some ⟨q, 0, none⟩)] wr fun ee w' => ee = .returned (.int .i64 (e : Int)) ∧ wr = w' := by
  obtain ⟨ms, hr⟩ := h.rcv
  have := due_any wr _ _ _ _ _ _ hr
  rwa [h.orc.due] at this
theorem LOn.take (h : LOn w0 N n p q b a d e now c r nv tv nets wr) (hn : n ≤ 40) (hv : ∀ k, k < n → 0 ≤ N.getD k 0 ∧ N.getD k 0 ≤ 2147483648) (x : FV) (hx : x.At wr w0.heap.size tv.ownBlock) (j : Nat) (hj : j < n) (hxj : x.f = ofr N j) (ev : Nat → Value) (he : ErrsC w0 ev) (hev : ∀ c, c ≠ 0 → ∃ t v, ev c = .iface t v) :
    Calls Tryd.prog 22 #[.pointer (some ⟨q, 0, none⟩), x.val] wr fun ee w' => ∃ ov outs e' r', ee = .returned (.tuple #[ov, .nilIface]) ∧ LOn w0 N n p q b a d e' now c r' nv tv nets w' ∧ FRow w' w0.heap.size tv.ownBlock wr.heap.size 48 ov outs ∧ outs.map FV.f = (List.range' e (e' - e)).map (ofr N) ∧ e ≤ e' ∧ (j ≤ e → j + 1 ≤ e') ∧ ∀ base v fs, FRow wr w0.heap.size tv.ownBlock base 48 v fs → FRow w' w0.heap.size tv.ownBlock base 48 v fs := by
  obtain ⟨ms, hr⟩ := h.rcv
  obtain ⟨lv, ks, hs⟩ := h.snd
  obtain ⟨ax, cx, hval, hxv, hxi⟩ := hx.form
  obtain ⟨hr0, hrt⟩ := took_take h.orc hj (by omega) hv
  obtain ⟨e', r', g1, g2, g3, g4, g5⟩ := took_of h.orc h.st hj
  have hdu := h.orc.due
  have hle := h.orc.le
  rw [hval]
  refine (take_any r x.f ax cx wr w0.heap.size tv.ownBlock q b ms hr hxi (by rw [hxj]; simp [ofr]) ev (he.ext h.ext) hev (by omega) (by omega) h.ext.size (fun k hk => (h.tlt k hk).2) h.orc.len (fun g hg => by
    obtain ⟨i, _, rfl⟩ := h.orc.wait g hg
    simp [ofr])).mono fun ee w' hy => ?_
  obtain ⟨ov, outs, ms', e1, e2, e3, e4, e5⟩ := hy
  rw [hxj, hr0] at e1
  rw [hxj, hrt, g1] at e2 e4
  have hwr : Wr wr w0.heap.size tv.ownBlock fun g => g = q ∨ g = b := (Wr.blk hr.hp (by decide) hr.lo.1).or (Wr.map hr.hm hr.lo.2)
  have hX : ∀ (g : Nat) (c : Array Value) (ty : TypeId), Blk wr g c ty → ty ≠ 91 → ¬ (g = q ∨ g = b) := fun g c ty hb h1 ee => by
    rcases ee with ee | ee
    · subst ee; exact h1 (hb.inj hr.hp).2
    · exact hr.hm.qne hb ee
  refine ⟨ov, outs, e', r', e1, ⟨hr.ext_of h.ext e5, ⟨lv, ks, SndAt.beside hs hr e5⟩, ⟨ms', e2⟩, h.net.keep e5 hwr fun g hg => ?_, h.told.keep e5 fun g hg => ?_, g2, g5, h.all, Nat.le_trans h.ae g3, Nat.le_trans h.de g3, h.c0, h.c1, h.c2⟩, e3, e4, g3, g4, fun base v fs hF => hF.keep e5 hwr fun g hg => ?_⟩
  · obtain ⟨cc, hc⟩ := own_ty h.net.row hg
    exact hX g cc _ hc (by decide)
  · obtain ⟨cc, hc⟩ := h.tint g hg
    exact hX g cc _ hc (by decide)
  · obtain ⟨cc, hc⟩ := own_ty hF.row hg
    exact hX g cc _ hc (by decide)
/-- One more is told. -/
theorem LOn.toldK (h : LOn w0 N n p q b a d e now c r nv tv nets wr) {w' : World} {tv' : Value} (k : Keep (fun g => tv.ownBlock = some g) wr w') (hn : ∀ g, tv'.ownBlock = some g → tv.ownBlock = some g ∨ wr.heap.size ≤ g) : Told wr w' w0.heap.size tv.ownBlock tv'.ownBlock :=
  ⟨k, fun g hg => (h.tlt g hg).1, fun g hg => by
    obtain ⟨cc, hc⟩ := h.tint g hg
    exact ⟨cc, _, hc⟩, hn⟩
theorem LOn.say (h : LOn w0 N n p q b a d e now c r nv tv nets wr) {w' : World} {tv' : Value} (k : Told wr w' w0.heap.size tv.ownBlock tv'.ownBlock) {d' : Nat} (ht : IRow w0.heap.size w' tv' (N.take d')) (hd : d' ≤ e) : LOn w0 N n p q b a d' e now c r nv tv' nets w' := by
  obtain ⟨lv, ks, hs⟩ := h.snd
  obtain ⟨ms, hr⟩ := h.rcv
  exact ⟨Keep.new h.ext k.keep fun g hg => k.lo g hg, ⟨lv, ks, hs.told k⟩, ⟨ms, hr.told k⟩, h.net.told k (by decide), ht, h.orc, h.st, h.all, h.ae, hd, h.c0, h.c1, h.c2⟩
/-- The frames that are under way turn. -/
theorem LOn.renet (h : LOn w0 N n p q b a d e now c r nv tv nets wr) {w' : World} {rv : Value} {m base : Nat} {xs : List Value} (hrv : wr.ownsRow base 48 5 rv m xs) (hb : w0.heap.size ≤ base) (k : Keep (fun g => rv.ownBlock = some g) wr w') {nv' : Value} {nets' : List FV} (hn : w'.ownsRow w0.heap.size 48 5 nv' nets'.length (nets'.flatMap FV.cells))
    (hnum : ∀ x ∈ nets', x.At wr w0.heap.size tv.ownBlock) (hall : ∀ x ∈ nets', ∃ j, j < n ∧ x.f = ofr N j) : LOn w0 N n p q b a d e now c r nv' tv nets' w' := by
  obtain ⟨lv, ks, hs⟩ := h.snd
  obtain ⟨ms, hr⟩ := h.rcv
  have hwr : Wr wr w0.heap.size tv.ownBlock fun g => rv.ownBlock = some g := Wr.row (own_base hrv hb) (by decide)
  have hX : ∀ (g : Nat) (c : Array Value) (ty : TypeId), Blk wr g c ty → ty ≠ 48 → ¬ rv.ownBlock = some g := fun g c ty hb h1 e => by
    obtain ⟨c', hc'⟩ := own_ty hrv e
    exact h1 (hb.inj hc').2
  refine ⟨Keep.new h.ext k fun g hg => Nat.le_trans hb (World.ownsRow.lt hrv g hg).1, ⟨lv, ks, hs.keep k hwr (hX _ _ _ hs.hp (by decide)) fun g hg => ?_⟩, ⟨ms, hr.keep k hwr (hX _ _ _ hr.hp (by decide)) fun e => ?_⟩, ⟨hn, fun x hx => NumsAt.keep (hnum x hx) k hwr⟩, h.told.keep k fun g hg => ?_, h.orc, h.st, hall, h.ae, h.de, h.c0, h.c1, h.c2⟩
  · obtain ⟨cc, hc⟩ := own_ty hs.hl hg
    exact hX g cc _ hc (by decide)
  · obtain ⟨c', hc'⟩ := own_ty hrv e
    exact hr.hm.qne hc' rfl
  · obtain ⟨cc, hc⟩ := h.tint g hg
    exact hX g cc _ hc (by decide)
end
theorem AllOf.mono {N : List Int} {n m : Nat} {l : List Fr} (h : AllOf N n l) (hn : n ≤ m) : AllOf N m l := fun f hf => by
  obtain ⟨j, hj, e⟩ := h f hf
  exact ⟨j, by omega, e⟩
/-- At the start: nothing was told yet, and the sender has sent i. -/
theorem LOn.sent {w0 : World} {N : List Int} {i p q b : Nat} {nv : Value} {nets : List FV} {wr w' : World} {r : Rcv} (h : LOn w0 N i p q b 0 0 0 0 0 r nv (.slice none 0 0) nets wr) {lv lv' : Value} {ks ks' : List (FV × Int)} (hs : SndAt wr w0.heap.size none p (oks N i) lv ks) (k : Keep (fun g => g = p ∨ lv.ownBlock = some g) wr w') (hs' : SndAt w' w0.heap.size none p (oks N (i + 1)) lv' ks') :
    LOn w0 N (i + 1) p q b 0 0 0 0 0 r nv (.slice none 0 0) nets w' := by
  rw [oks_osn] at hs hs'
  have h1 : LOn w0 N (i + 1) p q b 0 0 0 0 0 r nv (.slice none 0 0) nets wr → True := fun _ => trivial
  obtain ⟨ms, hr⟩ := h.rcv
  have hwr : Wr wr w0.heap.size none fun g => g = p ∨ lv.ownBlock = some g := (Wr.blk hs.hp (by decide) hs.lo).or (Wr.row hs.hl (by decide))
  refine ⟨hs.ext_of h.ext k, ⟨lv', ks', hs'⟩, ⟨ms, RcvAt.beside hs hr k⟩, h.net.keep k hwr fun g hg => ?_, h.told.keep k fun g hg => (by cases hg), ⟨h.orc.fr, h.orc.to, h.orc.due, by have := h.orc.le; omega, h.orc.wait.mono (by omega), h.orc.len⟩, h.st, fun x hx => ?_, Nat.le_refl _, Nat.le_refl _, by omega, by omega, by omega⟩
  · obtain ⟨cc, hc⟩ := own_ty h.net.row hg
    intro e
    rcases e with e | e
    · exact hc.ty_ne hs.hp (by decide) e
    · obtain ⟨c', hc'⟩ := own_ty hs.hl e
      exact hc.ty_ne hc' (by decide) rfl
  · obtain ⟨j, hj, e⟩ := h.all x hx
    exact ⟨j, by omega, e⟩
end Go.Proofs.YtkabgmohgjljkaaDoor
