/- Texts of one proof, put together: LB. -/
import Derived.Test.YtkabgmohgjljkaaDoorMB14

/- Links: a frame is taken that comes too early. -/
namespace Go.Proofs.YtkabgmohgjljkaaDoor
set_option linter.unusedSimpArgs false
set_option linter.unusedVariables false
open Go Go.RowKit

theorem MapAt.qne {w : World} {b q : Nat} {m : List (Int × Value)} {c : Array Value} {e : TypeId} (h : MapAt w b m) (hq : Blk w q c e) : ¬ q = b := h.ne hq
theorem Wr.map {w : World} {n0 : Nat} {t : Option Nat} {b : Nat} {m : List (Int × Value)} (h : MapAt w b m) (hl : n0 ≤ b) : Wr w n0 t fun g => g = b := fun g hg _ => ⟨by omega, fun hi => by
  subst hg
  obtain ⟨es, c, hb, _⟩ := h
  obtain ⟨c', z, hi⟩ := hi
  rw [hb] at hi
  cases hi⟩


set_option maxRecDepth 100000 in
set_option maxHeartbeats 3200000 in
theorem take_far (r : Rcv) (f : Fr) (a : Option Addr) (cap : Nat) (w : World) (n0 : Nat) (t : Option Nat) (q b : Nat) (ms : List FV) (h : RcvAt w n0 t q b r ms) (hr : Ints w a f.nums.length f.nums) (hl : f.nums.length ≤ 1000)
    (ev : Nat → Value) (he : ErrsC w ev)
    (hc : f.code = 0) (hs1 : f.fr = r.fr) (hs2 : f.to = r.to) (hs3 : f.kind ≠ 97) (hfd : Rcv.find r.wait f.seq = none) (hd : r.due < f.seq) (ht : ∀ b, t = some b → b < w.heap.size) (hwl : r.wait.length ≤ 8) :
    Calls Tryd.prog 22 #[.pointer (some ⟨q, 0, none⟩), frv f a cap] w fun e w' => e = .returned (.tuple #[.slice none 0 0, .nilIface]) ∧ (∃ ms', RcvAt w' n0 t q b (r.took f).2 ms') ∧ Keep (fun g => g = b) w w' := by
  have hE : errv ev 0 = .nilIface := rfl
  have S1 := hid hs1
  have S2 := hid hs2
  have S3 : Hid (¬ (f.kind.toNat : Int) = 97) := hid fun e => hs3 (UInt8.toNat_inj.1 (by rw [show (97 : UInt8).toNat = 97 from rfl]; omega))
  have hto : (r.took f).2 = if r.wait.length < 8 then { r with wait := r.wait ++ [f] } else r := by
    unfold Rcv.took
    rw [if_neg (by rw [hfd]; simp; omega), if_pos hd]
  have Hto := hid hto
  have Hnlt := hid (show ¬ f.seq < r.due by omega)
  have Hd2 := hid hd
  have hml : r.wait.length = ms.length := by rw [h.eq]; simp
  have Hml := hid hml
  have Hhi := hid hr.hi
  have Ht := hid ht
  clear hd hto hml ht
  have hmv := mval_none (ms := ms) (k := f.seq) (by rw [← h.eq]; exact hfd)
  have Hmv := hid hmv
  have Hfd := hid hfd
  clear hmv hfd
  clear hs1 hs2 hs3
  have HK := hid (fcheck_any f a cap _ ev (hr.ext ((Ext.refl w).alloc (.cells #[.int .u8 (f.kind.toNat : Int), .int .i64 f.fr, .int .i64 f.to, .int .i64 f.seq, .slice a f.nums.length cap] 48))) (by omega) (he.ext ((Ext.refl w).alloc _)))
  have hB := Blk.new w #[.int .u8 (f.kind.toNat : Int), .int .i64 f.fr, .int .i64 f.to, .int .i64 f.seq, .slice a f.nums.length cap] 48
  have hx0 := (Ext.refl w).alloc (.cells #[.int .u8 (f.kind.toNat : Int), .int .i64 f.fr, .int .i64 f.to, .int .i64 f.seq, .slice a f.nums.length cap] 48)
  simp only [hc, hE] at HK
  unfold frv at HK ⊢
  have Hr := hid hr
  have H := hid h
  have HB := hid hB
  have Hx0 := hid hx0
  clear hc hE hr h hB hx0
  go_enter Tryd.func22, Tryd.ntmps22
  go_wp2_with fail
  refine HK.out.mono ?_
  intro e w1 hx
  obtain ⟨rfl, hx1⟩ := hx
  have Hx1 := hid (Hx0.out.trans hx1)
  have HB1 := hid (HB.out.ext hx1)
  clear HK hx1 HB Hx0
  have s1 : (f.fr != r.fr) = false := by simp [S1.out]
  have s2 : (f.to != r.to) = false := by simp [S2.out]
  have s3 : ((f.kind.toNat : Int) == 97) = false := beq_eq_false_iff_ne.2 S3.out
  have h1 := H.out.ext Hx1.out
  generalize hN : w.heap.size = N at *
  have HN := hid hN
  clear hN
  go_wp2
  have d0 := HB1.out.kc (X := fun _ => False) (fun e => e) 0 rfl
  have d1 := HB1.out.kc (X := fun _ => False) (fun e => e) 1 rfl
  have d2 := HB1.out.kc (X := fun _ => False) (fun e => e) 2 rfl
  have g0 := h1.hp.kc (X := fun _ => False) (fun e => e) 0 rfl
  have g1 := h1.hp.kc (X := fun _ => False) (fun e => e) 1 rfl
  simp only [List.getElem_toArray, List.getElem_cons_zero, List.getElem_cons_succ] at d0 d1 d2 g0 g1
  refine wp_flowT (fun _ => False) (by kernel_rfl) (by kernel_rfl) ?_
  repeat (apply FlowT.d; (intro w1 hk; unfold does; go_simp; (try go_ints); (first | exact DetR.mk | (simp only [↓IntWalk.iteOmega, Oper.doesUpon_value]; exact DetR.mk) | (simp only [↓IntWalk.iteOmega]; go_simp; (try go_ints); exact DetR.mk))); simp only [Act.put, List.setIfInBounds_toArray, List.set_cons_zero, List.set_cons_succ])
  refine FlowT.fin fun w2 hx2 hk2 => ?_
  have Hx2 := hid (Hx1.out.trans hx2)
  have HB2 := hid (HB1.out.ext hx2)
  clear d0 d1 d2 g0 g1 hx2 hk2 HB1 Hx1 h1
  clear s1 s2 s3
  have h2 := H.out.ext Hx2.out
  have hlk : ∀ wa, Keep (fun g => w2.heap.size ≤ g) w2 wa → (Instr.lookup 89 (.map (some b)) (.int .i64 f.seq) true).run Tryd.prog wa = .ok (.tuple #[.agg #[.int .u8 0, .int .i64 0, .int .i64 0, .int .i64 0, .slice none 0 0], .bool false]) wa := fun wa hk => by
    have := run_map_lookup (P := Tryd.prog) Tryd.underlying89 Tryd.underlying3 (h2.hm.keep hk (by have := h2.hm.lt; omega)) f.seq (frame_zero wa)
    rw [Hmv.out] at this
    simpa [fr0] using this
  have g3 := h2.hp.kc (X := fun g => w2.heap.size ≤ g) (by have := h2.hp.lt; omega) 3 rfl
  have d3 := HB2.out.kc (X := fun g => w2.heap.size ≤ g) (by have := HB2.out.lt; omega) 3 rfl
  simp only [List.getElem_toArray, List.getElem_cons_zero, List.getElem_cons_succ] at g3 d3
  go_wp2
  refine wp_flowT (fun g => w2.heap.size ≤ g) (by kernel_rfl) (by kernel_rfl) ?_
  repeat (apply FlowT.d; (intro w1 hk; unfold does; go_simp; (try go_ints); (first | exact DetR.mk | (simp only [↓IntWalk.iteOmega, Oper.doesUpon_value]; exact DetR.mk) | (simp only [↓IntWalk.iteOmega]; go_simp; (try go_ints); exact DetR.mk))); simp only [Act.put, List.setIfInBounds_toArray, List.set_cons_zero, List.set_cons_succ])
  refine FlowT.s (fun v w' => ∃ b7, v = .pointer (some ⟨b7, 0, none⟩) ∧ Blk w' b7 frz 48 ∧ w2.heap.size ≤ b7 ∧ Ext w2 w') 10 rfl (by kernel_rfl) (fun _ _ _ ⟨b7, e1, e2, e3, e4⟩ x => ⟨b7, e1, e2.ext x, e3, e4.trans x⟩) (fun wa hC hk => ?_) ?_
  · unfold does
    go_simp
    exact ⟨hk.alloc _, _, rfl, Blk.new _ _ _, hC.size, hC.alloc _⟩
  rintro _ ⟨_, b7, rfl, _, hb7, _⟩
  have Hb7 := hid hb7
  clear hb7
  simp only [Act.put, List.setIfInBounds_toArray, List.set_cons_zero, List.set_cons_succ]
  refine FlowT.s (fun _ w' => Blk w' b7 #[.int .u8 0, .int .i64 0, .int .i64 0, .int .i64 0, .slice none 0 0] 48 ∧ Ext w2 w') 11 rfl (by kernel_rfl) (fun _ _ _ ⟨e1, e2⟩ x => ⟨e1.ext x, e2.trans x⟩) (fun wa hC hk => ?_) ?_
  · obtain ⟨b', e, hB, _, hx⟩ := hC
    obtain rfl : b7 = b' := by simpa using e
    have c0 := hB.av 0 rfl
    have c1 := hB.av 1 rfl
    have c2 := hB.av 2 rfl
    have c3 := hB.av 3 rfl
    have c4 := hB.av 4 rfl
    have f0 := hB.free
    unfold does
    go_simp
    exact ⟨hk.trans ((store5_keep _ _ _ _ _ _ _).mono fun b _ e => by subst e; exact Hb7.out), store5 hB, Keep.new hx (store5_keep _ _ _ _ _ _ _) (fun b e => by subst e; exact Hb7.out)⟩
  rintro _ ⟨_, _⟩
  simp only [Act.put, List.setIfInBounds_toArray, List.set_cons_zero, List.set_cons_succ]
  repeat (apply FlowT.d; (intro w1 hk; unfold does; go_simp; (try go_ints); (first | exact DetR.mk | (simp only [↓IntWalk.iteOmega, Oper.doesUpon_value]; exact DetR.mk) | (simp only [↓IntWalk.iteOmega]; go_simp; (try go_ints); exact DetR.mk))); simp only [Act.put, List.setIfInBounds_toArray, List.set_cons_zero, List.set_cons_succ])
  refine FlowT.fin fun w3 hC hk3 => ?_
  obtain ⟨hB7, hx3⟩ := hC
  have Hx3 := hid hx3
  have HB7 := hid hB7
  clear g3 d3 hlk hB7 hx3 hk3
  have h3 := h2.ext Hx3.out
  have hB3 := HB2.out.ext Hx3.out
  have g2 := h3.hp.kc (X := fun _ => False) (fun e => e) 2 rfl
  have d3 := hB3.kc (X := fun _ => False) (fun e => e) 3 rfl
  simp only [List.getElem_toArray, List.getElem_cons_zero, List.getElem_cons_succ] at g2 d3
  have hnlt := Hnlt.out
  go_wp2
  refine wp_flowT (fun _ => False) (by kernel_rfl) (by kernel_rfl) ?_
  repeat (apply FlowT.d; (intro w1 hk; unfold does; go_simp; (try go_ints); (first | exact DetR.mk | (simp only [↓IntWalk.iteOmega, Oper.doesUpon_value]; exact DetR.mk) | (simp only [↓IntWalk.iteOmega]; go_simp; (try go_ints); exact DetR.mk))); simp only [Act.put, List.setIfInBounds_toArray, List.set_cons_zero, List.set_cons_succ])
  refine FlowT.fin fun w4 hx4 hk4 => ?_
  have h4 := h3.ext hx4
  have hB4 := hB3.ext hx4
  have Hx4 := hid (Hx2.out.trans (Hx3.out.trans hx4))
  clear g2 d3 h2 h3 hB3 hx4 hk4 Hx2 Hx3 HB2 HB7 Hb7
  have g2 := h4.hp.kc (X := fun _ => False) (fun e => e) 2 rfl
  have d3 := hB4.kc (X := fun _ => False) (fun e => e) 3 rfl
  simp only [List.getElem_toArray, List.getElem_cons_zero, List.getElem_cons_succ] at g2 d3
  have hd2 := Hd2.out
  go_wp2
  refine wp_flowT (fun _ => False) (by kernel_rfl) (by kernel_rfl) ?_
  repeat (apply FlowT.d; (intro w1 hk; unfold does; go_simp; (try go_ints); (first | exact DetR.mk | (simp only [↓IntWalk.iteOmega, Oper.doesUpon_value]; exact DetR.mk) | (simp only [↓IntWalk.iteOmega]; go_simp; (try go_ints); exact DetR.mk))); simp only [Act.put, List.setIfInBounds_toArray, List.set_cons_zero, List.set_cons_succ])
  refine FlowT.fin fun w5 hx5 hk5 => ?_
  have h5 := h4.ext hx5
  have hB5 := hB4.ext hx5
  have Hx5 := hid (Hx4.out.trans hx5)
  clear g2 d3 h4 hB4 hx5 hk5 Hx4 hnlt
  have g3 := h5.hp.av 3 rfl
  have hlen := fun ty => run_map_len (P := Tryd.prog) Tryd.underlying89 h5.hm ty
  simp only [List.length_map] at hlen
  by_cases hw : r.wait.length < 8
  · have hw' : (ms.length : Int) < 8 := by have := Hml.out; omega
    have Hw := hid hw
    clear hd2 hwl hw
    go_wp2
    have hqb := h5.hm.qne h5.hp
    have hNb := h5.hm.qne hB5
    have g3 := h5.hp.kc (X := fun g => g = b) hqb 3 rfl
    have d0 := hB5.kc (X := fun g => g = b) hNb 0 rfl
    have d1 := hB5.kc (X := fun g => g = b) hNb 1 rfl
    have d2 := hB5.kc (X := fun g => g = b) hNb 2 rfl
    have d3 := hB5.kc (X := fun g => g = b) hNb 3 rfl
    have d4 := hB5.kc (X := fun g => g = b) hNb 4 rfl
    simp only [List.getElem_toArray, List.getElem_cons_zero, List.getElem_cons_succ] at g3 d0 d1 d2 d3 d4
    have H5 := hid h5
    have HC : ∀ wa, Ext w5 wa → Hid (Calls Tryd.prog 34 #[.agg #[.int .u8 (f.kind.toNat : Int), .int .i64 f.fr, .int .i64 f.to, .int .i64 f.seq, .slice a f.nums.length cap]] wa fun e w' => ∃ v, e = .returned (FV.mk f v).val ∧ Ext wa w' ∧ IRow wa.heap.size w' v f.nums) := fun wa x => hid (copied_any f a cap wa (Hr.out.ext (Hx5.out.trans x)) hl)
    clear hlen h5 hB5 hqb hNb hw'
    refine wp_flowT (fun g => g = b) (by kernel_rfl) (by kernel_rfl) ?_
    repeat (apply FlowT.d; (intro w1 hk; unfold does; go_simp; (try go_ints); (first | exact DetR.mk | (simp only [↓IntWalk.iteOmega, Oper.doesUpon_value]; exact DetR.mk) | (simp only [↓IntWalk.iteOmega]; go_simp; (try go_ints); exact DetR.mk))); simp only [Act.put, List.setIfInBounds_toArray, List.set_cons_zero, List.set_cons_succ])
    refine FlowT.s (fun v w' => ∃ v7, v = (FV.mk f v7).val ∧ IRow w5.heap.size w' v7 f.nums ∧ Ext w5 w') 7 rfl (by kernel_rfl) (fun _ _ _ ⟨v7, e1, e2, e3⟩ x => ⟨v7, e1, e2.ext x, e3.trans x⟩) (fun wa hC hk => ?_) ?_
    · unfold does
      go_simp
      refine CallR.act ((HC wa hC).out.mono ?_)
      rintro e wb ⟨v, rfl, hx, hI⟩
      exact ⟨_, rfl, (hC.trans hx).keep _, v, rfl, hI.base hC.size, hC.trans hx⟩
    rintro _ ⟨_, v7, rfl, _, _⟩
    simp only [Act.put, List.setIfInBounds_toArray, List.set_cons_zero, List.set_cons_succ]
    refine FlowT.last (fun _ w' => ∃ wa, Ext w5 wa ∧ IRow w5.heap.size wa v7 f.nums ∧ MapAt w' b (ms.map (fun x => (x.f.seq, x.val)) ++ [(f.seq, (FV.mk f v7).val)]) ∧ Keep (fun g => g = b) wa w') 8 rfl (by kernel_rfl) (by kernel_rfl) (fun wa hC hk => ?_) (fun _ w6 hR => ?_)
    · obtain ⟨v8, e8, hI, hx⟩ := hC
      obtain rfl : v7 = v8 := by simpa [FV.val] using e8
      exact does_map_new rfl (.tmp 75) (.tmp 77) (.tmp 79) 89 3 48 rfl Tryd.underlying89 Tryd.underlying3 b _ (H5.out.hm.ext hx) rfl f.seq rfl _ rfl Hmv.out (fun w' r1 r2 => ⟨wa, hx, hI, r1, r2⟩)
    obtain ⟨wa, hxa, hI, hM, hkm⟩ := hR
    simp only [Act.put]
    have h6 := H5.out.ext hxa
    have hwr : Wr wa n0 t fun g => g = b := Wr.map h6.hm h6.lo.2
    have hfin : RcvAt w6 n0 t q b (r.took f).2 (ms ++ [⟨f, v7⟩]) := by
      rw [Hto.out, if_pos Hw.out]
      refine ⟨h6.hp.keep hkm (h6.hm.qne h6.hp), by simpa using hM, fun x hx => ?_, by simp [h6.eq], h6.lo⟩
      rcases List.mem_append.1 hx with hx | hx
      · exact NumsAt.keep (h6.hn x hx) hkm hwr
      · obtain rfl := List.mem_singleton.1 hx
        refine NumsAt.keep (NumsAt.of_row hI Hhi.out fun c hc e => ?_) hkm hwr
        have h1 := (hI.lt hc).1
        have h2 := Ht.out c e
        have h3 := Hx5.out.size
        have h4 := HN.out
        omega
    have Hfin := hid hfin
    have HK := hid ((Hx5.out.keep fun g => g = b).trans ((hxa.keep fun g => g = b).trans hkm))
    clear hfin h6 hwr hxa hI hM hkm g3 d0 d1 d2 d3 d4 HC
    go_wp2
    go_ret2
    exact ⟨rfl, ⟨_, Hfin.out⟩, HK.out⟩
  · have hw' : ¬ (ms.length : Int) < 8 := by have := Hml.out; omega
    have H5 := hid h5
    have Hw := hid hw
    clear hd2 hwl hw h5 hB5
    go_wp2
    go_ret2
    exact ⟨rfl, ⟨ms, by rw [Hto.out, if_neg Hw.out]; exact H5.out⟩, Hx5.out.keep _⟩
end Go.Proofs.YtkabgmohgjljkaaDoor
