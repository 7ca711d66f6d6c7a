/- Texts of one proof, put together: LC LD LE LO. -/
import Derived.Test.YtkabgmohgjljkaaDoorMB06
import Derived.Test.YtkabgmohgjljkaaDoorMB13
import Derived.Test.YtkabgmohgjljkaaDoorMB15

/- Links: the frame that is due is taken, and what waited behind it. -/
namespace Go.Proofs.YtkabgmohgjljkaaDoor
set_option linter.unusedSimpArgs false
set_option linter.unusedVariables false
open Go Go.RowKit

/-- How many entries a map has. -/
def mapSize (w : World) (b : Nat) : Nat := match w.heap[b]? with
  | some (.map es _) => es.size
  | _ => 0
theorem MapAt.size {w : World} {b : Nat} {m : List (Int × Value)} (h : MapAt w b m) : mapSize w b = m.length := by
  obtain ⟨es, c, hb, he⟩ := h
  unfold mapSize
  rw [hb]
  have := congrArg List.length he
  simpa using this
theorem Rcv.run_none {n : Nat} {r : Rcv} {out : List Fr} (h : find r.wait r.due = none) : run (n + 1) r out = (out, r) := by
  unfold run
  rw [h]
theorem Rcv.run_some {n : Nat} {r : Rcv} {out : List Fr} {k : Nat} {f : Fr} (h : find r.wait r.due = some k) (hf : r.wait[k]? = some f) : run (n + 1) r out = run n { r with due := r.due + 1, wait := r.wait.eraseIdx k } (out ++ [f]) := by
  conv => lhs; unfold run
  rw [h]
  simp [hf]

theorem map_eraseIdx {α β : Type} (g : α → β) (l : List α) (j : Nat) : (l.eraseIdx j).map g = (l.map g).eraseIdx j := by
  simp only [List.eraseIdx_eq_take_drop_succ, List.map_append, List.map_take, List.map_drop]
set_option maxRecDepth 100000 in
set_option maxHeartbeats 3200000 in
theorem take_now (r : Rcv) (f : Fr) (a : Option Addr) (cap : Nat) (w : World) (n0 : Nat) (t : Option Nat) (q b : Nat) (ms : List FV) (h : RcvAt w n0 t q b r ms) (hr : Ints w a f.nums.length f.nums) (hl : f.nums.length ≤ 1000)
    (ev : Nat → Value) (he : ErrsC w ev)
    (hc : f.code = 0) (hs1 : f.fr = r.fr) (hs2 : f.to = r.to) (hs3 : f.kind ≠ 97) (hfd : Rcv.find r.wait f.seq = none) (hd : r.due = f.seq) (hd0 : 0 ≤ r.due) (hd1 : r.due ≤ 1000000) (hn0 : n0 ≤ w.heap.size) (ht : ∀ b, t = some b → b < w.heap.size) (hwl : r.wait.length ≤ 8) (hnl : ∀ x ∈ ms, x.f.nums.length ≤ 1000) :
    Calls Tryd.prog 22 #[.pointer (some ⟨q, 0, none⟩), frv f a cap] w fun e w' => ∃ ov outs ms', e = .returned (.tuple #[ov, .nilIface]) ∧ RcvAt w' n0 t q b (r.took f).2 ms' ∧ FRow w' n0 t w.heap.size 48 ov outs ∧ outs.map FV.f = (r.took f).1 ∧ Keep (fun g => g = q ∨ g = b) w w' := by
  have hE : errv ev 0 = .nilIface := rfl
  have S1 := hid hs1
  have S2 := hid hs2
  have S3 : Hid (¬ (f.kind.toNat : Int) = 97) := hid fun e => hs3 (UInt8.toNat_inj.1 (by rw [show (97 : UInt8).toNat = 97 from rfl]; omega))
  have hto : r.took f = Rcv.run (r.wait.length + 1) { r with due := r.due + 1 } [f] := by
    unfold Rcv.took
    rw [if_neg (by rw [hfd]; simp; omega), if_neg (by omega)]
  have Hto := hid hto
  have Hnlt := hid (show ¬ f.seq < r.due by omega)
  have Hd2 := hid (show ¬ r.due < f.seq by omega)
  have Hd0 := hid hd0
  have Hd1 := hid hd1
  have hml : r.wait.length = ms.length := by rw [h.eq]; simp
  have Hml := hid hml
  have Hhi := hid hr.hi
  have Ht := hid ht
  have Hn0 := hid hn0
  have Hwl := hid hwl
  have Hnl := hid hnl
  clear hd hto hml ht hd0 hd1 hwl hn0 hnl
  have hmv := mval_none (ms := ms) (k := f.seq) (by rw [← h.eq]; exact hfd)
  have Hmv := hid hmv
  have Hfd := hid hfd
  clear hmv hfd
  clear hs1 hs2 hs3
  have HK := hid (fcheck_any f a cap _ ev (hr.ext ((Ext.refl w).alloc (.cells #[.int .u8 (f.kind.toNat : Int), .int .i64 f.fr, .int .i64 f.to, .int .i64 f.seq, .slice a f.nums.length cap] 48))) (by omega) (he.ext ((Ext.refl w).alloc _)))
  have hB := Blk.new w #[.int .u8 (f.kind.toNat : Int), .int .i64 f.fr, .int .i64 f.to, .int .i64 f.seq, .slice a f.nums.length cap] 48
  have hx0 := (Ext.refl w).alloc (.cells #[.int .u8 (f.kind.toNat : Int), .int .i64 f.fr, .int .i64 f.to, .int .i64 f.seq, .slice a f.nums.length cap] 48)
  simp only [hc, hE] at HK
  unfold frv at HK ⊢
  have Hr := hid hr
  have H := hid h
  have HB := hid hB
  have Hx0 := hid hx0
  clear hc hE hr h hB hx0
  go_enter Tryd.func22, Tryd.ntmps22
  go_wp2_with fail
  refine HK.out.mono ?_
  intro e w1 hx
  obtain ⟨rfl, hx1⟩ := hx
  have Hx1 := hid (Hx0.out.trans hx1)
  have HB1 := hid (HB.out.ext hx1)
  clear HK hx1 HB Hx0
  have s1 : (f.fr != r.fr) = false := by simp [S1.out]
  have s2 : (f.to != r.to) = false := by simp [S2.out]
  have s3 : ((f.kind.toNat : Int) == 97) = false := beq_eq_false_iff_ne.2 S3.out
  have h1 := H.out.ext Hx1.out
  generalize hN : w.heap.size = N at *
  have HN := hid hN
  clear hN
  go_wp2
  have d0 := HB1.out.kc (X := fun _ => False) (fun e => e) 0 rfl
  have d1 := HB1.out.kc (X := fun _ => False) (fun e => e) 1 rfl
  have d2 := HB1.out.kc (X := fun _ => False) (fun e => e) 2 rfl
  have g0 := h1.hp.kc (X := fun _ => False) (fun e => e) 0 rfl
  have g1 := h1.hp.kc (X := fun _ => False) (fun e => e) 1 rfl
  simp only [List.getElem_toArray, List.getElem_cons_zero, List.getElem_cons_succ] at d0 d1 d2 g0 g1
  refine wp_flowT (fun _ => False) (by kernel_rfl) (by kernel_rfl) ?_
  repeat (apply FlowT.d; (intro w1 hk; unfold does; go_simp; (try go_ints); (first | exact DetR.mk | (simp only [↓IntWalk.iteOmega, Oper.doesUpon_value]; exact DetR.mk) | (simp only [↓IntWalk.iteOmega]; go_simp; (try go_ints); exact DetR.mk))); simp only [Act.put, List.setIfInBounds_toArray, List.set_cons_zero, List.set_cons_succ])
  refine FlowT.fin fun w2 hx2 hk2 => ?_
  have Hx2 := hid (Hx1.out.trans hx2)
  have HB2 := hid (HB1.out.ext hx2)
  clear d0 d1 d2 g0 g1 hx2 hk2 HB1 Hx1 h1
  clear s1 s2 s3
  have h2 := H.out.ext Hx2.out
  have hlk : ∀ wa, Keep (fun g => w2.heap.size ≤ g) w2 wa → (Instr.lookup 89 (.map (some b)) (.int .i64 f.seq) true).run Tryd.prog wa = .ok (.tuple #[.agg #[.int .u8 0, .int .i64 0, .int .i64 0, .int .i64 0, .slice none 0 0], .bool false]) wa := fun wa hk => by
    have := run_map_lookup (P := Tryd.prog) Tryd.underlying89 Tryd.underlying3 (h2.hm.keep hk (by have := h2.hm.lt; omega)) f.seq (frame_zero wa)
    rw [Hmv.out] at this
    simpa [fr0] using this
  have g3 := h2.hp.kc (X := fun g => w2.heap.size ≤ g) (by have := h2.hp.lt; omega) 3 rfl
  have d3 := HB2.out.kc (X := fun g => w2.heap.size ≤ g) (by have := HB2.out.lt; omega) 3 rfl
  simp only [List.getElem_toArray, List.getElem_cons_zero, List.getElem_cons_succ] at g3 d3
  go_wp2
  refine wp_flowT (fun g => w2.heap.size ≤ g) (by kernel_rfl) (by kernel_rfl) ?_
  repeat (apply FlowT.d; (intro w1 hk; unfold does; go_simp; (try go_ints); (first | exact DetR.mk | (simp only [↓IntWalk.iteOmega, Oper.doesUpon_value]; exact DetR.mk) | (simp only [↓IntWalk.iteOmega]; go_simp; (try go_ints); exact DetR.mk))); simp only [Act.put, List.setIfInBounds_toArray, List.set_cons_zero, List.set_cons_succ])
  refine FlowT.s (fun v w' => ∃ b7, v = .pointer (some ⟨b7, 0, none⟩) ∧ Blk w' b7 frz 48 ∧ w2.heap.size ≤ b7 ∧ Ext w2 w') 10 rfl (by kernel_rfl) (fun _ _ _ ⟨b7, e1, e2, e3, e4⟩ x => ⟨b7, e1, e2.ext x, e3, e4.trans x⟩) (fun wa hC hk => ?_) ?_
  · unfold does
    go_simp
    exact ⟨hk.alloc _, _, rfl, Blk.new _ _ _, hC.size, hC.alloc _⟩
  rintro _ ⟨_, b7, rfl, _, hb7, _⟩
  have Hb7 := hid hb7
  clear hb7
  simp only [Act.put, List.setIfInBounds_toArray, List.set_cons_zero, List.set_cons_succ]
  refine FlowT.s (fun _ w' => Blk w' b7 #[.int .u8 0, .int .i64 0, .int .i64 0, .int .i64 0, .slice none 0 0] 48 ∧ Ext w2 w') 11 rfl (by kernel_rfl) (fun _ _ _ ⟨e1, e2⟩ x => ⟨e1.ext x, e2.trans x⟩) (fun wa hC hk => ?_) ?_
  · obtain ⟨b', e, hB, _, hx⟩ := hC
    obtain rfl : b7 = b' := by simpa using e
    have c0 := hB.av 0 rfl
    have c1 := hB.av 1 rfl
    have c2 := hB.av 2 rfl
    have c3 := hB.av 3 rfl
    have c4 := hB.av 4 rfl
    have f0 := hB.free
    unfold does
    go_simp
    exact ⟨hk.trans ((store5_keep _ _ _ _ _ _ _).mono fun b _ e => by subst e; exact Hb7.out), store5 hB, Keep.new hx (store5_keep _ _ _ _ _ _ _) (fun b e => by subst e; exact Hb7.out)⟩
  rintro _ ⟨_, _⟩
  simp only [Act.put, List.setIfInBounds_toArray, List.set_cons_zero, List.set_cons_succ]
  repeat (apply FlowT.d; (intro w1 hk; unfold does; go_simp; (try go_ints); (first | exact DetR.mk | (simp only [↓IntWalk.iteOmega, Oper.doesUpon_value]; exact DetR.mk) | (simp only [↓IntWalk.iteOmega]; go_simp; (try go_ints); exact DetR.mk))); simp only [Act.put, List.setIfInBounds_toArray, List.set_cons_zero, List.set_cons_succ])
  refine FlowT.fin fun w3 hC hk3 => ?_
  obtain ⟨hB7, hx3⟩ := hC
  have Hx3 := hid hx3
  have HB7 := hid hB7
  clear g3 d3 hlk hB7 hx3 hk3
  have h3 := h2.ext Hx3.out
  have hB3 := HB2.out.ext Hx3.out
  have g2 := h3.hp.kc (X := fun _ => False) (fun e => e) 2 rfl
  have d3 := hB3.kc (X := fun _ => False) (fun e => e) 3 rfl
  simp only [List.getElem_toArray, List.getElem_cons_zero, List.getElem_cons_succ] at g2 d3
  have hnlt := Hnlt.out
  go_wp2
  refine wp_flowT (fun _ => False) (by kernel_rfl) (by kernel_rfl) ?_
  repeat (apply FlowT.d; (intro w1 hk; unfold does; go_simp; (try go_ints); (first | exact DetR.mk | (simp only [↓IntWalk.iteOmega, Oper.doesUpon_value]; exact DetR.mk) | (simp only [↓IntWalk.iteOmega]; go_simp; (try go_ints); exact DetR.mk))); simp only [Act.put, List.setIfInBounds_toArray, List.set_cons_zero, List.set_cons_succ])
  refine FlowT.fin fun w4 hx4 hk4 => ?_
  have h4 := h3.ext hx4
  have hB4 := hB3.ext hx4
  have Hx4 := hid (Hx2.out.trans (Hx3.out.trans hx4))
  clear g2 d3 h2 h3 hB3 hx4 hk4 Hx2 Hx3 HB2 HB7 Hb7
  have g2 := h4.hp.kc (X := fun _ => False) (fun e => e) 2 rfl
  have d3 := hB4.kc (X := fun _ => False) (fun e => e) 3 rfl
  simp only [List.getElem_toArray, List.getElem_cons_zero, List.getElem_cons_succ] at g2 d3
  have hd2 := Hd2.out
  go_wp2
  refine wp_flowT (fun _ => False) (by kernel_rfl) (by kernel_rfl) ?_
  repeat (apply FlowT.d; (intro w1 hk; unfold does; go_simp; (try go_ints); (first | exact DetR.mk | (simp only [↓IntWalk.iteOmega, Oper.doesUpon_value]; exact DetR.mk) | (simp only [↓IntWalk.iteOmega]; go_simp; (try go_ints); exact DetR.mk))); simp only [Act.put, List.setIfInBounds_toArray, List.set_cons_zero, List.set_cons_succ])
  refine FlowT.fin fun w5 hx5 hk5 => ?_
  have h5 := h4.ext hx5
  have hB5 := hB4.ext hx5
  have Hx5 := hid (Hx4.out.trans hx5)
  clear g2 d3 h4 hB4 hx5 hk5 Hx4 hnlt
  have d0 := hB5.av 0 rfl
  have d1 := hB5.av 1 rfl
  have d2 := hB5.av 2 rfl
  have d3 := hB5.av 3 rfl
  have d4 := hB5.av 4 rfl
  have HC := hid (copied_any f a cap w5 (Hr.out.ext Hx5.out) hl)
  have H5 := hid h5
  clear h5 hB5
  unfold frv at HC
  go_wp2_with fail
  refine HC.out.mono ?_
  intro e w6 hx
  obtain ⟨v6, rfl, hx6, hI6⟩ := hx
  obtain ⟨a6, c6, rfl⟩ := hI6.form
  have h6 := H5.out.ext hx6
  have hrow : (w6.alloc (.cells #[.int .u8 (f.kind.toNat : Int), .int .i64 f.fr, .int .i64 f.to, .int .i64 f.seq, .slice a6 f.nums.length c6] 48)).ownsRow w6.heap.size 48 5 (.slice (some ⟨w6.heap.size, 0, none⟩) 1 1) 1 (FV.cells ⟨f, .slice a6 f.nums.length c6⟩) :=
    own_of_blk (Blk.new _ _ _) (Nat.le_refl _) (Nat.le_refl _) (by unfold maxLen; omega) rfl rfl
  have hx7 := (Ext.refl w6).alloc (.cells #[.int .u8 (f.kind.toNat : Int), .int .i64 f.fr, .int .i64 f.to, .int .i64 f.seq, .slice a6 f.nums.length c6] 48)
  have h7 := h6.ext hx7
  have hA7 : (FV.mk f (.slice a6 f.nums.length c6)).At (w6.alloc (.cells #[.int .u8 (f.kind.toNat : Int), .int .i64 f.fr, .int .i64 f.to, .int .i64 f.seq, .slice a6 f.nums.length c6] 48)) n0 t := NumsAt.ext (NumsAt.of_row hI6 Hhi.out fun c hc e => by
    have h1 := (hI6.lt hc).1
    have h2 := Ht.out c e
    have h3 := Hx5.out.size
    have h4 := HN.out
    omega) hx7
  have c2 := h7.hp.av 2 rfl
  have f2 := h7.hp.free
  have Hx7 := hid (Hx5.out.trans (hx6.trans hx7))
  have Hrow := hid hrow
  have H7 := hid h7
  have HA7 := hid hA7
  have Hs6 := hid (show N ≤ w6.heap.size by have := Hx5.out.size; have := hx6.size; have := HN.out; omega)
  clear HC hx6 hI6 h6 hrow hx7 h7 hA7 H5 d0 d1 d2 d3 d4 Hx5
  obtain ⟨W7, hW7⟩ : ∃ W7, W7 = w6.alloc (.cells #[.int .u8 (f.kind.toNat : Int), .int .i64 f.fr, .int .i64 f.to, .int .i64 f.seq, .slice a6 f.nums.length c6] 48) := ⟨_, rfl⟩
  rw [← hW7] at Hx7 Hrow H7 HA7
  have hk8 : Keep (fun g => g = q) W7 (W7.setCell ⟨q, 2, none⟩ (.int .i64 (r.due + 1))) := Keep.set (X := fun g => g = q) (Keep.refl _ _) rfl _
  have hp8 := H7.out.hp.set 2 (.int .i64 (r.due + 1))
  simp only [List.setIfInBounds_toArray, List.set_cons_zero, List.set_cons_succ] at hp8
  have hwr8 : Wr W7 n0 t fun g => g = q := Wr.blk H7.out.hp (by decide) H7.out.lo.1
  have hR8 : RcvAt (W7.setCell ⟨q, 2, none⟩ (.int .i64 (r.due + 1))) n0 t q b { r with due := r.due + 1 } ms := ⟨hp8, H7.out.hm.keep hk8 (fun e => H7.out.hm.qne H7.out.hp e.symm), fun x hx => NumsAt.keep (H7.out.hn x hx) hk8 hwr8, H7.out.eq, H7.out.lo⟩
  have hF8 : FRow (W7.setCell ⟨q, 2, none⟩ (.int .i64 (r.due + 1))) n0 t w.heap.size 48 (.slice (some ⟨w6.heap.size, 0, none⟩) 1 1) [⟨f, .slice a6 f.nums.length c6⟩] := by
    refine ⟨?_, fun x hx => ?_⟩
    · have h1 := row_keep (own_base Hrow.out (show w.heap.size ≤ w6.heap.size by have := Hs6.out; have := HN.out; omega)) hk8 fun c hc e => by
        obtain ⟨c', hc'⟩ := own_ty Hrow.out hc
        exact H7.out.hp.ty_ne hc' (by decide) e.symm
      simpa using h1
    · obtain rfl := List.mem_singleton.1 hx
      exact NumsAt.keep HA7.out hk8 hwr8
  have HK8 := hid ((Hx7.out.keep fun g => g = q ∨ g = b).trans (hk8.mono fun g _ h => .inl h))
  have HR8 := hid hR8
  have HF8 := hid hF8
  rw [hW7] at HR8 HF8 HK8
  have hd0 := Hd0.out
  have hd1 := Hd1.out
  clear hk8 hp8 hwr8 hR8 hF8 hW7 Hx7 Hrow H7 HA7
  simp only [FV.val]
  go_wp2
  generalize (w6.alloc (.cells #[.int .u8 (f.kind.toNat : Int), .int .i64 f.fr, .int .i64 f.to, .int .i64 f.seq, .slice a6 f.nums.length c6] 48)).setCell ⟨q, 2, none⟩ (.int .i64 (r.due + 1)) = W8 at *
  generalize w6.heap.size = M at *
  clear c2 f2
  have hwl := Hwl.out
  go_loopw [9] (fun t9 wr => ∃ (r' : Rcv) (ms' : List FV) (outs : List FV), RcvAt wr n0 t q b r' ms' ∧ FRow wr n0 t w.heap.size 48 t9 outs ∧ Rcv.run (r'.wait.length + 1) r' (outs.map FV.f) = Rcv.run (r.wait.length + 1) { r with due := r.due + 1 } [f] ∧ Keep (fun g => g = q ∨ g = b) w wr ∧ 0 ≤ r'.due ∧ r'.due + (r'.wait.length : Int) ≤ r.due + 1 + (r.wait.length : Int) ∧ outs.length + r'.wait.length ≤ 1 + r.wait.length ∧ ∀ x ∈ ms', x.f.nums.length ≤ 1000) (fun _ wr => mapSize wr b)
  case atStart => exact ⟨_, ms, _, HR8.out, HF8.out, rfl, HK8.out, by simp only; omega, by simp only; omega, by simp, Hnl.out⟩
  case round =>
    obtain ⟨r', ms', outs, hR, hF, hrun, hk, e0, e1, e2, hnl'⟩ := hrel
    have Hrun := hid hrun
    have HR := hid hR
    have HF := hid hF
    have Hk := hid hk
    have Hnl' := hid hnl'
    obtain ⟨ao, co, rfl⟩ := hF.form
    clear HR8 HF8 HK8 hrun hF hk hnl'
    cases hfd' : Rcv.find r'.wait r'.due with
    | none =>
      have hmv' := mval_none (ms := ms') (k := r'.due) (by rw [← hR.eq]; exact hfd')
      have Hmv' := hid hmv'
      have Hfd' := hid hfd'
      clear hmv' hfd'
      have hlk : ∀ wa, Keep (fun g => wr.heap.size ≤ g) wr wa → (Instr.lookup 89 (.map (some b)) (.int .i64 r'.due) true).run Tryd.prog wa = .ok (.tuple #[.agg #[.int .u8 0, .int .i64 0, .int .i64 0, .int .i64 0, .slice none 0 0], .bool false]) wa := fun wa hk => by
        have := run_map_lookup (P := Tryd.prog) Tryd.underlying89 Tryd.underlying3 (hR.hm.keep hk (by have := hR.hm.lt; omega)) r'.due (frame_zero wa)
        rw [Hmv'.out] at this
        simpa [fr0] using this
      have g3 := hR.hp.kc (X := fun g => wr.heap.size ≤ g) (by have := hR.hp.lt; omega) 3 rfl
      have d3 := hR.hp.kc (X := fun g => wr.heap.size ≤ g) (by have := hR.hp.lt; omega) 2 rfl
      simp only [List.getElem_toArray, List.getElem_cons_zero, List.getElem_cons_succ] at g3 d3
      go_wp2
      refine wp_flowT (fun g => wr.heap.size ≤ g) (by kernel_rfl) (by kernel_rfl) ?_
      repeat (apply FlowT.d; (intro w1 hk; unfold does; go_simp; (try go_ints); (first | exact DetR.mk | (simp only [↓IntWalk.iteOmega, Oper.doesUpon_value]; exact DetR.mk) | (simp only [↓IntWalk.iteOmega]; go_simp; (try go_ints); exact DetR.mk))); simp only [Act.put, List.setIfInBounds_toArray, List.set_cons_zero, List.set_cons_succ])
      refine FlowT.s (fun v w' => ∃ b7, v = .pointer (some ⟨b7, 0, none⟩) ∧ Blk w' b7 frz 48 ∧ wr.heap.size ≤ b7 ∧ Ext wr w') 12 rfl (by kernel_rfl) (fun _ _ _ ⟨b7, e1, e2, e3, e4⟩ x => ⟨b7, e1, e2.ext x, e3, e4.trans x⟩) (fun wa hC hk => ?_) ?_
      · unfold does
        go_simp
        exact ⟨hk.alloc _, _, rfl, Blk.new _ _ _, hC.size, hC.alloc _⟩
      rintro _ ⟨_, b7, rfl, _, hb7, _⟩
      have Hb7 := hid hb7
      clear hb7
      simp only [Act.put, List.setIfInBounds_toArray, List.set_cons_zero, List.set_cons_succ]
      refine FlowT.s (fun _ w' => Blk w' b7 #[.int .u8 0, .int .i64 0, .int .i64 0, .int .i64 0, .slice none 0 0] 48 ∧ Ext wr w') 13 rfl (by kernel_rfl) (fun _ _ _ ⟨e1, e2⟩ x => ⟨e1.ext x, e2.trans x⟩) (fun wa hC hk => ?_) ?_
      · obtain ⟨b', e, hB, _, hx⟩ := hC
        obtain rfl : b7 = b' := by simpa using e
        have c0 := hB.av 0 rfl
        have c1 := hB.av 1 rfl
        have c2 := hB.av 2 rfl
        have c3 := hB.av 3 rfl
        have c4 := hB.av 4 rfl
        have f0 := hB.free
        unfold does
        go_simp
        exact ⟨hk.trans ((store5_keep _ _ _ _ _ _ _).mono fun b _ e => by subst e; exact Hb7.out), store5 hB, Keep.new hx (store5_keep _ _ _ _ _ _ _) (fun b e => by subst e; exact Hb7.out)⟩
      rintro _ ⟨_, _⟩
      simp only [Act.put, List.setIfInBounds_toArray, List.set_cons_zero, List.set_cons_succ]
      repeat (apply FlowT.d; (intro w1 hk; unfold does; go_simp; (try go_ints); (first | exact DetR.mk | (simp only [↓IntWalk.iteOmega, Oper.doesUpon_value]; exact DetR.mk) | (simp only [↓IntWalk.iteOmega]; go_simp; (try go_ints); exact DetR.mk))); simp only [Act.put, List.setIfInBounds_toArray, List.set_cons_zero, List.set_cons_succ])
      refine FlowT.fin fun w3 hC hk3 => ?_
      obtain ⟨hB7, hx3⟩ := hC
      have Hx3 := hid hx3
      have HB7 := hid hB7
      clear g3 d3 hlk hB7 hx3 hk3
      clear hR
      go_wp2
      go_ret2
      have hrn := Hrun.out
      rw [Rcv.run_none Hfd'.out, ← Hto.out] at hrn
      exact ⟨.slice ao outs.length co, outs, ms', rfl, by rw [← hrn]; exact HR.out.ext Hx3.out, HF.out.ext Hx3.out, by rw [← hrn], Hk.out.ext_r Hx3.out⟩
    | some j =>
      obtain ⟨x, hxj, hxs, hmf, hmv'⟩ := mval_some (ms := ms') (k := r'.due) (by rw [← hR.eq]; exact hfd')
      have hxm := List.mem_of_getElem? hxj
      obtain ⟨ax, cx, _, hxv, _⟩ := (hR.hn x hxm).form
      have hjl : j < ms'.length := by
        rcases Nat.lt_or_ge j ms'.length with h | h
        · exact h
        · rw [List.getElem?_eq_none h] at hxj; cases hxj
      have hml' : r'.wait.length = ms'.length := by rw [hR.eq]; simp
      have hwj : r'.wait[j]? = some x.f := by rw [hR.eq, List.getElem?_map, hxj]; rfl
      have Hrs := hid (Rcv.run_some (n := r'.wait.length) (out := outs.map FV.f) hfd' hwj)
      have Hmv' := hid hmv'
      have Hmf := hid hmf
      have Hxv := hid hxv
      have Hxm := hid hxm
      have Hwj := hid hwj
      have Hjl := hid hjl
      have Hml' := hid hml'
      have hlk : ∀ wa, Keep (fun g => wr.heap.size ≤ g) wr wa → (Instr.lookup 89 (.map (some b)) (.int .i64 r'.due) true).run Tryd.prog wa = .ok (.tuple #[.agg #[.int .u8 (x.f.kind.toNat : Int), .int .i64 x.f.fr, .int .i64 x.f.to, .int .i64 x.f.seq, .slice ax x.f.nums.length cx], .bool true]) wa := fun wa hk => by
        have := run_map_lookup (P := Tryd.prog) Tryd.underlying89 Tryd.underlying3 (hR.hm.keep hk (by have := hR.hm.lt; omega)) r'.due (frame_zero wa)
        rw [Hmv'.out] at this
        simpa [FV.val, Hxv.out] using this
      clear hxj hxs hmf hmv' hxv hfd' hjl hml' hwj hxm
      have g3 := hR.hp.kc (X := fun g => wr.heap.size ≤ g) (by have := hR.hp.lt; omega) 3 rfl
      have d3 := hR.hp.kc (X := fun g => wr.heap.size ≤ g) (by have := hR.hp.lt; omega) 2 rfl
      simp only [List.getElem_toArray, List.getElem_cons_zero, List.getElem_cons_succ] at g3 d3
      go_wp2
      refine wp_flowT (fun g => wr.heap.size ≤ g) (by kernel_rfl) (by kernel_rfl) ?_
      repeat (apply FlowT.d; (intro w1 hk; unfold does; go_simp; (try go_ints); (first | exact DetR.mk | (simp only [↓IntWalk.iteOmega, Oper.doesUpon_value]; exact DetR.mk) | (simp only [↓IntWalk.iteOmega]; go_simp; (try go_ints); exact DetR.mk))); simp only [Act.put, List.setIfInBounds_toArray, List.set_cons_zero, List.set_cons_succ])
      refine FlowT.s (fun v w' => ∃ b7, v = .pointer (some ⟨b7, 0, none⟩) ∧ Blk w' b7 frz 48 ∧ wr.heap.size ≤ b7 ∧ Ext wr w') 12 rfl (by kernel_rfl) (fun _ _ _ ⟨b7, e1, e2, e3, e4⟩ x => ⟨b7, e1, e2.ext x, e3, e4.trans x⟩) (fun wa hC hk => ?_) ?_
      · unfold does
        go_simp
        exact ⟨hk.alloc _, _, rfl, Blk.new _ _ _, hC.size, hC.alloc _⟩
      rintro _ ⟨_, b7, rfl, _, hb7, _⟩
      have Hb7 := hid hb7
      clear hb7
      simp only [Act.put, List.setIfInBounds_toArray, List.set_cons_zero, List.set_cons_succ]
      refine FlowT.s (fun _ w' => Blk w' b7 #[.int .u8 (x.f.kind.toNat : Int), .int .i64 x.f.fr, .int .i64 x.f.to, .int .i64 x.f.seq, .slice ax x.f.nums.length cx] 48 ∧ Ext wr w') 13 rfl (by kernel_rfl) (fun _ _ _ ⟨e1, e2⟩ x => ⟨e1.ext x, e2.trans x⟩) (fun wa hC hk => ?_) ?_
      · obtain ⟨b', e, hB, _, hx⟩ := hC
        obtain rfl : b7 = b' := by simpa using e
        have c0 := hB.av 0 rfl
        have c1 := hB.av 1 rfl
        have c2 := hB.av 2 rfl
        have c3 := hB.av 3 rfl
        have c4 := hB.av 4 rfl
        have f0 := hB.free
        unfold does
        go_simp
        exact ⟨hk.trans ((store5_keep _ _ _ _ _ _ _).mono fun b _ e => by subst e; exact Hb7.out), store5 hB, Keep.new hx (store5_keep _ _ _ _ _ _ _) (fun b e => by subst e; exact Hb7.out)⟩
      rintro _ ⟨_, _⟩
      simp only [Act.put, List.setIfInBounds_toArray, List.set_cons_zero, List.set_cons_succ]
      repeat (apply FlowT.d; (intro w1 hk; unfold does; go_simp; (try go_ints); (first | exact DetR.mk | (simp only [↓IntWalk.iteOmega, Oper.doesUpon_value]; exact DetR.mk) | (simp only [↓IntWalk.iteOmega]; go_simp; (try go_ints); exact DetR.mk))); simp only [Act.put, List.setIfInBounds_toArray, List.set_cons_zero, List.set_cons_succ])
      refine FlowT.fin fun w3 hC hk3 => ?_
      obtain ⟨hB7, hx3⟩ := hC
      have Hx3 := hid hx3
      have HB7 := hid hB7
      clear g3 d3 hlk hB7 hx3 hk3
      have hR3 := hR.ext Hx3.out
      have hqb := hR3.hm.qne hR3.hp
      have g3 := hR3.hp.kc (X := fun g => g = b) hqb 3 rfl
      have g2 := hR3.hp.kc (X := fun g => g = b) hqb 2 rfl
      simp only [List.getElem_toArray, List.getElem_cons_zero, List.getElem_cons_succ] at g3 g2
      have HR3 := hid hR3
      clear hR hR3 hqb
      go_wp2
      refine wp_flowT (fun g => g = b) (by kernel_rfl) (by kernel_rfl) ?_
      repeat (apply FlowT.d; (intro w1 hk; unfold does; go_simp; (try go_ints); (first | exact DetR.mk | (simp only [↓IntWalk.iteOmega, Oper.doesUpon_value]; exact DetR.mk) | (simp only [↓IntWalk.iteOmega]; go_simp; (try go_ints); exact DetR.mk))); simp only [Act.put, List.setIfInBounds_toArray, List.set_cons_zero, List.set_cons_succ])
      refine FlowT.s (fun _ w' => MapAt w' b ((ms'.map (fun x : FV => (x.f.seq, x.val))).eraseIdx j) ∧ ∃ wa, Ext w3 wa ∧ Keep (fun g => g = b) wa w') 8 rfl (by kernel_rfl) (fun _ _ _ ⟨e1, wa, e2, e3⟩ x => ⟨e1.ext x, wa, e2, e3.ext_r x⟩) (fun wa hC hk => ?_) (fun _ _ => ?_)
      · exact does_map_del rfl (.tmp 115) (.tmp 119) 89 3 48 rfl Tryd.underlying89 Tryd.underlying3 b _ (HR3.out.hm.ext hC) rfl r'.due rfl j x.val Hmf.out (fun w' r1 r2 => ⟨(hC.keep _).trans r2, r1, wa, hC, r2⟩)
      refine FlowT.fin fun w4 hQ hk4 => ?_
      obtain ⟨hM, wa, hxa, hkm⟩ := hQ
      simp only [Act.put]
      clear hk4
      have hRa := HR3.out.ext hxa
      have hwr : Wr wa n0 t fun g => g = b := Wr.map hRa.hm hRa.lo.2
      have hb7b := hRa.hm.qne (HB7.out.ext hxa)
      have hB4 := (HB7.out.ext hxa).keep hkm hb7b
      have hp4 := hRa.hp.keep hkm (hRa.hm.qne hRa.hp)
      have hN4 : ∀ y ∈ ms', y.At w4 n0 t := fun y hy => NumsAt.keep (hRa.hn y hy) hkm hwr
      have hF4 := (HF.out.ext (Hx3.out.trans hxa)).keep hkm hwr fun c hc e => by
        obtain ⟨c', hc'⟩ := own_ty (HF.out.ext (Hx3.out.trans hxa)).row hc
        exact hRa.hm.qne hc' e
      have hk4 := (Hk.out.ext_r (Hx3.out.trans hxa)).trans (hkm.mono (Y := fun g => g = q ∨ g = b) fun g _ h => .inr h)
      have hs4 : w.heap.size ≤ w4.heap.size := hk4.size
      have HF5 := hid (hF4.ext ((Ext.refl w4).alloc (.cells #[.int .u8 (x.f.kind.toNat : Int), .int .i64 x.f.fr, .int .i64 x.f.to, .int .i64 x.f.seq, .slice ax x.f.nums.length cx] 48)))
      have HN4 := hid hN4
      have Hp4 := hid hp4
      have HM := hid hM
      have Hk4 := hid hk4
      have Hs4 := hid hs4
      have Hlo := hid hRa.lo
      have Heq := hid hRa.eq
      have Hq4 := hid hp4.lt
      have d0 := hB4.av 0 rfl
      have d1 := hB4.av 1 rfl
      have d2 := hB4.av 2 rfl
      have d3 := hB4.av 3 rfl
      have d4 := hB4.av 4 rfl
      have Hol : Hid (outs.length ≤ 1000000) := hid (by omega)
      have Hbs : Hid (w.heap.size ≤ (w4.alloc (.cells #[.int .u8 (x.f.kind.toNat : Int), .int .i64 x.f.fr, .int .i64 x.f.to, .int .i64 x.f.seq, .slice ax x.f.nums.length cx] 48)).heap.size) := hid (by simp; omega)
      clear hxa hM hkm hRa hwr hb7b hB4 hp4 hN4 hF4 hk4 hs4 g3 g2 HB7 Hb7 HR3
      have Hne : Hid (∀ wb, wb.ownsRow 0 48 5 (.slice ao outs.length co) outs.length (outs.flatMap FV.cells) → Blk wb q #[.int .i64 r'.fr, .int .i64 r'.to, .int .i64 r'.due, .map (some b)] 91 → ¬ (Value.slice ao outs.length co).ownBlock = some q) := hid fun wb h1 h2 e => by
        obtain ⟨c, hc⟩ := own_ty h1 e
        exact h2.ty_ne hc (by decide) rfl
      go_wp2_with (at_builtin; refine wpList_append_el w.heap.size Hbs.out 58 48 (.agg #[.int .u8 0, .int .i64 0, .int .i64 0, .int .i64 0, .slice none 0 0]) 5 56 Tryd.underlying58 frame_info rfl (by omega) (by omega) rfl _ _ rfl (.slice ao outs.length co) outs.length (outs.flatMap FV.cells) rfl HF5.out.row w4.heap.size (FV.cells ⟨x.f, .slice ax x.f.nums.length cx⟩) rfl (by simp [FV.cells, Value.oneCell']) rfl (Blk.new _ _ _) Hol.out ?_; intro v6 w6 ho6 hk6 hl6; obtain ⟨a6, c6, rfl⟩ := row_form ho6; have hp6 := (Hp4.out.ext ((Ext.refl w4).alloc _)).keep hk6 (Hne.out _ (own_base HF5.out.row (Nat.zero_le _)) (Hp4.out.ext ((Ext.refl w4).alloc _))); have z2 := hp6.av 2 rfl; have zf := hp6.free)
      have HM7 : Hid (MapAt (w6.setCell ⟨q, 2, none⟩ (.int .i64 (r'.due + 1))) b ((ms'.map (fun x : FV => (x.f.seq, x.val))).eraseIdx j)) := hid (by
        have hx5 := (Ext.refl w4).alloc (.cells #[.int .u8 (x.f.kind.toNat : Int), .int .i64 x.f.fr, .int .i64 x.f.to, .int .i64 x.f.seq, .slice ax x.f.nums.length cx] 48)
        have hM6 := (HM.out.ext hx5).keep hk6 (fun e => by
          obtain ⟨c', hc'⟩ := own_ty HF5.out.row e
          exact (HM.out.ext hx5).qne hc' rfl)
        exact hM6.keep (X := fun g => g = q) (Keep.set (X := fun g => g = q) (Keep.refl _ _) rfl _) (fun e => hM6.qne hp6 e.symm))
      go_roundw
      case rel =>
        have hx5 := (Ext.refl w4).alloc (.cells #[.int .u8 (x.f.kind.toNat : Int), .int .i64 x.f.fr, .int .i64 x.f.to, .int .i64 x.f.seq, .slice ax x.f.nums.length cx] 48)
        have hwr5 : Wr (w4.alloc (.cells #[.int .u8 (x.f.kind.toNat : Int), .int .i64 x.f.fr, .int .i64 x.f.to, .int .i64 x.f.seq, .slice ax x.f.nums.length cx] 48)) n0 t fun k => (Value.slice ao outs.length co).ownBlock = some k :=
          Wr.row (own_base HF5.out.row (show n0 ≤ w.heap.size by have := Hn0.out; have := HN.out; omega)) (by decide)
        have hkq : Keep (fun g => g = q) w6 (w6.setCell ⟨q, 2, none⟩ (.int .i64 (r'.due + 1))) := Keep.set (X := fun g => g = q) (Keep.refl _ _) rfl _
        have hwq : Wr w6 n0 t fun g => g = q := Wr.blk hp6 (by decide) Hlo.out.1
        have hp7 := hp6.set 2 (.int .i64 (r'.due + 1))
        simp only [List.setIfInBounds_toArray, List.set_cons_zero, List.set_cons_succ] at hp7
        have hrb : ∀ c, (Value.slice ao outs.length co).ownBlock = some c → c ≠ b := fun c hc e => by
          obtain ⟨c', hc'⟩ := own_ty HF5.out.row hc
          exact (HM.out.ext hx5).qne hc' e
        have hM6 := (HM.out.ext hx5).keep hk6 (fun e => hrb b e rfl)
        have hM7 := hM6.keep hkq (fun e => hM6.qne hp6 e.symm)
        have hnum : ∀ y ∈ ms', y.At (w6.setCell ⟨q, 2, none⟩ (.int .i64 (r'.due + 1))) n0 t := fun y hy => NumsAt.keep (NumsAt.keep (NumsAt.ext (HN4.out y hy) hx5) hk6 hwr5) hkq hwq
        refine ⟨{ r' with due := r'.due + 1, wait := r'.wait.eraseIdx j }, ms'.eraseIdx j, outs ++ [x], ⟨hp7, by rw [map_eraseIdx]; exact hM7, fun y hy => hnum y (List.mem_of_mem_eraseIdx hy), by rw [map_eraseIdx, ← Heq.out], Hlo.out⟩, ⟨?_, fun y hy => ?_⟩, ?_, ?_, ?_, ?_, ?_, fun y hy => Hnl'.out y (List.mem_of_mem_eraseIdx hy)⟩
        · have h1 := row_keep ho6 hkq fun c hc e => by
            obtain ⟨c', hc'⟩ := own_ty ho6 hc
            exact hp6.ty_ne hc' (by decide) e.symm
          simpa [FV.cells, Hxv.out] using h1
        · rcases List.mem_append.1 hy with hy | hy
          · exact NumsAt.keep (NumsAt.keep (HF5.out.nums y hy) hk6 hwr5) hkq hwq
          · obtain rfl := List.mem_singleton.1 hy
            exact hnum _ Hxm.out
        · have h1 := Hrun.out
          rw [Hrs.out] at h1
          rw [← h1]
          have h2 : (r'.wait.eraseIdx j).length + 1 = r'.wait.length := by rw [List.length_eraseIdx, if_pos (by have := Hjl.out; have := Hml'.out; omega)]; have := Hjl.out; have := Hml'.out; omega
          simp only [h2, List.map_append, List.map_cons, List.map_nil]
        · exact (Keep.tr (Hk4.out.ext_r hx5) hk6 fun c hc => .inl (World.ownsRow.lt HF5.out.row c hc).1).trans (hkq.mono fun g _ h => .inl h)
        · simp only; omega
        · simp only [List.length_eraseIdx]
          rw [if_pos (by have := Hjl.out; have := Hml'.out; omega)]
          have := Hjl.out
          have := Hml'.out
          omega
        · simp only [List.length_eraseIdx, List.length_append, List.length_cons, List.length_nil]
          rw [if_pos (by have := Hjl.out; have := Hml'.out; omega)]
          have := Hjl.out
          have := Hml'.out
          omega
      case measure =>
        have h1 := HM7.out.size
        have h2 := HR.out.hm.size
        have h3 := Hjl.out
        rw [List.length_eraseIdx, List.length_map, if_pos h3] at h1
        rw [List.length_map] at h2
        rw [h1, h2]
        omega
end Go.Proofs.YtkabgmohgjljkaaDoor


/- Links: a frame is sent, or taken, in every case; the law's own trial. -/
namespace Go.Proofs.YtkabgmohgjljkaaDoor
set_option linter.unusedSimpArgs false
set_option linter.unusedVariables false
open Go Go.RowKit

theorem errv_ne {ev : Nat → Value} {c : Nat} (h : c ≠ 0) : errv ev c = ev c := by unfold errv; rw [if_neg h]
theorem take_any (r : Rcv) (f : Fr) (a : Option Addr) (cap : Nat) (w : World) (n0 : Nat) (t : Option Nat) (q b : Nat) (ms : List FV) (h : RcvAt w n0 t q b r ms) (hr : Ints w a f.nums.length f.nums) (hl : f.nums.length ≤ 1000)
    (ev : Nat → Value) (he : ErrsC w ev) (hev : ∀ c, c ≠ 0 → ∃ t v, ev c = .iface t v) (hd0 : 0 ≤ r.due) (hd1 : r.due ≤ 1000000) (hn0 : n0 ≤ w.heap.size) (ht : ∀ b, t = some b → b < w.heap.size) (hwl : r.wait.length ≤ 8) (hnl : ∀ g ∈ r.wait, g.nums.length ≤ 1000) :
    Calls Tryd.prog 22 #[.pointer (some ⟨q, 0, none⟩), frv f a cap] w fun e w' => ∃ ov outs ms', e = .returned (.tuple #[ov, errv ev (r.err f)]) ∧ RcvAt w' n0 t q b (r.take f).2 ms' ∧ FRow w' n0 t w.heap.size 48 ov outs ∧ outs.map FV.f = (r.take f).1 ∧ Keep (fun g => g = q ∨ g = b) w w' := by
  have hnil : ∀ w', FRow w' n0 t w.heap.size 48 (.slice none 0 0) [] := fun w' => FRow.nil _ _ _ _ _
  by_cases hc : f.code = 0
  · by_cases hs : f.fr ≠ r.fr ∨ f.to ≠ r.to ∨ f.kind = 97
    · have h3 : r.err f = 3 := by unfold Rcv.err; rw [if_neg (fun e => e hc), if_pos hs]
      have htk : r.take f = ([], r) := by unfold Rcv.take; rw [h3]; rfl
      rw [h3, htk]
      refine (take_shape r f a cap w n0 t q b ms h hr hl ev he hc hs).mono fun e w' ⟨e1, x⟩ => ?_
      exact ⟨_, [], ms, by rw [e1]; rfl, h.ext x, hnil _, rfl, x.keep _⟩
    · have h0 : r.err f = 0 := by unfold Rcv.err; rw [if_neg (fun e => e hc), if_neg hs]
      have htk : r.take f = r.took f := by unfold Rcv.take; rw [if_pos h0]
      rw [h0, htk]
      have s1 : f.fr = r.fr := Classical.byContradiction fun e => hs (.inl e)
      have s2 : f.to = r.to := Classical.byContradiction fun e => hs (.inr (.inl e))
      have s3 : f.kind ≠ 97 := fun e => hs (.inr (.inr e))
      by_cases ho : f.seq < r.due ∨ (Rcv.find r.wait f.seq).isSome = true
      · have hto : r.took f = ([], r) := by unfold Rcv.took; rw [if_pos ho]
        rw [hto]
        refine (take_old r f a cap w n0 t q b ms h hr hl ev he hc s1 s2 s3 ho).mono fun e w' ⟨e1, x⟩ => ?_
        exact ⟨_, [], ms, by rw [e1]; rfl, h.ext x, hnil _, rfl, x.keep _⟩
      · have hfd : Rcv.find r.wait f.seq = none := by
          cases hf : Rcv.find r.wait f.seq with
          | none => rfl
          | some j => exact absurd (.inr (by rw [hf]; rfl)) ho
        by_cases hd : r.due < f.seq
        · have h1 : (r.took f).1 = [] := by unfold Rcv.took; rw [if_neg ho, if_pos hd]
          refine (take_far r f a cap w n0 t q b ms h hr hl ev he hc s1 s2 s3 hfd hd ht hwl).mono fun e w' ⟨e1, ⟨ms', e2⟩, e3⟩ => ?_
          exact ⟨_, [], ms', by rw [e1]; rfl, e2, hnil _, by rw [h1]; rfl, e3.mono fun g _ h => .inr h⟩
        · have hde : r.due = f.seq := by
            have : ¬ f.seq < r.due := fun e => ho (.inl e)
            omega
          exact take_now r f a cap w n0 t q b ms h hr hl ev he hc s1 s2 s3 hfd hde hd0 hd1 hn0 ht hwl (fun x hx => hnl x.f (by rw [h.eq]; exact List.mem_map.2 ⟨x, hx, rfl⟩))
  · have h3 : r.err f = f.code := by unfold Rcv.err; rw [if_pos hc]
    have htk : r.take f = ([], r) := by unfold Rcv.take; rw [h3, if_neg hc]
    rw [h3, htk, errv_ne hc]
    refine (take_code r f a cap w n0 t q b ms h hr hl ev he f.code rfl hc (hev _ hc)).mono fun e w' ⟨e1, x⟩ => ?_
    exact ⟨_, [], ms, e1, h.ext x, hnil _, rfl, x.keep _⟩

theorem send_bad (s : Snd) (kind : UInt8) (nums : List Int) (a : Option Addr) (cap : Nat) (w : World) (n0 : Nat) (t : Option Nat) (p : Nat) (lv : Value) (ks : List (FV × Int)) (h : SndAt w n0 t p s lv ks) (hr : Ints w a nums.length nums) (hl : nums.length ≤ 1000)
    (ev : Nat → Value) (he : ErrsC w ev) (hev : ∀ c, c ≠ 0 → ∃ t v, ev c = .iface t v) (h0 : s.err kind nums ≠ 0) :
    Calls Tryd.prog 11 #[.pointer (some ⟨p, 0, none⟩), .int .u8 (kind.toNat : Int), .slice a nums.length cap] w fun e w' => e = .returned (.tuple #[fr0, ev (s.err kind nums)]) ∧ Ext w w' := by
  unfold Snd.err at h0 ⊢
  by_cases hc : (s.frame kind nums).code = 0
  · rw [if_neg (fun e => e hc)] at h0 ⊢
    by_cases hk : kind = 97
    · rw [if_pos hk]
      exact send_ack s kind nums a cap w n0 t p lv ks h hr hl ev he hc hk
    · rw [if_neg hk] at h0 ⊢
      by_cases hf : 200 ≤ s.l.length
      · rw [if_pos hf]
        exact send_full s kind nums a cap w n0 t p lv ks h hr hl ev he hc hk hf
      · rw [if_neg hf] at h0; exact absurd rfl h0
  · rw [if_pos hc]
    exact send_code s kind nums a cap w n0 t p lv ks h hr hl ev he _ rfl hc (hev _ hc)
theorem send_good (s : Snd) (kind : UInt8) (nums : List Int) (a : Option Addr) (cap : Nat) (w : World) (n0 : Nat) (t : Option Nat) (p : Nat) (lv : Value) (ks : List (FV × Int)) (h : SndAt w n0 t p s lv ks) (hr : Ints w a nums.length nums) (hl : nums.length ≤ 1000)
    (ev : Nat → Value) (he : ErrsC w ev) (h0 : s.err kind nums = 0) (m : Nat) (ok : s.Ok m) (hm : m ≤ 1000000) (hn0 : n0 ≤ w.heap.size) (ht : ∀ b, t = some b → b < w.heap.size) :
    Calls Tryd.prog 11 #[.pointer (some ⟨p, 0, none⟩), .int .u8 (kind.toNat : Int), .slice a nums.length cap] w fun e w' => ∃ v lv' ks', e = .returned (.tuple #[(FV.mk (s.frame kind nums) v).val, .nilIface]) ∧ SndAt w' n0 t p (s.sent kind nums) lv' ks' ∧ IRow w.heap.size w' v nums ∧ Keep (fun b => b = p ∨ lv.ownBlock = some b) w w' := by
  obtain ⟨h1, h2, h3⟩ := Snd.err_zero h0
  exact send_ok s kind nums a cap w n0 t p lv ks h hr hl ev he h1 h2 h3 m ok hm hn0 ht
/-- The same, seen from far: only what is new since n0 is written. -/
theorem SndAt.ext_of {w0 w w' : World} {t : Option Nat} {p : Nat} {s : Snd} {lv : Value} {ks : List (FV × Int)} (h : SndAt w w0.heap.size t p s lv ks) (x : Ext w0 w) (k : Keep (fun b => b = p ∨ lv.ownBlock = some b) w w') : Ext w0 w' :=
  Keep.new x k fun b hb => hb.elim (fun e => by have := h.lo; omega) fun e => (World.ownsRow.lt h.hl b e).1
theorem RcvAt.ext_of {w0 w w' : World} {t : Option Nat} {q b : Nat} {r : Rcv} {ms : List FV} (h : RcvAt w w0.heap.size t q b r ms) (x : Ext w0 w) (k : Keep (fun g => g = q ∨ g = b) w w') : Ext w0 w' :=
  Keep.new x k fun g hg => by have := h.lo; rcases hg with hg | hg <;> omega
/-- The sender and the receiver do not stand in each other's way. -/
theorem RcvAt.beside {w w' : World} {n0 : Nat} {t : Option Nat} {p q b : Nat} {s : Snd} {lv : Value} {ks : List (FV × Int)} {r : Rcv} {ms : List FV} (hs : SndAt w n0 t p s lv ks) (hr : RcvAt w n0 t q b r ms) (k : Keep (fun b => b = p ∨ lv.ownBlock = some b) w w') : RcvAt w' n0 t q b r ms :=
  hr.keep k ((Wr.blk hs.hp (by decide) hs.lo).or (Wr.row hs.hl (by decide))) (fun e => e.elim (fun e => hs.hp.ty_ne hr.hp (by decide) e.symm) fun e => by
    obtain ⟨c, hc⟩ := own_ty hs.hl e
    exact hc.ty_ne hr.hp (by decide) rfl) (fun e => e.elim (fun e => hr.hm.qne hs.hp e.symm) fun e => by
    obtain ⟨c, hc⟩ := own_ty hs.hl e
    exact hr.hm.qne hc rfl)
theorem SndAt.beside {w w' : World} {n0 : Nat} {t : Option Nat} {p q b : Nat} {s : Snd} {lv : Value} {ks : List (FV × Int)} {r : Rcv} {ms : List FV} (hs : SndAt w n0 t p s lv ks) (hr : RcvAt w n0 t q b r ms) (k : Keep (fun g => g = q ∨ g = b) w w') : SndAt w' n0 t p s lv ks :=
  hs.keep k ((Wr.blk hr.hp (by decide) hr.lo.1).or (Wr.map hr.hm hr.lo.2)) (fun e => e.elim (fun e => hs.hp.ty_ne hr.hp (by decide) e) fun e => hr.hm.qne hs.hp e) fun c hc e => by
    obtain ⟨c', hc'⟩ := own_ty hs.hl hc
    rcases e with e | e
    · exact hc'.ty_ne hr.hp (by decide) e
    · exact hr.hm.qne hc' e
end Go.Proofs.YtkabgmohgjljkaaDoor


/- Links: the law's own trial. -/
namespace Go.Proofs.YtkabgmohgjljkaaDoor
set_option linter.unusedSimpArgs false
set_option linter.unusedVariables false
open Go Go.RowKit

theorem ints_new (w : World) (vs : List Int) (hi : ∀ i, vs.getD i 0 ≤ 9223372036854775807) (hl : vs.length ≤ 1000) : Ints (w.alloc (.cells (icells vs).toArray 3)) (some ⟨w.heap.size, 0, none⟩) vs.length vs := by
  have h : IRow w.heap.size (w.alloc (.cells (icells vs).toArray 3)) (.slice (some ⟨w.heap.size, 0, none⟩) vs.length vs.length) vs :=
    own_of_blk (Blk.new _ _ _) (Nat.le_refl _) (Nat.le_refl _) (by unfold maxLen; omega) (by simp [icells]) (by rw [List.toList_toArray, Nat.mul_one, List.take_of_length_le (by simp [icells])])
  exact h.ints hi

set_option maxRecDepth 100000 in
set_option maxHeartbeats 3200000 in
theorem linked_any (w : World) (ev : Nat → Value) (he : ErrsC w ev) (hev : ∀ c, c ≠ 0 → ∃ t v, ev c = .iface t v) : Calls Tryd.prog 5 #[] w fun e w' => e = .returned (.bool true) ∧ Ext w w' := by
  have HN := hid (newS_ok 0 1 w ev he w.heap.size none (Nat.le_refl _) (by decide))
  have He := hid he
  clear he
  go_enter Tryd.func5, Tryd.ntmps5
  go_wp2_with fail
  refine HN.out.mono ?_
  intro e w1 hx
  obtain ⟨rfl, hS, hx1⟩ := hx
  have HR := hid (newR_ok 0 1 w1 ev (He.out.ext hx1) w.heap.size none hx1.size (by decide))
  have HS := hid hS
  have Hx1 := hid hx1
  clear HN hS hx1
  obtain ⟨p, hp⟩ : ∃ p, p = w.heap.size := ⟨_, rfl⟩
  have HS2 : Hid (SndAt w1 w.heap.size none p (Snd.new 0 1) (.slice none 0 0) []) := hid (by rw [hp]; exact HS.out)
  rw [← hp]
  have Hp := hid hp
  clear hp HS
  go_wp2_with fail
  refine HR.out.mono ?_
  intro e w2 hx
  obtain ⟨q, b, rfl, hR, hx2, hq, hb⟩ := hx
  have hS2 := HS2.out.ext (hx2.alloc (.cells #[.int .i64 5] 3))
  have hR2 := hR.ext ((Ext.refl w2).alloc (.cells #[.int .i64 5] 3))
  have hx3 := (Hx1.out.trans hx2).alloc (.cells #[.int .i64 5] 3)
  have HSd := hid (send_good (Snd.new 0 1) 100 [5] (some ⟨w2.heap.size, 0, none⟩) 1 (w2.alloc (.cells #[.int .i64 5] 3)) w.heap.size none p (.slice none 0 0) [] hS2 (ints_new w2 [5] (fun i => by
    rcases i with _ | i <;> simp) (by simp)) (by simp) ev (He.out.ext hx3) (by decide) 0 (Snd.Ok.new 0 1) (by omega) hx3.size (fun _ h => by cases h))
  have HR2 := hid hR2
  have Hx3 := hid hx3
  have HS3 := hid hS2
  clear HR hR hx2 hq hb hS2 hR2 hx3 HS2 Hx1
  go_wp2_with fail
  refine HSd.out.mono ?_
  intro e w3 hx
  obtain ⟨v, lv, ks, rfl, hS4, hI, hk⟩ := hx
  obtain ⟨av, cv, rfl⟩ := hI.form
  have hR4 := RcvAt.beside HS3.out HR2.out hk
  have hx4 := HS3.out.ext_of Hx3.out hk
  have hx5 := hx4.alloc (.cells #[.int .u8 100, .int .i64 0, .int .i64 1, .int .i64 0, .slice av 1 cv] 48)
  have hR5 := hR4.ext ((Ext.refl w3).alloc (.cells #[.int .u8 100, .int .i64 0, .int .i64 1, .int .i64 0, .slice av 1 cv] 48))
  have hS5 := hS4.ext ((Ext.refl w3).alloc (.cells #[.int .u8 100, .int .i64 0, .int .i64 1, .int .i64 0, .slice av 1 cv] 48))
  have hI5 := (hI.ext ((Ext.refl w3).alloc (.cells #[.int .u8 100, .int .i64 0, .int .i64 1, .int .i64 0, .slice av 1 cv] 48))).ints (fun i => by rcases i with _ | i <;> simp)
  have HT := hid (take_any (Rcv.new 0 1) ⟨100, 0, 1, 0, [5]⟩ av cv _ w.heap.size none q b [] hR5 hI5 (by simp) ev (He.out.ext hx5) hev (by decide) (by decide) hx5.size (fun _ h => by cases h) (by decide) (fun _ h => by cases h))
  have HS5 := hid hS5
  have HR5 := hid hR5
  have Hx5 := hid hx5
  clear HSd hS4 hI hk hR4 hx4 hx5 hR5 hS5 hI5 HS3 HR2 Hx3
  simp only [FV.val, Snd.frame, Snd.new]
  go_wp2_with fail
  refine HT.out.mono ?_
  intro e w4 hx
  obtain ⟨ov, outs, ms, rfl, hR6, hF6, hO, hk6⟩ := hx
  have hlen : outs.length = 1 := by have := congrArg List.length hO; rw [List.length_map] at this; exact this.trans rfl
  obtain ⟨ao, co, rfl⟩ := hF6.form
  rw [hlen]
  have HW := hid (waits_any w4 _ _ _ _ _ _ (SndAt.beside HS5.out HR5.out hk6))
  have HD := hid (due_any w4 _ _ _ _ _ _ hR6)
  have Hx6 := hid (HR5.out.ext_of Hx5.out hk6)
  have hE : errv ev ((Rcv.new 0 1).err ⟨100, 0, 1, 0, [5]⟩) = .nilIface := rfl
  rw [hE]
  clear HT hR6 hF6 hO hk6 hlen HS5 HR5 Hx5 hE
  have e1 : ((Rcv.new 0 1).take ⟨100, 0, 1, 0, [5]⟩).2.due = 1 := rfl
  have e2 : ((((Snd.new 0 1).sent 100 [5]).l.length : Nat) : Int) = 1 := rfl
  rw [e1] at HD
  rw [e2] at HW
  clear e1 e2
  go_wp2_with fail
  refine HD.out.mono ?_
  intro e w5 hx
  obtain ⟨rfl, rfl⟩ := hx
  go_wp2_with fail
  refine HW.out.mono ?_
  intro e w5 hx
  obtain ⟨rfl, rfl⟩ := hx
  go_wp2
  go_ret
  exact ⟨rfl, Hx6.out⟩
end Go.Proofs.YtkabgmohgjljkaaDoor


/- LinkOnce, plainly. -/
namespace Go.Proofs.YtkabgmohgjljkaaDoor
set_option linter.unusedSimpArgs false
set_option linter.unusedVariables false

/-- The frame of the k-th number. -/
def ofr (N : List Int) (k : Nat) : Fr := ⟨100, 2, 4, (k : Int), [N.getD k 0]⟩
def oks (N : List Int) : Nat → Snd
  | 0 => Snd.new 2 4
  | i + 1 => (oks N i).sent 100 [N.getD i 0]
theorem oks_eq (N : List Int) (i : Nat) : oks N i = ⟨2, 4, (i : Int), 0, (List.range i).map fun j => (ofr N j, (0 : Int))⟩ := by
  induction i with
  | zero => rfl
  | succ i ih =>
    show (oks N i).sent 100 [N.getD i 0] = _
    rw [ih]
    simp only [Snd.sent, Snd.frame, List.range_succ, List.map_append, List.map_cons, List.map_nil, ofr]
    rfl
theorem ofr_code (N : List Int) (k : Nat) (hk : k ≤ 1000) (h : 0 ≤ N.getD k 0 ∧ N.getD k 0 ≤ 2147483648) : (ofr N k).code = 0 := by
  have h1 : inB (k : Int) 2147483648 = true := by simp [inB]; omega
  have h2 : anyFar [N.getD k 0] = false := by
    generalize N.getD k 0 = v at *
    simp only [anyFar, List.any_cons, List.any_nil, farB]
    simp
    omega
  unfold Fr.code ofr
  simp only
  rw [h1, h2]
  rfl
theorem oks_err (N : List Int) (i : Nat) (hi : i < 200) (h : 0 ≤ N.getD i 0 ∧ N.getD i 0 ≤ 2147483648) : (oks N i).err 100 [N.getD i 0] = 0 := by
  have hc : ((oks N i).frame 100 [N.getD i 0]).code = 0 := by
    rw [oks_eq]
    exact ofr_code N i (by omega) h
  have hl : (oks N i).l.length = i := by rw [oks_eq]; simp
  unfold Snd.err
  rw [if_neg (fun e => e hc), if_neg (by decide), if_neg (by omega)]
theorem oks_ok (N : List Int) (i : Nat) (hi : i ≤ 200) : (oks N i).Ok i := by
  rw [oks_eq]
  exact ⟨by simp only; omega, by simp only; omega, fun k hk => by
    obtain ⟨j, _, rfl⟩ := List.mem_map.1 hk
    simp, by simp; exact hi⟩

/-- The sender, while what is told is answered: those from a on are kept, each sent last at c. -/
def osn (N : List Int) (n a : Nat) (now c : Int) : Snd := ⟨2, 4, (n : Int), now, (List.range' a (n - a)).map fun j => (ofr N j, c)⟩
theorem oks_osn (N : List Int) (n : Nat) : oks N n = osn N n 0 0 0 := by rw [oks_eq, osn, Nat.sub_zero, List.range_eq_range']
theorem osn_ok (N : List Int) (n a : Nat) (now c : Int) (hn : n ≤ 40) (h0 : 0 ≤ c) (h1 : c ≤ now) (h2 : now ≤ 1000) : (osn N n a now c).Ok 1000 :=
  ⟨by simp only [osn]; omega, by simp only [osn]; omega, fun x hx => by
    simp only [osn] at hx ⊢
    obtain ⟨j, _, rfl⟩ := List.mem_map.1 hx
    exact ⟨h0, h1⟩, by simp [osn]; omega⟩
theorem osn_nums (N : List Int) (n a : Nat) (now c : Int) : ∀ x ∈ (osn N n a now c).l, x.1.nums.length ≤ 1000 := fun x hx => by
  simp only [osn] at hx
  obtain ⟨j, _, rfl⟩ := List.mem_map.1 hx
  simp [ofr]
theorem osn_tick (N : List Int) (n a : Nat) (now c : Int) : (osn N n a now c).tick = osn N n a (now + 1) (if now + 1 - c = 3 then now + 1 else c) := by
  have hl : (osn N n a now c).l.map (osn N n a now c).stamp = (osn N n a (now + 1) (if now + 1 - c = 3 then now + 1 else c)).l := by
    show ((List.range' a (n - a)).map fun j => (ofr N j, c)).map (osn N n a now c).stamp = (List.range' a (n - a)).map fun j => (ofr N j, if now + 1 - c = 3 then now + 1 else c)
    rw [List.map_map]
    refine List.map_congr_left fun j _ => ?_
    show (osn N n a now c).stamp (ofr N j, c) = _
    unfold Snd.stamp
    have hL : (osn N n a now c).late (ofr N j, c) = decide (now + 1 - c = 3) := rfl
    rw [hL]
    by_cases h : now + 1 - c = 3
    · rw [if_pos (decide_eq_true h), if_pos h]; rfl
    · rw [if_neg (by simp [h]), if_neg h]
  unfold Snd.tick
  rw [hl]
  rfl
theorem osn_again (N : List Int) (n a : Nat) (now c : Int) : (osn N n a now c).again = if now + 1 - c = 3 then (List.range' a (n - a)).map (ofr N) else [] := by
  unfold Snd.again
  by_cases h : now + 1 - c = 3
  · rw [if_pos h, List.filter_eq_self.2 fun x hx => ?_]
    · simp [osn, Function.comp]
    · simp only [osn] at hx
      obtain ⟨j, _, rfl⟩ := List.mem_map.1 hx
      exact decide_eq_true (show now + 1 - c = 3 from h)
  · rw [if_neg h, List.filter_eq_nil_iff.2 fun x hx => ?_]
    · rfl
    · simp only [osn] at hx
      obtain ⟨j, _, rfl⟩ := List.mem_map.1 hx
      exact fun e => h (of_decide_eq_true e)
theorem range'_filter (a m d : Nat) (h : a ≤ d) : (List.range' a m).filter (fun j : Nat => decide ((d : Int) ≤ (j : Int))) = List.range' d (a + m - d) := by
  induction m with
  | zero => simp; omega
  | succ m ih =>
    rw [List.range'_1_concat, List.filter_append, ih]
    by_cases hd : d ≤ a + m
    · have h1 : a + (m + 1) - d = (a + m - d) + 1 := by omega
      rw [h1, List.range'_1_concat]
      have : (d : Int) ≤ ((a + m : Nat) : Int) := by omega
      rw [List.filter_cons_of_pos (by simpa using this)]
      simp only [List.filter_nil]
      congr 2
      omega
    · have h1 : a + (m + 1) - d = 0 := by omega
      have h2 : a + m - d = 0 := by omega
      rw [h1, h2]
      have : ¬ (d : Int) ≤ ((a + m : Nat) : Int) := by omega
      rw [List.filter_cons_of_neg (by simpa using this)]
      simp
theorem osn_acked (N : List Int) (n a d : Nat) (now c : Int) (h : a ≤ d) (hn : a ≤ n) (hd : d ≤ n) : (osn N n a now c).acked (d : Int) = osn N n d now c := by
  unfold Snd.acked osn
  simp only [List.filter_map, Snd.mk.injEq, true_and]
  rw [show n - d = a + (n - a) - d by omega, ← range'_filter a (n - a) d h]
  rfl

/-- All are frames of the numbers. -/
def AllOf (N : List Int) (n : Nat) (l : List Fr) : Prop := ∀ f ∈ l, ∃ j, j < n ∧ f = ofr N j
/-- A receiver, while it takes frames of the numbers. -/
structure ORcv (N : List Int) (n d : Nat) (r : Rcv) : Prop where
  fr : r.fr = 2
  to : r.to = 4
  due : r.due = (d : Int)
  le : d ≤ n
  wait : AllOf N n r.wait
  len : r.wait.length ≤ 8
theorem run_of {N : List Int} {n : Nat} : ∀ (k : Nat) (d : Nat) (r : Rcv) (out : List Fr), ORcv N n d r → ∃ d' r', Rcv.run k r out = (out ++ (List.range' d (d' - d)).map (ofr N), r') ∧ ORcv N n d' r' ∧ d ≤ d' ∧ (r.wait.length < k → Rcv.find r'.wait r'.due = none)
  | 0, d, r, out, h => ⟨d, r, by simp [Rcv.run], h, Nat.le_refl _, fun h => by omega⟩
  | k + 1, d, r, out, h => by
    unfold Rcv.run
    cases hf : Rcv.find r.wait r.due with
    | none => exact ⟨d, r, by simp, h, Nat.le_refl _, fun _ => hf⟩
    | some j =>
      obtain ⟨f, hg, hs⟩ := Rcv.find_get hf
      obtain ⟨i, hi, rfl⟩ := h.wait f (List.mem_of_getElem? hg)
      have hid : i = d := by
        have h1 := h.due
        have h2 : ((i : Nat) : Int) = r.due := hs
        omega
      subst hid
      have h' : ORcv N n (i + 1) { r with due := r.due + 1, wait := r.wait.eraseIdx j } :=
        ⟨h.fr, h.to, by simp only; rw [h.due]; omega, by omega, fun g hg => h.wait g (List.mem_of_mem_eraseIdx hg), Nat.le_trans (List.length_eraseIdx_le ..) h.len⟩
      obtain ⟨d', r', e1, e2, e3, e4⟩ := run_of k (i + 1) _ (out ++ [ofr N i]) h'
      refine ⟨d', r', ?_, e2, by omega, fun hk => e4 ?_⟩
      rotate_left
      · have hj := Rcv.find_lt hf
        simp only [List.length_eraseIdx]
        rw [if_pos hj]
        omega
      simp only [hg, Option.toList]
      rw [e1, List.append_assoc]
      congr 2
      rw [show d' - i = (d' - (i + 1)) + 1 by omega, List.range'_succ]
      simp
theorem took_of {N : List Int} {n d j : Nat} {r : Rcv} (h : ORcv N n d r) (hst : Rcv.find r.wait r.due = none) (hj : j < n) : ∃ d' r', r.took (ofr N j) = ((List.range' d (d' - d)).map (ofr N), r') ∧ ORcv N n d' r' ∧ d ≤ d' ∧ (j ≤ d → j + 1 ≤ d') ∧ Rcv.find r'.wait r'.due = none := by
  unfold Rcv.took
  have hs : (ofr N j).seq = (j : Int) := rfl
  by_cases h1 : (ofr N j).seq < r.due ∨ (Rcv.find r.wait (ofr N j).seq).isSome = true
  · rw [if_pos h1]
    refine ⟨d, r, by simp, h, Nat.le_refl _, fun hd => ?_, hst⟩
    have hdu := h.due
    rcases h1 with h1 | h1
    · omega
    · rcases Nat.lt_or_ge j d with h2 | h2
      · omega
      · have : j = d := by omega
        subst this
        rw [hs, ← hdu, hst] at h1
        cases h1
  · rw [if_neg h1]
    by_cases h2 : r.due < (ofr N j).seq
    · rw [if_pos h2]
      have hdj : d < j := by have := h.due; omega
      by_cases h3 : r.wait.length < 8
      · rw [if_pos h3]
        refine ⟨d, { r with wait := r.wait ++ [ofr N j] }, by simp, ⟨h.fr, h.to, h.due, h.le, fun f hf => ?_, by simp; omega⟩, Nat.le_refl _, fun hd => by omega, ?_⟩
        rotate_left
        · show List.findIdx? _ (r.wait ++ [ofr N j]) = none
          rw [List.findIdx?_append, show List.findIdx? (fun f => decide (f.seq = r.due)) r.wait = none from hst]
          have : ¬ (ofr N j).seq = r.due := by omega
          simp [this]
        rcases List.mem_append.1 hf with hf | hf
        · exact h.wait f hf
        · exact ⟨j, hj, List.mem_singleton.1 hf⟩
      · rw [if_neg h3]
        exact ⟨d, r, by simp, h, Nat.le_refl _, fun hd => by omega, hst⟩
    · rw [if_neg h2]
      have hdj : j = d := by
        have h3 : ¬ (ofr N j).seq < r.due := fun e => h1 (.inl e)
        have := h.due
        omega
      subst hdj
      have h' : ORcv N n (j + 1) { r with due := r.due + 1 } := ⟨h.fr, h.to, by simp only; rw [h.due]; omega, by omega, h.wait, h.len⟩
      obtain ⟨d', r', e1, e2, e3, e4⟩ := run_of (r.wait.length + 1) (j + 1) _ [ofr N j] h'
      refine ⟨d', r', ?_, e2, by omega, fun _ => e3, e4 (Nat.lt_succ_self _)⟩
      rw [e1]
      rw [show d' - j = (d' - (j + 1)) + 1 by omega, List.range'_succ]
      simp

theorem took_take {N : List Int} {n d j : Nat} {r : Rcv} (h : ORcv N n d r) (hj : j < n) (hn : n ≤ 1000) (hv : ∀ k, k < n → 0 ≤ N.getD k 0 ∧ N.getD k 0 ≤ 2147483648) : r.err (ofr N j) = 0 ∧ r.take (ofr N j) = r.took (ofr N j) := by
  have hc := ofr_code N j (by omega) (hv j hj)
  have he : r.err (ofr N j) = 0 := by
    unfold Rcv.err
    rw [if_neg (fun e => e hc), if_neg]
    rintro (h1 | h1 | h1)
    · exact h1 h.fr.symm
    · exact h1 h.to.symm
    · cases h1
  exact ⟨he, by unfold Rcv.take; rw [if_pos he]⟩
theorem take_more (N : List Int) (d d' : Nat) (h : d ≤ d') (hn : d' ≤ N.length) : N.take d' = N.take d ++ (List.range' d (d' - d)).map fun j => N.getD j 0 := by
  obtain ⟨k, rfl⟩ : ∃ k, d' = d + k := ⟨d' - d, by omega⟩
  rw [Nat.add_sub_cancel_left]
  induction k with
  | zero => simp
  | succ k ih =>
    rw [List.range'_1_concat, List.map_append, ← List.append_assoc, ← ih (by omega) (by omega), ← Nat.add_assoc, List.take_succ_eq_append_getElem (by omega)]
    simp [show d + k < N.length by omega]
end Go.Proofs.YtkabgmohgjljkaaDoor
