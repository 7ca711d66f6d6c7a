/- Texts of one proof, put together: LC LD K1. -/
import Derived.Test.YtkabgmohgjljkaaDoorMA06
import Derived.Test.YtkabgmohgjljkaaDoorMA07
import Derived.Test.YtkabgmohgjljkaaDoorMA08

/- Links: the frame that is due is taken, and what waited behind it. -/
namespace Go.Proofs.YtkabgmohgjljkaaDoor
set_option linter.unusedSimpArgs false
set_option linter.unusedVariables false
open Go Go.RowKit

/-- How many entries a map has. -/
def mapSize (w : World) (b : Nat) : Nat := match w.heap[b]? with
  | some (.map es _) => es.size
  | _ => 0
theorem MapAt.size {w : World} {b : Nat} {m : List (Int × Value)} (h : MapAt w b m) : mapSize w b = m.length := by
  obtain ⟨es, c, hb, he⟩ := h
  unfold mapSize
  rw [hb]
  have := congrArg List.length he
  simpa using this
theorem Rcv.run_none {n : Nat} {r : Rcv} {out : List Fr} (h : find r.wait r.due = none) : run (n + 1) r out = (out, r) := by
  unfold run
  rw [h]
theorem Rcv.run_some {n : Nat} {r : Rcv} {out : List Fr} {k : Nat} {f : Fr} (h : find r.wait r.due = some k) (hf : r.wait[k]? = some f) : run (n + 1) r out = run n { r with due := r.due + 1, wait := r.wait.eraseIdx k } (out ++ [f]) := by
  conv => lhs; unfold run
  rw [h]
  simp [hf]

theorem map_eraseIdx {α β : Type} (g : α → β) (l : List α) (j : Nat) : (l.eraseIdx j).map g = (l.map g).eraseIdx j := by
  simp only [List.eraseIdx_eq_take_drop_succ, List.map_append, List.map_take, List.map_drop]
set_option maxRecDepth 100000 in
set_option maxHeartbeats 3200000 in
theorem take_now (r : Rcv) (f : Fr) (a : Option Addr) (cap : Nat) (w : World) (n0 : Nat) (t : Option Nat) (q b : Nat) (ms : List FV) (h : RcvAt w n0 t q b r ms) (hr : Ints w a f.nums.length f.nums) (hl : f.nums.length ≤ 1000)
    (ev : Nat → Value) (he : ErrsC w ev)
    (hc : f.code = 0) (hs1 : f.fr = r.fr) (hs2 : f.to = r.to) (hs3 : f.kind ≠ 97) (hfd : Rcv.find r.wait f.seq = none) (hd : r.due = f.seq) (hd0 : 0 ≤ r.due) (hd1 : r.due ≤ 1000000) (hn0 : n0 ≤ w.heap.size) (ht : ∀ b, t = some b → b < w.heap.size) (hwl : r.wait.length ≤ 8) (hnl : ∀ x ∈ ms, x.f.nums.length ≤ 1000) :
    Calls Tryd.prog 22 #[.pointer (some ⟨q, 0, none⟩), frv f a cap] w fun e w' => ∃ ov outs ms', e = .returned (.tuple #[ov, .nilIface]) ∧ RcvAt w' n0 t q b (r.took f).2 ms' ∧ FRow w' n0 t w.heap.size 48 ov outs ∧ outs.map FV.f = (r.took f).1 ∧ Keep (fun g => g = q ∨ g = b) w w' := by
  have hE : errv ev 0 = .nilIface := rfl
  have S1 := hid hs1
  have S2 := hid hs2
  have S3 : Hid (¬ (f.kind.toNat : Int) = 97) := hid fun e => hs3 (UInt8.toNat_inj.1 (by rw [show (97 : UInt8).toNat = 97 from rfl]; omega))
  have hto : r.took f = Rcv.run (r.wait.length + 1) { r with due := r.due + 1 } [f] := by
    unfold Rcv.took
    rw [if_neg (by rw [hfd]; simp; omega), if_neg (by omega)]
  have Hto := hid hto
  have Hnlt := hid (show ¬ f.seq < r.due by omega)
  have Hd2 := hid (show ¬ r.due < f.seq by omega)
  have Hd0 := hid hd0
  have Hd1 := hid hd1
  have hml : r.wait.length = ms.length := by rw [h.eq]; simp
  have Hml := hid hml
  have Hhi := hid hr.hi
  have Ht := hid ht
  have Hn0 := hid hn0
  have Hwl := hid hwl
  have Hnl := hid hnl
  clear hd hto hml ht hd0 hd1 hwl hn0 hnl
  have hmv := mval_none (ms := ms) (k := f.seq) (by rw [← h.eq]; exact hfd)
  have Hmv := hid hmv
  have Hfd := hid hfd
  clear hmv hfd
  clear hs1 hs2 hs3
  have HK := hid (fcheck_any f a cap _ ev (hr.ext ((Ext.refl w).alloc (.cells #[.int .u8 (f.kind.toNat : Int), .int .i64 f.fr, .int .i64 f.to, .int .i64 f.seq, .slice a f.nums.length cap] 48))) (by omega) (he.ext ((Ext.refl w).alloc _)))
  have hB := Blk.new w #[.int .u8 (f.kind.toNat : Int), .int .i64 f.fr, .int .i64 f.to, .int .i64 f.seq, .slice a f.nums.length cap] 48
  have hx0 := (Ext.refl w).alloc (.cells #[.int .u8 (f.kind.toNat : Int), .int .i64 f.fr, .int .i64 f.to, .int .i64 f.seq, .slice a f.nums.length cap] 48)
  simp only [hc, hE] at HK
  unfold frv at HK ⊢
  have Hr := hid hr
  have H := hid h
  have HB := hid hB
  have Hx0 := hid hx0
  clear hc hE hr h hB hx0
  go_enter Tryd.func22, Tryd.ntmps22
  go_wp2_with fail
  refine HK.out.mono ?_
  intro e w1 hx
  obtain ⟨rfl, hx1⟩ := hx
  have Hx1 := hid (Hx0.out.trans hx1)
  have HB1 := hid (HB.out.ext hx1)
  clear HK hx1 HB Hx0
  have s1 : (f.fr != r.fr) = false := by simp [S1.out]
  have s2 : (f.to != r.to) = false := by simp [S2.out]
  have s3 : ((f.kind.toNat : Int) == 97) = false := beq_eq_false_iff_ne.2 S3.out
  have h1 := H.out.ext Hx1.out
  generalize hN : w.heap.size = N at *
  have HN := hid hN
  clear hN
  go_wp2
  have d0 := HB1.out.kc (X := fun _ => False) (fun e => e) 0 rfl
  have d1 := HB1.out.kc (X := fun _ => False) (fun e => e) 1 rfl
  have d2 := HB1.out.kc (X := fun _ => False) (fun e => e) 2 rfl
  have g0 := h1.hp.kc (X := fun _ => False) (fun e => e) 0 rfl
  have g1 := h1.hp.kc (X := fun _ => False) (fun e => e) 1 rfl
  simp only [List.getElem_toArray, List.getElem_cons_zero, List.getElem_cons_succ] at d0 d1 d2 g0 g1
  refine wp_flowT (fun _ => False) (by kernel_rfl) (by kernel_rfl) ?_
  repeat (apply FlowT.d; (intro w1 hk; unfold does; go_simp; (try go_ints); (first | exact DetR.mk | (simp only [↓IntWalk.iteOmega, Oper.doesUpon_value]; exact DetR.mk) | (simp only [↓IntWalk.iteOmega]; go_simp; (try go_ints); exact DetR.mk))); simp only [Act.put, List.setIfInBounds_toArray, List.set_cons_zero, List.set_cons_succ])
  refine FlowT.fin fun w2 hx2 hk2 => ?_
  have Hx2 := hid (Hx1.out.trans hx2)
  have HB2 := hid (HB1.out.ext hx2)
  clear d0 d1 d2 g0 g1 hx2 hk2 HB1 Hx1 h1
  clear s1 s2 s3
  have h2 := H.out.ext Hx2.out
  have hlk : ∀ wa, Keep (fun g => w2.heap.size ≤ g) w2 wa → (Instr.lookup 89 (.map (some b)) (.int .i64 f.seq) true).run Tryd.prog wa = .ok (.tuple #[.agg #[.int .u8 0, .int .i64 0, .int .i64 0, .int .i64 0, .slice none 0 0], .bool false]) wa := fun wa hk => by
    have := run_map_lookup (P := Tryd.prog) Tryd.underlying89 Tryd.underlying3 (h2.hm.keep hk (by have := h2.hm.lt; omega)) f.seq (frame_zero wa)
    rw [Hmv.out] at this
    simpa [fr0] using this
  have g3 := h2.hp.kc (X := fun g => w2.heap.size ≤ g) (by have := h2.hp.lt; omega) 3 rfl
  have d3 := HB2.out.kc (X := fun g => w2.heap.size ≤ g) (by have := HB2.out.lt; omega) 3 rfl
  simp only [List.getElem_toArray, List.getElem_cons_zero, List.getElem_cons_succ] at g3 d3
  go_wp2
  refine wp_flowT (fun g => w2.heap.size ≤ g) (by kernel_rfl) (by kernel_rfl) ?_
  repeat (apply FlowT.d; (intro w1 hk; unfold does; go_simp; (try go_ints); (first | exact DetR.mk | (simp only [↓IntWalk.iteOmega, Oper.doesUpon_value]; exact DetR.mk) | (simp only [↓IntWalk.iteOmega]; go_simp; (try go_ints); exact DetR.mk))); simp only [Act.put, List.setIfInBounds_toArray, List.set_cons_zero, List.set_cons_succ])
  refine FlowT.s (fun v w' => ∃ b7, v = .pointer (some ⟨b7, 0, none⟩) ∧ Blk w' b7 frz 48 ∧ w2.heap.size ≤ b7 ∧ Ext w2 w') 10 rfl (by kernel_rfl) (fun _ _ _ ⟨b7, e1, e2, e3, e4⟩ x => ⟨b7, e1, e2.ext x, e3, e4.trans x⟩) (fun wa hC hk => ?_) ?_
  · unfold does
    go_simp
    exact ⟨hk.alloc _, _, rfl, Blk.new _ _ _, hC.size, hC.alloc _⟩
  rintro _ ⟨_, b7, rfl, _, hb7, _⟩
  have Hb7 := hid hb7
  clear hb7
  simp only [Act.put, List.setIfInBounds_toArray, List.set_cons_zero, List.set_cons_succ]
  refine FlowT.s (fun _ w' => Blk w' b7 #[.int .u8 0, .int .i64 0, .int .i64 0, .int .i64 0, .slice none 0 0] 48 ∧ Ext w2 w') 11 rfl (by kernel_rfl) (fun _ _ _ ⟨e1, e2⟩ x => ⟨e1.ext x, e2.trans x⟩) (fun wa hC hk => ?_) ?_
  · obtain ⟨b', e, hB, _, hx⟩ := hC
    obtain rfl : b7 = b' := by simpa using e
    have c0 := hB.av 0 rfl
    have c1 := hB.av 1 rfl
    have c2 := hB.av 2 rfl
    have c3 := hB.av 3 rfl
    have c4 := hB.av 4 rfl
    have f0 := hB.free
    unfold does
    go_simp
    exact ⟨hk.trans ((store5_keep _ _ _ _ _ _ _).mono fun b _ e => by subst e; exact Hb7.out), store5 hB, Keep.new hx (store5_keep _ _ _ _ _ _ _) (fun b e => by subst e; exact Hb7.out)⟩
  rintro _ ⟨_, _⟩
  simp only [Act.put, List.setIfInBounds_toArray, List.set_cons_zero, List.set_cons_succ]
  repeat (apply FlowT.d; (intro w1 hk; unfold does; go_simp; (try go_ints); (first | exact DetR.mk | (simp only [↓IntWalk.iteOmega, Oper.doesUpon_value]; exact DetR.mk) | (simp only [↓IntWalk.iteOmega]; go_simp; (try go_ints); exact DetR.mk))); simp only [Act.put, List.setIfInBounds_toArray, List.set_cons_zero, List.set_cons_succ])
  refine FlowT.fin fun w3 hC hk3 => ?_
  obtain ⟨hB7, hx3⟩ := hC
  have Hx3 := hid hx3
  have HB7 := hid hB7
  clear g3 d3 hlk hB7 hx3 hk3
  have h3 := h2.ext Hx3.out
  have hB3 := HB2.out.ext Hx3.out
  have g2 := h3.hp.kc (X := fun _ => False) (fun e => e) 2 rfl
  have d3 := hB3.kc (X := fun _ => False) (fun e => e) 3 rfl
  simp only [List.getElem_toArray, List.getElem_cons_zero, List.getElem_cons_succ] at g2 d3
  have hnlt := Hnlt.out
  go_wp2
  refine wp_flowT (fun _ => False) (by kernel_rfl) (by kernel_rfl) ?_
  repeat (apply FlowT.d; (intro w1 hk; unfold does; go_simp; (try go_ints); (first | exact DetR.mk | (simp only [↓IntWalk.iteOmega, Oper.doesUpon_value]; exact DetR.mk) | (simp only [↓IntWalk.iteOmega]; go_simp; (try go_ints); exact DetR.mk))); simp only [Act.put, List.setIfInBounds_toArray, List.set_cons_zero, List.set_cons_succ])
  refine FlowT.fin fun w4 hx4 hk4 => ?_
  have h4 := h3.ext hx4
  have hB4 := hB3.ext hx4
  have Hx4 := hid (Hx2.out.trans (Hx3.out.trans hx4))
  clear g2 d3 h2 h3 hB3 hx4 hk4 Hx2 Hx3 HB2 HB7 Hb7
  have g2 := h4.hp.kc (X := fun _ => False) (fun e => e) 2 rfl
  have d3 := hB4.kc (X := fun _ => False) (fun e => e) 3 rfl
  simp only [List.getElem_toArray, List.getElem_cons_zero, List.getElem_cons_succ] at g2 d3
  have hd2 := Hd2.out
  go_wp2
  refine wp_flowT (fun _ => False) (by kernel_rfl) (by kernel_rfl) ?_
  repeat (apply FlowT.d; (intro w1 hk; unfold does; go_simp; (try go_ints); (first | exact DetR.mk | (simp only [↓IntWalk.iteOmega, Oper.doesUpon_value]; exact DetR.mk) | (simp only [↓IntWalk.iteOmega]; go_simp; (try go_ints); exact DetR.mk))); simp only [Act.put, List.setIfInBounds_toArray, List.set_cons_zero, List.set_cons_succ])
  refine FlowT.fin fun w5 hx5 hk5 => ?_
  have h5 := h4.ext hx5
  have hB5 := hB4.ext hx5
  have Hx5 := hid (Hx4.out.trans hx5)
  clear g2 d3 h4 hB4 hx5 hk5 Hx4 hnlt
  have d0 := hB5.av 0 rfl
  have d1 := hB5.av 1 rfl
  have d2 := hB5.av 2 rfl
  have d3 := hB5.av 3 rfl
  have d4 := hB5.av 4 rfl
  have HC := hid (copied_any f a cap w5 (Hr.out.ext Hx5.out) hl)
  have H5 := hid h5
  clear h5 hB5
  unfold frv at HC
  go_wp2_with fail
  refine HC.out.mono ?_
  intro e w6 hx
  obtain ⟨v6, rfl, hx6, hI6⟩ := hx
  obtain ⟨a6, c6, rfl⟩ := hI6.form
  have h6 := H5.out.ext hx6
  have hrow : (w6.alloc (.cells #[.int .u8 (f.kind.toNat : Int), .int .i64 f.fr, .int .i64 f.to, .int .i64 f.seq, .slice a6 f.nums.length c6] 48)).ownsRow w6.heap.size 48 5 (.slice (some ⟨w6.heap.size, 0, none⟩) 1 1) 1 (FV.cells ⟨f, .slice a6 f.nums.length c6⟩) :=
    own_of_blk (Blk.new _ _ _) (Nat.le_refl _) (Nat.le_refl _) (by unfold maxLen; omega) rfl rfl
  have hx7 := (Ext.refl w6).alloc (.cells #[.int .u8 (f.kind.toNat : Int), .int .i64 f.fr, .int .i64 f.to, .int .i64 f.seq, .slice a6 f.nums.length c6] 48)
  have h7 := h6.ext hx7
  have hA7 : (FV.mk f (.slice a6 f.nums.length c6)).At (w6.alloc (.cells #[.int .u8 (f.kind.toNat : Int), .int .i64 f.fr, .int .i64 f.to, .int .i64 f.seq, .slice a6 f.nums.length c6] 48)) n0 t := NumsAt.ext (NumsAt.of_row hI6 Hhi.out fun c hc e => by
    have h1 := (hI6.lt hc).1
    have h2 := Ht.out c e
    have h3 := Hx5.out.size
    have h4 := HN.out
    omega) hx7
  have c2 := h7.hp.av 2 rfl
  have f2 := h7.hp.free
  have Hx7 := hid (Hx5.out.trans (hx6.trans hx7))
  have Hrow := hid hrow
  have H7 := hid h7
  have HA7 := hid hA7
  have Hs6 := hid (show N ≤ w6.heap.size by have := Hx5.out.size; have := hx6.size; have := HN.out; omega)
  clear HC hx6 hI6 h6 hrow hx7 h7 hA7 H5 d0 d1 d2 d3 d4 Hx5
  obtain ⟨W7, hW7⟩ : ∃ W7, W7 = w6.alloc (.cells #[.int .u8 (f.kind.toNat : Int), .int .i64 f.fr, .int .i64 f.to, .int .i64 f.seq, .slice a6 f.nums.length c6] 48) := ⟨_, rfl⟩
  rw [← hW7] at Hx7 Hrow H7 HA7
  have hk8 : Keep (fun g => g = q) W7 (W7.setCell ⟨q, 2, none⟩ (.int .i64 (r.due + 1))) := Keep.set (X := fun g => g = q) (Keep.refl _ _) rfl _
  have hp8 := H7.out.hp.set 2 (.int .i64 (r.due + 1))
  simp only [List.setIfInBounds_toArray, List.set_cons_zero, List.set_cons_succ] at hp8
  have hwr8 : Wr W7 n0 t fun g => g = q := Wr.blk H7.out.hp (by decide) H7.out.lo.1
  have hR8 : RcvAt (W7.setCell ⟨q, 2, none⟩ (.int .i64 (r.due + 1))) n0 t q b { r with due := r.due + 1 } ms := ⟨hp8, H7.out.hm.keep hk8 (fun e => H7.out.hm.qne H7.out.hp e.symm), fun x hx => NumsAt.keep (H7.out.hn x hx) hk8 hwr8, H7.out.eq, H7.out.lo⟩
  have hF8 : FRow (W7.setCell ⟨q, 2, none⟩ (.int .i64 (r.due + 1))) n0 t w.heap.size 48 (.slice (some ⟨w6.heap.size, 0, none⟩) 1 1) [⟨f, .slice a6 f.nums.length c6⟩] := by
    refine ⟨?_, fun x hx => ?_⟩
    · have h1 := row_keep (own_base Hrow.out (show w.heap.size ≤ w6.heap.size by have := Hs6.out; have := HN.out; omega)) hk8 fun c hc e => by
        obtain ⟨c', hc'⟩ := own_ty Hrow.out hc
        exact H7.out.hp.ty_ne hc' (by decide) e.symm
      simpa using h1
    · obtain rfl := List.mem_singleton.1 hx
      exact NumsAt.keep HA7.out hk8 hwr8
  have HK8 := hid ((Hx7.out.keep fun g => g = q ∨ g = b).trans (hk8.mono fun g _ h => .inl h))
  have HR8 := hid hR8
  have HF8 := hid hF8
  rw [hW7] at HR8 HF8 HK8
  have hd0 := Hd0.out
  have hd1 := Hd1.out
  clear hk8 hp8 hwr8 hR8 hF8 hW7 Hx7 Hrow H7 HA7
  simp only [FV.val]
  go_wp2
  generalize (w6.alloc (.cells #[.int .u8 (f.kind.toNat : Int), .int .i64 f.fr, .int .i64 f.to, .int .i64 f.seq, .slice a6 f.nums.length c6] 48)).setCell ⟨q, 2, none⟩ (.int .i64 (r.due + 1)) = W8 at *
  generalize w6.heap.size = M at *
  clear c2 f2
  have hwl := Hwl.out
  go_loopw [9] (fun t9 wr => ∃ (r' : Rcv) (ms' : List FV) (outs : List FV), RcvAt wr n0 t q b r' ms' ∧ FRow wr n0 t w.heap.size 48 t9 outs ∧ Rcv.run (r'.wait.length + 1) r' (outs.map FV.f) = Rcv.run (r.wait.length + 1) { r with due := r.due + 1 } [f] ∧ Keep (fun g => g = q ∨ g = b) w wr ∧ 0 ≤ r'.due ∧ r'.due + (r'.wait.length : Int) ≤ r.due + 1 + (r.wait.length : Int) ∧ outs.length + r'.wait.length ≤ 1 + r.wait.length ∧ ∀ x ∈ ms', x.f.nums.length ≤ 1000) (fun _ wr => mapSize wr b)
  case atStart => exact ⟨_, ms, _, HR8.out, HF8.out, rfl, HK8.out, by simp only; omega, by simp only; omega, by simp, Hnl.out⟩
  case round =>
    obtain ⟨r', ms', outs, hR, hF, hrun, hk, e0, e1, e2, hnl'⟩ := hrel
    have Hrun := hid hrun
    have HR := hid hR
    have HF := hid hF
    have Hk := hid hk
    have Hnl' := hid hnl'
    obtain ⟨ao, co, rfl⟩ := hF.form
    clear HR8 HF8 HK8 hrun hF hk hnl'
    cases hfd' : Rcv.find r'.wait r'.due with
    | none =>
      have hmv' := mval_none (ms := ms') (k := r'.due) (by rw [← hR.eq]; exact hfd')
      have Hmv' := hid hmv'
      have Hfd' := hid hfd'
      clear hmv' hfd'
      have hlk : ∀ wa, Keep (fun g => wr.heap.size ≤ g) wr wa → (Instr.lookup 89 (.map (some b)) (.int .i64 r'.due) true).run Tryd.prog wa = .ok (.tuple #[.agg #[.int .u8 0, .int .i64 0, .int .i64 0, .int .i64 0, .slice none 0 0], .bool false]) wa := fun wa hk => by
        have := run_map_lookup (P := Tryd.prog) Tryd.underlying89 Tryd.underlying3 (hR.hm.keep hk (by have := hR.hm.lt; omega)) r'.due (frame_zero wa)
        rw [Hmv'.out] at this
        simpa [fr0] using this
      have g3 := hR.hp.kc (X := fun g => wr.heap.size ≤ g) (by have := hR.hp.lt; omega) 3 rfl
      have d3 := hR.hp.kc (X := fun g => wr.heap.size ≤ g) (by have := hR.hp.lt; omega) 2 rfl
      simp only [List.getElem_toArray, List.getElem_cons_zero, List.getElem_cons_succ] at g3 d3
      go_wp2
      refine wp_flowT (fun g => wr.heap.size ≤ g) (by kernel_rfl) (by kernel_rfl) ?_
      repeat (apply FlowT.d; (intro w1 hk; unfold does; go_simp; (try go_ints); (first | exact DetR.mk | (simp only [↓IntWalk.iteOmega, Oper.doesUpon_value]; exact DetR.mk) | (simp only [↓IntWalk.iteOmega]; go_simp; (try go_ints); exact DetR.mk))); simp only [Act.put, List.setIfInBounds_toArray, List.set_cons_zero, List.set_cons_succ])
      refine FlowT.s (fun v w' => ∃ b7, v = .pointer (some ⟨b7, 0, none⟩) ∧ Blk w' b7 frz 48 ∧ wr.heap.size ≤ b7 ∧ Ext wr w') 12 rfl (by kernel_rfl) (fun _ _ _ ⟨b7, e1, e2, e3, e4⟩ x => ⟨b7, e1, e2.ext x, e3, e4.trans x⟩) (fun wa hC hk => ?_) ?_
      · unfold does
        go_simp
        exact ⟨hk.alloc _, _, rfl, Blk.new _ _ _, hC.size, hC.alloc _⟩
      rintro _ ⟨_, b7, rfl, _, hb7, _⟩
      have Hb7 := hid hb7
      clear hb7
      simp only [Act.put, List.setIfInBounds_toArray, List.set_cons_zero, List.set_cons_succ]
      refine FlowT.s (fun _ w' => Blk w' b7 #[.int .u8 0, .int .i64 0, .int .i64 0, .int .i64 0, .slice none 0 0] 48 ∧ Ext wr w') 13 rfl (by kernel_rfl) (fun _ _ _ ⟨e1, e2⟩ x => ⟨e1.ext x, e2.trans x⟩) (fun wa hC hk => ?_) ?_
      · obtain ⟨b', e, hB, _, hx⟩ := hC
        obtain rfl : b7 = b' := by simpa using e
        have c0 := hB.av 0 rfl
        have c1 := hB.av 1 rfl
        have c2 := hB.av 2 rfl
        have c3 := hB.av 3 rfl
        have c4 := hB.av 4 rfl
        have f0 := hB.free
        unfold does
        go_simp
        exact ⟨hk.trans ((store5_keep _ _ _ _ _ _ _).mono fun b _ e => by subst e; exact Hb7.out), store5 hB, Keep.new hx (store5_keep _ _ _ _ _ _ _) (fun b e => by subst e; exact Hb7.out)⟩
      rintro _ ⟨_, _⟩
      simp only [Act.put, List.setIfInBounds_toArray, List.set_cons_zero, List.set_cons_succ]
      repeat (apply FlowT.d; (intro w1 hk; unfold does; go_simp; (try go_ints); (first | exact DetR.mk | (simp only [↓IntWalk.iteOmega, Oper.doesUpon_value]; exact DetR.mk) | (simp only [↓IntWalk.iteOmega]; go_simp; (try go_ints); exact DetR.mk))); simp only [Act.put, List.setIfInBounds_toArray, List.set_cons_zero, List.set_cons_succ])
      refine FlowT.fin fun w3 hC hk3 => ?_
      obtain ⟨hB7, hx3⟩ := hC
      have Hx3 := hid hx3
      have HB7 := hid hB7
      clear g3 d3 hlk hB7 hx3 hk3
      clear hR
      go_wp2
      go_ret2
      have hrn := Hrun.out
      rw [Rcv.run_none Hfd'.out, ← Hto.out] at hrn
      exact ⟨.slice ao outs.length co, outs, ms', rfl, by rw [← hrn]; exact HR.out.ext Hx3.out, HF.out.ext Hx3.out, by rw [← hrn], Hk.out.ext_r Hx3.out⟩
    | some j =>
      obtain ⟨x, hxj, hxs, hmf, hmv'⟩ := mval_some (ms := ms') (k := r'.due) (by rw [← hR.eq]; exact hfd')
      have hxm := List.mem_of_getElem? hxj
      obtain ⟨ax, cx, _, hxv, _⟩ := (hR.hn x hxm).form
      have hjl : j < ms'.length := by
        rcases Nat.lt_or_ge j ms'.length with h | h
        · exact h
        · rw [List.getElem?_eq_none h] at hxj; cases hxj
      have hml' : r'.wait.length = ms'.length := by rw [hR.eq]; simp
      have hwj : r'.wait[j]? = some x.f := by rw [hR.eq, List.getElem?_map, hxj]; rfl
      have Hrs := hid (Rcv.run_some (n := r'.wait.length) (out := outs.map FV.f) hfd' hwj)
      have Hmv' := hid hmv'
      have Hmf := hid hmf
      have Hxv := hid hxv
      have Hxm := hid hxm
      have Hwj := hid hwj
      have Hjl := hid hjl
      have Hml' := hid hml'
      have hlk : ∀ wa, Keep (fun g => wr.heap.size ≤ g) wr wa → (Instr.lookup 89 (.map (some b)) (.int .i64 r'.due) true).run Tryd.prog wa = .ok (.tuple #[.agg #[.int .u8 (x.f.kind.toNat : Int), .int .i64 x.f.fr, .int .i64 x.f.to, .int .i64 x.f.seq, .slice ax x.f.nums.length cx], .bool true]) wa := fun wa hk => by
        have := run_map_lookup (P := Tryd.prog) Tryd.underlying89 Tryd.underlying3 (hR.hm.keep hk (by have := hR.hm.lt; omega)) r'.due (frame_zero wa)
        rw [Hmv'.out] at this
        simpa [FV.val, Hxv.out] using this
      clear hxj hxs hmf hmv' hxv hfd' hjl hml' hwj hxm
      have g3 := hR.hp.kc (X := fun g => wr.heap.size ≤ g) (by have := hR.hp.lt; omega) 3 rfl
      have d3 := hR.hp.kc (X := fun g => wr.heap.size ≤ g) (by have := hR.hp.lt; omega) 2 rfl
      simp only [List.getElem_toArray, List.getElem_cons_zero, List.getElem_cons_succ] at g3 d3
      go_wp2
      refine wp_flowT (fun g => wr.heap.size ≤ g) (by kernel_rfl) (by kernel_rfl) ?_
      repeat (apply FlowT.d; (intro w1 hk; unfold does; go_simp; (try go_ints); (first | exact DetR.mk | (simp only [↓IntWalk.iteOmega, Oper.doesUpon_value]; exact DetR.mk) | (simp only [↓IntWalk.iteOmega]; go_simp; (try go_ints); exact DetR.mk))); simp only [Act.put, List.setIfInBounds_toArray, List.set_cons_zero, List.set_cons_succ])
      refine FlowT.s (fun v w' => ∃ b7, v = .pointer (some ⟨b7, 0, none⟩) ∧ Blk w' b7 frz 48 ∧ wr.heap.size ≤ b7 ∧ Ext wr w') 12 rfl (by kernel_rfl) (fun _ _ _ ⟨b7, e1, e2, e3, e4⟩ x => ⟨b7, e1, e2.ext x, e3, e4.trans x⟩) (fun wa hC hk => ?_) ?_
      · unfold does
        go_simp
        exact ⟨hk.alloc _, _, rfl, Blk.new _ _ _, hC.size, hC.alloc _⟩
      rintro _ ⟨_, b7, rfl, _, hb7, _⟩
      have Hb7 := hid hb7
      clear hb7
      simp only [Act.put, List.setIfInBounds_toArray, List.set_cons_zero, List.set_cons_succ]
      refine FlowT.s (fun _ w' => Blk w' b7 #[.int .u8 (x.f.kind.toNat : Int), .int .i64 x.f.fr, .int .i64 x.f.to, .int .i64 x.f.seq, .slice ax x.f.nums.length cx] 48 ∧ Ext wr w') 13 rfl (by kernel_rfl) (fun _ _ _ ⟨e1, e2⟩ x => ⟨e1.ext x, e2.trans x⟩) (fun wa hC hk => ?_) ?_
      · obtain ⟨b', e, hB, _, hx⟩ := hC
        obtain rfl : b7 = b' := by simpa using e
        have c0 := hB.av 0 rfl
        have c1 := hB.av 1 rfl
        have c2 := hB.av 2 rfl
        have c3 := hB.av 3 rfl
        have c4 := hB.av 4 rfl
        have f0 := hB.free
        unfold does
        go_simp
        exact ⟨hk.trans ((store5_keep _ _ _ _ _ _ _).mono fun b _ e => by subst e; exact Hb7.out), store5 hB, Keep.new hx (store5_keep _ _ _ _ _ _ _) (fun b e => by subst e; exact Hb7.out)⟩
      rintro _ ⟨_, _⟩
      simp only [Act.put, List.setIfInBounds_toArray, List.set_cons_zero, List.set_cons_succ]
      repeat (apply FlowT.d; (intro w1 hk; unfold does; go_simp; (try go_ints); (first | exact DetR.mk | (simp only [↓IntWalk.iteOmega, Oper.doesUpon_value]; exact DetR.mk) | (simp only [↓IntWalk.iteOmega]; go_simp; (try go_ints); exact DetR.mk))); simp only [Act.put, List.setIfInBounds_toArray, List.set_cons_zero, List.set_cons_succ])
      refine FlowT.fin fun w3 hC hk3 => ?_
      obtain ⟨hB7, hx3⟩ := hC
      have Hx3 := hid hx3
      have HB7 := hid hB7
      clear g3 d3 hlk hB7 hx3 hk3
      have hR3 := hR.ext Hx3.out
      have hqb := hR3.hm.qne hR3.hp
      have g3 := hR3.hp.kc (X := fun g => g = b) hqb 3 rfl
      have g2 := hR3.hp.kc (X := fun g => g = b) hqb 2 rfl
      simp only [List.getElem_toArray, List.getElem_cons_zero, List.getElem_cons_succ] at g3 g2
      have HR3 := hid hR3
      clear hR hR3 hqb
      go_wp2
      refine wp_flowT (fun g => g = b) (by kernel_rfl) (by kernel_rfl) ?_
      repeat (apply FlowT.d; (intro w1 hk; unfold does; go_simp; (try go_ints); (first | exact DetR.mk | (simp only [↓IntWalk.iteOmega, Oper.doesUpon_value]; exact DetR.mk) | (simp only [↓IntWalk.iteOmega]; go_simp; (try go_ints); exact DetR.mk))); simp only [Act.put, List.setIfInBounds_toArray, List.set_cons_zero, List.set_cons_succ])
      refine FlowT.s (fun _ w' => MapAt w' b ((ms'.map (fun x : FV => (x.f.seq, x.val))).eraseIdx j) ∧ ∃ wa, Ext w3 wa ∧ Keep (fun g => g = b) wa w') 8 rfl (by kernel_rfl) (fun _ _ _ ⟨e1, wa, e2, e3⟩ x => ⟨e1.ext x, wa, e2, e3.ext_r x⟩) (fun wa hC hk => ?_) (fun _ _ => ?_)
      · exact does_map_del rfl (.tmp 115) (.tmp 119) 89 3 48 rfl Tryd.underlying89 Tryd.underlying3 b _ (HR3.out.hm.ext hC) rfl r'.due rfl j x.val Hmf.out (fun w' r1 r2 => ⟨(hC.keep _).trans r2, r1, wa, hC, r2⟩)
      refine FlowT.fin fun w4 hQ hk4 => ?_
      obtain ⟨hM, wa, hxa, hkm⟩ := hQ
      simp only [Act.put]
      clear hk4
      have hRa := HR3.out.ext hxa
      have hwr : Wr wa n0 t fun g => g = b := Wr.map hRa.hm hRa.lo.2
      have hb7b := hRa.hm.qne (HB7.out.ext hxa)
      have hB4 := (HB7.out.ext hxa).keep hkm hb7b
      have hp4 := hRa.hp.keep hkm (hRa.hm.qne hRa.hp)
      have hN4 : ∀ y ∈ ms', y.At w4 n0 t := fun y hy => NumsAt.keep (hRa.hn y hy) hkm hwr
      have hF4 := (HF.out.ext (Hx3.out.trans hxa)).keep hkm hwr fun c hc e => by
        obtain ⟨c', hc'⟩ := own_ty (HF.out.ext (Hx3.out.trans hxa)).row hc
        exact hRa.hm.qne hc' e
      have hk4 := (Hk.out.ext_r (Hx3.out.trans hxa)).trans (hkm.mono (Y := fun g => g = q ∨ g = b) fun g _ h => .inr h)
      have hs4 : w.heap.size ≤ w4.heap.size := hk4.size
      have HF5 := hid (hF4.ext ((Ext.refl w4).alloc (.cells #[.int .u8 (x.f.kind.toNat : Int), .int .i64 x.f.fr, .int .i64 x.f.to, .int .i64 x.f.seq, .slice ax x.f.nums.length cx] 48)))
      have HN4 := hid hN4
      have Hp4 := hid hp4
      have HM := hid hM
      have Hk4 := hid hk4
      have Hs4 := hid hs4
      have Hlo := hid hRa.lo
      have Heq := hid hRa.eq
      have Hq4 := hid hp4.lt
      have d0 := hB4.av 0 rfl
      have d1 := hB4.av 1 rfl
      have d2 := hB4.av 2 rfl
      have d3 := hB4.av 3 rfl
      have d4 := hB4.av 4 rfl
      have Hol : Hid (outs.length ≤ 1000000) := hid (by omega)
      have Hbs : Hid (w.heap.size ≤ (w4.alloc (.cells #[.int .u8 (x.f.kind.toNat : Int), .int .i64 x.f.fr, .int .i64 x.f.to, .int .i64 x.f.seq, .slice ax x.f.nums.length cx] 48)).heap.size) := hid (by simp; omega)
      clear hxa hM hkm hRa hwr hb7b hB4 hp4 hN4 hF4 hk4 hs4 g3 g2 HB7 Hb7 HR3
      have Hne : Hid (∀ wb, wb.ownsRow 0 48 5 (.slice ao outs.length co) outs.length (outs.flatMap FV.cells) → Blk wb q #[.int .i64 r'.fr, .int .i64 r'.to, .int .i64 r'.due, .map (some b)] 91 → ¬ (Value.slice ao outs.length co).ownBlock = some q) := hid fun wb h1 h2 e => by
        obtain ⟨c, hc⟩ := own_ty h1 e
        exact h2.ty_ne hc (by decide) rfl
      go_wp2_with (at_builtin; refine wpList_append_el w.heap.size Hbs.out 58 48 (.agg #[.int .u8 0, .int .i64 0, .int .i64 0, .int .i64 0, .slice none 0 0]) 5 56 Tryd.underlying58 frame_info rfl (by omega) (by omega) rfl _ _ rfl (.slice ao outs.length co) outs.length (outs.flatMap FV.cells) rfl HF5.out.row w4.heap.size (FV.cells ⟨x.f, .slice ax x.f.nums.length cx⟩) rfl (by simp [FV.cells, Value.oneCell']) rfl (Blk.new _ _ _) Hol.out ?_; intro v6 w6 ho6 hk6 hl6; obtain ⟨a6, c6, rfl⟩ := row_form ho6; have hp6 := (Hp4.out.ext ((Ext.refl w4).alloc _)).keep hk6 (Hne.out _ (own_base HF5.out.row (Nat.zero_le _)) (Hp4.out.ext ((Ext.refl w4).alloc _))); have z2 := hp6.av 2 rfl; have zf := hp6.free)
      have HM7 : Hid (MapAt (w6.setCell ⟨q, 2, none⟩ (.int .i64 (r'.due + 1))) b ((ms'.map (fun x : FV => (x.f.seq, x.val))).eraseIdx j)) := hid (by
        have hx5 := (Ext.refl w4).alloc (.cells #[.int .u8 (x.f.kind.toNat : Int), .int .i64 x.f.fr, .int .i64 x.f.to, .int .i64 x.f.seq, .slice ax x.f.nums.length cx] 48)
        have hM6 := (HM.out.ext hx5).keep hk6 (fun e => by
          obtain ⟨c', hc'⟩ := own_ty HF5.out.row e
          exact (HM.out.ext hx5).qne hc' rfl)
        exact hM6.keep (X := fun g => g = q) (Keep.set (X := fun g => g = q) (Keep.refl _ _) rfl _) (fun e => hM6.qne hp6 e.symm))
      go_roundw
      case rel =>
        have hx5 := (Ext.refl w4).alloc (.cells #[.int .u8 (x.f.kind.toNat : Int), .int .i64 x.f.fr, .int .i64 x.f.to, .int .i64 x.f.seq, .slice ax x.f.nums.length cx] 48)
        have hwr5 : Wr (w4.alloc (.cells #[.int .u8 (x.f.kind.toNat : Int), .int .i64 x.f.fr, .int .i64 x.f.to, .int .i64 x.f.seq, .slice ax x.f.nums.length cx] 48)) n0 t fun k => (Value.slice ao outs.length co).ownBlock = some k :=
          Wr.row (own_base HF5.out.row (show n0 ≤ w.heap.size by have := Hn0.out; have := HN.out; omega)) (by decide)
        have hkq : Keep (fun g => g = q) w6 (w6.setCell ⟨q, 2, none⟩ (.int .i64 (r'.due + 1))) := Keep.set (X := fun g => g = q) (Keep.refl _ _) rfl _
        have hwq : Wr w6 n0 t fun g => g = q := Wr.blk hp6 (by decide) Hlo.out.1
        have hp7 := hp6.set 2 (.int .i64 (r'.due + 1))
        simp only [List.setIfInBounds_toArray, List.set_cons_zero, List.set_cons_succ] at hp7
        have hrb : ∀ c, (Value.slice ao outs.length co).ownBlock = some c → c ≠ b := fun c hc e => by
          obtain ⟨c', hc'⟩ := own_ty HF5.out.row hc
          exact (HM.out.ext hx5).qne hc' e
        have hM6 := (HM.out.ext hx5).keep hk6 (fun e => hrb b e rfl)
        have hM7 := hM6.keep hkq (fun e => hM6.qne hp6 e.symm)
        have hnum : ∀ y ∈ ms', y.At (w6.setCell ⟨q, 2, none⟩ (.int .i64 (r'.due + 1))) n0 t := fun y hy => NumsAt.keep (NumsAt.keep (NumsAt.ext (HN4.out y hy) hx5) hk6 hwr5) hkq hwq
        refine ⟨{ r' with due := r'.due + 1, wait := r'.wait.eraseIdx j }, ms'.eraseIdx j, outs ++ [x], ⟨hp7, by rw [map_eraseIdx]; exact hM7, fun y hy => hnum y (List.mem_of_mem_eraseIdx hy), by rw [map_eraseIdx, ← Heq.out], Hlo.out⟩, ⟨?_, fun y hy => ?_⟩, ?_, ?_, ?_, ?_, ?_, fun y hy => Hnl'.out y (List.mem_of_mem_eraseIdx hy)⟩
        · have h1 := row_keep ho6 hkq fun c hc e => by
            obtain ⟨c', hc'⟩ := own_ty ho6 hc
            exact hp6.ty_ne hc' (by decide) e.symm
          simpa [FV.cells, Hxv.out] using h1
        · rcases List.mem_append.1 hy with hy | hy
          · exact NumsAt.keep (NumsAt.keep (HF5.out.nums y hy) hk6 hwr5) hkq hwq
          · obtain rfl := List.mem_singleton.1 hy
            exact hnum _ Hxm.out
        · have h1 := Hrun.out
          rw [Hrs.out] at h1
          rw [← h1]
          have h2 : (r'.wait.eraseIdx j).length + 1 = r'.wait.length := by rw [List.length_eraseIdx, if_pos (by have := Hjl.out; have := Hml'.out; omega)]; have := Hjl.out; have := Hml'.out; omega
          simp only [h2, List.map_append, List.map_cons, List.map_nil]
        · exact (Keep.tr (Hk4.out.ext_r hx5) hk6 fun c hc => .inl (World.ownsRow.lt HF5.out.row c hc).1).trans (hkq.mono fun g _ h => .inl h)
        · simp only; omega
        · simp only [List.length_eraseIdx]
          rw [if_pos (by have := Hjl.out; have := Hml'.out; omega)]
          have := Hjl.out
          have := Hml'.out
          omega
        · simp only [List.length_eraseIdx, List.length_append, List.length_cons, List.length_nil]
          rw [if_pos (by have := Hjl.out; have := Hml'.out; omega)]
          have := Hjl.out
          have := Hml'.out
          omega
      case measure =>
        have h1 := HM7.out.size
        have h2 := HR.out.hm.size
        have h3 := Hjl.out
        rw [List.length_eraseIdx, List.length_map, if_pos h3] at h1
        rw [List.length_map] at h2
        rw [h1, h2]
        omega
end Go.Proofs.YtkabgmohgjljkaaDoor


/- Links: a frame is sent, or taken, in every case; the law's own trial. -/
namespace Go.Proofs.YtkabgmohgjljkaaDoor
set_option linter.unusedSimpArgs false
set_option linter.unusedVariables false
open Go Go.RowKit

theorem errv_ne {ev : Nat → Value} {c : Nat} (h : c ≠ 0) : errv ev c = ev c := by unfold errv; rw [if_neg h]
theorem take_any (r : Rcv) (f : Fr) (a : Option Addr) (cap : Nat) (w : World) (n0 : Nat) (t : Option Nat) (q b : Nat) (ms : List FV) (h : RcvAt w n0 t q b r ms) (hr : Ints w a f.nums.length f.nums) (hl : f.nums.length ≤ 1000)
    (ev : Nat → Value) (he : ErrsC w ev) (hev : ∀ c, c ≠ 0 → ∃ t v, ev c = .iface t v) (hd0 : 0 ≤ r.due) (hd1 : r.due ≤ 1000000) (hn0 : n0 ≤ w.heap.size) (ht : ∀ b, t = some b → b < w.heap.size) (hwl : r.wait.length ≤ 8) (hnl : ∀ g ∈ r.wait, g.nums.length ≤ 1000) :
    Calls Tryd.prog 22 #[.pointer (some ⟨q, 0, none⟩), frv f a cap] w fun e w' => ∃ ov outs ms', e = .returned (.tuple #[ov, errv ev (r.err f)]) ∧ RcvAt w' n0 t q b (r.take f).2 ms' ∧ FRow w' n0 t w.heap.size 48 ov outs ∧ outs.map FV.f = (r.take f).1 ∧ Keep (fun g => g = q ∨ g = b) w w' := by
  have hnil : ∀ w', FRow w' n0 t w.heap.size 48 (.slice none 0 0) [] := fun w' => FRow.nil _ _ _ _ _
  by_cases hc : f.code = 0
  · by_cases hs : f.fr ≠ r.fr ∨ f.to ≠ r.to ∨ f.kind = 97
    · have h3 : r.err f = 3 := by unfold Rcv.err; rw [if_neg (fun e => e hc), if_pos hs]
      have htk : r.take f = ([], r) := by unfold Rcv.take; rw [h3]; rfl
      rw [h3, htk]
      refine (take_shape r f a cap w n0 t q b ms h hr hl ev he hc hs).mono fun e w' ⟨e1, x⟩ => ?_
      exact ⟨_, [], ms, by rw [e1]; rfl, h.ext x, hnil _, rfl, x.keep _⟩
    · have h0 : r.err f = 0 := by unfold Rcv.err; rw [if_neg (fun e => e hc), if_neg hs]
      have htk : r.take f = r.took f := by unfold Rcv.take; rw [if_pos h0]
      rw [h0, htk]
      have s1 : f.fr = r.fr := Classical.byContradiction fun e => hs (.inl e)
      have s2 : f.to = r.to := Classical.byContradiction fun e => hs (.inr (.inl e))
      have s3 : f.kind ≠ 97 := fun e => hs (.inr (.inr e))
      by_cases ho : f.seq < r.due ∨ (Rcv.find r.wait f.seq).isSome = true
      · have hto : r.took f = ([], r) := by unfold Rcv.took; rw [if_pos ho]
        rw [hto]
        refine (take_old r f a cap w n0 t q b ms h hr hl ev he hc s1 s2 s3 ho).mono fun e w' ⟨e1, x⟩ => ?_
        exact ⟨_, [], ms, by rw [e1]; rfl, h.ext x, hnil _, rfl, x.keep _⟩
      · have hfd : Rcv.find r.wait f.seq = none := by
          cases hf : Rcv.find r.wait f.seq with
          | none => rfl
          | some j => exact absurd (.inr (by rw [hf]; rfl)) ho
        by_cases hd : r.due < f.seq
        · have h1 : (r.took f).1 = [] := by unfold Rcv.took; rw [if_neg ho, if_pos hd]
          refine (take_far r f a cap w n0 t q b ms h hr hl ev he hc s1 s2 s3 hfd hd ht hwl).mono fun e w' ⟨e1, ⟨ms', e2⟩, e3⟩ => ?_
          exact ⟨_, [], ms', by rw [e1]; rfl, e2, hnil _, by rw [h1]; rfl, e3.mono fun g _ h => .inr h⟩
        · have hde : r.due = f.seq := by
            have : ¬ f.seq < r.due := fun e => ho (.inl e)
            omega
          exact take_now r f a cap w n0 t q b ms h hr hl ev he hc s1 s2 s3 hfd hde hd0 hd1 hn0 ht hwl (fun x hx => hnl x.f (by rw [h.eq]; exact List.mem_map.2 ⟨x, hx, rfl⟩))
  · have h3 : r.err f = f.code := by unfold Rcv.err; rw [if_pos hc]
    have htk : r.take f = ([], r) := by unfold Rcv.take; rw [h3, if_neg hc]
    rw [h3, htk, errv_ne hc]
    refine (take_code r f a cap w n0 t q b ms h hr hl ev he f.code rfl hc (hev _ hc)).mono fun e w' ⟨e1, x⟩ => ?_
    exact ⟨_, [], ms, e1, h.ext x, hnil _, rfl, x.keep _⟩

theorem send_bad (s : Snd) (kind : UInt8) (nums : List Int) (a : Option Addr) (cap : Nat) (w : World) (n0 : Nat) (t : Option Nat) (p : Nat) (lv : Value) (ks : List (FV × Int)) (h : SndAt w n0 t p s lv ks) (hr : Ints w a nums.length nums) (hl : nums.length ≤ 1000)
    (ev : Nat → Value) (he : ErrsC w ev) (hev : ∀ c, c ≠ 0 → ∃ t v, ev c = .iface t v) (h0 : s.err kind nums ≠ 0) :
    Calls Tryd.prog 11 #[.pointer (some ⟨p, 0, none⟩), .int .u8 (kind.toNat : Int), .slice a nums.length cap] w fun e w' => e = .returned (.tuple #[fr0, ev (s.err kind nums)]) ∧ Ext w w' := by
  unfold Snd.err at h0 ⊢
  by_cases hc : (s.frame kind nums).code = 0
  · rw [if_neg (fun e => e hc)] at h0 ⊢
    by_cases hk : kind = 97
    · rw [if_pos hk]
      exact send_ack s kind nums a cap w n0 t p lv ks h hr hl ev he hc hk
    · rw [if_neg hk] at h0 ⊢
      by_cases hf : 200 ≤ s.l.length
      · rw [if_pos hf]
        exact send_full s kind nums a cap w n0 t p lv ks h hr hl ev he hc hk hf
      · rw [if_neg hf] at h0; exact absurd rfl h0
  · rw [if_pos hc]
    exact send_code s kind nums a cap w n0 t p lv ks h hr hl ev he _ rfl hc (hev _ hc)
theorem send_good (s : Snd) (kind : UInt8) (nums : List Int) (a : Option Addr) (cap : Nat) (w : World) (n0 : Nat) (t : Option Nat) (p : Nat) (lv : Value) (ks : List (FV × Int)) (h : SndAt w n0 t p s lv ks) (hr : Ints w a nums.length nums) (hl : nums.length ≤ 1000)
    (ev : Nat → Value) (he : ErrsC w ev) (h0 : s.err kind nums = 0) (m : Nat) (ok : s.Ok m) (hm : m ≤ 1000000) (hn0 : n0 ≤ w.heap.size) (ht : ∀ b, t = some b → b < w.heap.size) :
    Calls Tryd.prog 11 #[.pointer (some ⟨p, 0, none⟩), .int .u8 (kind.toNat : Int), .slice a nums.length cap] w fun e w' => ∃ v lv' ks', e = .returned (.tuple #[(FV.mk (s.frame kind nums) v).val, .nilIface]) ∧ SndAt w' n0 t p (s.sent kind nums) lv' ks' ∧ IRow w.heap.size w' v nums ∧ Keep (fun b => b = p ∨ lv.ownBlock = some b) w w' := by
  obtain ⟨h1, h2, h3⟩ := Snd.err_zero h0
  exact send_ok s kind nums a cap w n0 t p lv ks h hr hl ev he h1 h2 h3 m ok hm hn0 ht
/-- The same, seen from far: only what is new since n0 is written. -/
theorem SndAt.ext_of {w0 w w' : World} {t : Option Nat} {p : Nat} {s : Snd} {lv : Value} {ks : List (FV × Int)} (h : SndAt w w0.heap.size t p s lv ks) (x : Ext w0 w) (k : Keep (fun b => b = p ∨ lv.ownBlock = some b) w w') : Ext w0 w' :=
  Keep.new x k fun b hb => hb.elim (fun e => by have := h.lo; omega) fun e => (World.ownsRow.lt h.hl b e).1
theorem RcvAt.ext_of {w0 w w' : World} {t : Option Nat} {q b : Nat} {r : Rcv} {ms : List FV} (h : RcvAt w w0.heap.size t q b r ms) (x : Ext w0 w) (k : Keep (fun g => g = q ∨ g = b) w w') : Ext w0 w' :=
  Keep.new x k fun g hg => by have := h.lo; rcases hg with hg | hg <;> omega
/-- The sender and the receiver do not stand in each other's way. -/
theorem RcvAt.beside {w w' : World} {n0 : Nat} {t : Option Nat} {p q b : Nat} {s : Snd} {lv : Value} {ks : List (FV × Int)} {r : Rcv} {ms : List FV} (hs : SndAt w n0 t p s lv ks) (hr : RcvAt w n0 t q b r ms) (k : Keep (fun b => b = p ∨ lv.ownBlock = some b) w w') : RcvAt w' n0 t q b r ms :=
  hr.keep k ((Wr.blk hs.hp (by decide) hs.lo).or (Wr.row hs.hl (by decide))) (fun e => e.elim (fun e => hs.hp.ty_ne hr.hp (by decide) e.symm) fun e => by
    obtain ⟨c, hc⟩ := own_ty hs.hl e
    exact hc.ty_ne hr.hp (by decide) rfl) (fun e => e.elim (fun e => hr.hm.qne hs.hp e.symm) fun e => by
    obtain ⟨c, hc⟩ := own_ty hs.hl e
    exact hr.hm.qne hc rfl)
theorem SndAt.beside {w w' : World} {n0 : Nat} {t : Option Nat} {p q b : Nat} {s : Snd} {lv : Value} {ks : List (FV × Int)} {r : Rcv} {ms : List FV} (hs : SndAt w n0 t p s lv ks) (hr : RcvAt w n0 t q b r ms) (k : Keep (fun g => g = q ∨ g = b) w w') : SndAt w' n0 t p s lv ks :=
  hs.keep k ((Wr.blk hr.hp (by decide) hr.lo.1).or (Wr.map hr.hm hr.lo.2)) (fun e => e.elim (fun e => hs.hp.ty_ne hr.hp (by decide) e) fun e => hr.hm.qne hs.hp e) fun c hc e => by
    obtain ⟨c', hc'⟩ := own_ty hs.hl hc
    rcases e with e | e
    · exact hc'.ty_ne hr.hp (by decide) e
    · exact hr.hm.qne hc' e
end Go.Proofs.YtkabgmohgjljkaaDoor


/- The reference's links: what lies where; the ends; what is answered; what waits. -/
namespace Go.Proofs.YtkabgmohgjljkaaDoor
set_option linter.unusedSimpArgs false
set_option linter.unusedVariables false
open Go Go.RowKit

/-- The reference's sender at p. -/
structure RSnd (w : World) (n0 p : Nat) (s : Snd) (lv : Value) (ks : List (FV × Int)) : Prop where
  hp : Blk w p #[.int .i64 s.fr, .int .i64 s.to, .int .i64 s.next, .int .i64 s.now, lv] 38
  hl : w.ownsRow n0 100 6 lv ks.length (ks.flatMap kcells)
  hn : ∀ x ∈ ks, x.1.At w n0 none
  eq : s.l = ks.map fun x => (x.1.f, x.2)
  lo : n0 ≤ p
theorem RSnd.len {w : World} {n0 p : Nat} {s : Snd} {lv : Value} {ks : List (FV × Int)} (h : RSnd w n0 p s lv ks) : s.l.length = ks.length := by rw [h.eq]; simp
theorem RSnd.keep {w w' : World} {n0 p : Nat} {s : Snd} {lv : Value} {ks : List (FV × Int)} {X : Nat → Prop} (h : RSnd w n0 p s lv ks) (k : Keep X w w') (hx : Wr w n0 none X) (h1 : ¬ X p) (h2 : ∀ b, lv.ownBlock = some b → ¬ X b) : RSnd w' n0 p s lv ks :=
  ⟨h.hp.keep k h1, row_keep h.hl k h2, fun x hm => NumsAt.keep (h.hn x hm) k hx, h.eq, h.lo⟩
theorem RSnd.ext {w w' : World} {n0 p : Nat} {s : Snd} {lv : Value} {ks : List (FV × Int)} (h : RSnd w n0 p s lv ks) (x : Ext w w') : RSnd w' n0 p s lv ks :=
  h.keep (x.keep fun _ => False) Wr.none (fun e => e) fun _ _ e => e
/-- The reference's receiver at q. -/
structure RRcv (w : World) (n0 q : Nat) (r : Rcv) (wv : Value) (fs : List FV) : Prop where
  hp : Blk w q #[.int .i64 r.fr, .int .i64 r.to, .int .i64 r.due, wv] 42
  hl : FRow w n0 none n0 45 wv fs
  eq : r.wait = fs.map FV.f
  lo : n0 ≤ q
theorem RRcv.len {w : World} {n0 q : Nat} {r : Rcv} {wv : Value} {fs : List FV} (h : RRcv w n0 q r wv fs) : r.wait.length = fs.length := by rw [h.eq]; simp
theorem RRcv.keep {w w' : World} {n0 q : Nat} {r : Rcv} {wv : Value} {fs : List FV} {X : Nat → Prop} (h : RRcv w n0 q r wv fs) (k : Keep X w w') (hx : Wr w n0 none X) (h1 : ¬ X q) (h2 : ∀ b, wv.ownBlock = some b → ¬ X b) : RRcv w' n0 q r wv fs :=
  ⟨h.hp.keep k h1, h.hl.keep k hx h2, h.eq, h.lo⟩
theorem RRcv.ext {w w' : World} {n0 q : Nat} {r : Rcv} {wv : Value} {fs : List FV} (h : RRcv w n0 q r wv fs) (x : Ext w w') : RRcv w' n0 q r wv fs :=
  h.keep (x.keep fun _ => False) Wr.none (fun e => e) fun _ _ e => e
theorem rkept_info : (Tryd.prog.info? 100).map (fun i => (i.zero, i.size, i.bytes)) = some (some (.agg #[.int .u8 0, .int .i64 0, .int .i64 0, .int .i64 0, .slice none 0 0, .int .i64 0]), 6, 64) := by kernel_rfl
theorem rframe_info : (Tryd.prog.info? 45).map (fun i => (i.zero, i.size, i.bytes)) = some (some (.agg #[.int .u8 0, .int .i64 0, .int .i64 0, .int .i64 0, .slice none 0 0]), 5, 56) := by kernel_rfl

set_option maxRecDepth 100000 in
set_option maxHeartbeats 800000 in
theorem refends_any (fr to : Int) (w : World) : Calls Tryd.prog 9 #[.int .i64 fr, .int .i64 to] w fun e w' => e = .returned (.int .i64 (endsCode fr to : Int)) ∧ w = w' := by
  by_cases h1 : fr < 0
  · have Hc := hid (show endsCode fr to = 2 by unfold endsCode; rw [if_pos (.inl h1)])
    go_enter Tryd.func9, Tryd.ntmps9
    go_wp2
    go_ret
    exact ⟨by rw [Hc.out]; rfl, rfl⟩
  by_cases h2 : 6 ≤ fr
  · have Hc := hid (show endsCode fr to = 2 by unfold endsCode; rw [if_pos (.inr (.inl h2))])
    go_enter Tryd.func9, Tryd.ntmps9
    go_wp2
    go_ret
    exact ⟨by rw [Hc.out]; rfl, rfl⟩
  by_cases h3 : to < 0
  · have Hc := hid (show endsCode fr to = 2 by unfold endsCode; rw [if_pos (.inr (.inr (.inl h3)))])
    go_enter Tryd.func9, Tryd.ntmps9
    go_wp2
    go_ret
    exact ⟨by rw [Hc.out]; rfl, rfl⟩
  by_cases h4 : 6 ≤ to
  · have Hc := hid (show endsCode fr to = 2 by unfold endsCode; rw [if_pos (.inr (.inr (.inr h4)))])
    go_enter Tryd.func9, Tryd.ntmps9
    go_wp2
    go_ret
    exact ⟨by rw [Hc.out]; rfl, rfl⟩
  by_cases h5 : fr = to
  · have Hc := hid (show endsCode fr to = 3 by unfold endsCode; rw [if_neg (by omega), if_pos h5])
    subst h5
    go_enter Tryd.func9, Tryd.ntmps9
    go_wp2
    go_ret
    exact ⟨by rw [Hc.out]; rfl, rfl⟩
  · have Hc := hid (show endsCode fr to = 0 by unfold endsCode; rw [if_neg (by omega), if_neg h5])
    go_enter Tryd.func9, Tryd.ntmps9
    go_wp2
    go_ret
    exact ⟨by rw [Hc.out]; rfl, rfl⟩

theorem keptB_snoc (n : Int) (ks : List (FV × Int)) (j : Nat) (x : FV × Int) (hx : ks[j]? = some x) : (ks.take (j + 1)).filter (keptB n) = (ks.take j).filter (keptB n) ++ if keptB n x = true then [x] else [] := by
  rw [List.take_add_one, hx, List.filter_append]
  simp only [Option.toList, List.filter_cons, List.filter_nil]

set_option maxRecDepth 100000 in
set_option maxHeartbeats 1600000 in
theorem refacked_any (s : Snd) (n : Int) (w : World) (n0 p : Nat) (lv : Value) (ks : List (FV × Int)) (h : RSnd w n0 p s lv ks) (hb : s.l.length ≤ 200) (hn0 : n0 ≤ w.heap.size) :
    Calls Tryd.prog 21 #[.pointer (some ⟨p, 0, none⟩), .int .i64 n] w fun e w' => e = .returned (.tuple #[]) ∧ ∃ lv' ks', RSnd w' n0 p (s.acked n) lv' ks' ∧ Keep (fun b => b = p) w w' := by
  have hbk : ks.length ≤ 1000 := by have := h.len; omega
  obtain ⟨a4, cc, hlv⟩ := row_form h.hl
  have H := hid h
  have Hlv := hid hlv
  have Hn0 := hid hn0
  clear h hlv hb hn0
  go_enter Tryd.func21, Tryd.ntmps21
  go_wp2
  go_loopw [4, 5] (fun t4 t5 wr => ∃ (i : Nat) (out : List (FV × Int)), t5 = .int .i64 (i : Int) ∧ i ≤ ks.length ∧ wr.ownsRow w.heap.size 100 6 t4 out.length (out.flatMap kcells) ∧ out = (ks.take i).filter (keptB n) ∧ Ext w wr) (fun _ t5 _ => ks.length - (intOf t5).toNat)
  case atStart => exact ⟨0, [], rfl, Nat.zero_le _, World.ownsRow_nil _ _ _ _, rfl, Ext.refl _⟩
  case round =>
    obtain ⟨i, out, rfl, hi, hrow, hO, hx⟩ := hrel
    have HO := hid hO
    clear hO
    obtain ⟨ao, co, rfl⟩ := row_form hrow
    have hpw := H.out.hp.ext hx
    have q4 := hpw.av 4 rfl
    simp only [List.getElem_toArray, List.getElem_cons_zero, List.getElem_cons_succ] at q4
    rw [Hlv.out] at q4
    by_cases hlt : i < ks.length
    · have hxk : ks[i]? = some (ks[i]'hlt) := List.getElem?_eq_getElem hlt
      obtain ⟨x, hxd⟩ : ∃ x, x = ks[i]'hlt := ⟨_, rfl⟩
      rw [← hxd] at hxk
      have hm := List.mem_of_getElem? hxk
      have hlr := row_keep H.out.hl (hx.keep fun _ => False) (fun _ _ h => h)
      obtain ⟨gb, cp, he⟩ := own_some hlr (by omega)
      have he2 := Hlv.out.symm.trans he
      simp only [Value.slice.injEq, true_and] at he2
      obtain ⟨rfl, rfl⟩ := he2
      rw [he] at hlr
      obtain ⟨c0, c1, c2, c3, c4, c5⟩ := own_k hlr hxk
      obtain ⟨av, cv, _, hv, _⟩ := (H.out.hn x hm).form
      rw [hv] at c4
      have Hv := hid hv
      have Hxk := hid hxk
      have Hrow := hid hrow
      have Hx := hid hx
      clear hlr hxd hxk hm he hv hrow hx hpw
      by_cases hf : n ≤ x.1.f.seq
      · have Hf := hid (show keptB n x = true by unfold keptB; simpa using hf)
        have hol : out.length ≤ 1000000 := by
          have h1 := congrArg List.length HO.out
          have h2 := List.length_filter_le (keptB n) (ks.take i)
          rw [List.length_take] at h2
          omega
        have Hol := hid hol
        obtain ⟨NB, hNB⟩ : ∃ NB, NB = wr.alloc (.cells #[.int .u8 (x.1.f.kind.toNat : Int), .int .i64 x.1.f.fr, .int .i64 x.1.f.to, .int .i64 x.1.f.seq, .slice av x.1.f.nums.length cv, .int .i64 x.2] 100) := ⟨_, rfl⟩
        have hx1 : Ext wr NB := by rw [hNB]; exact (Ext.refl wr).alloc _
        have hBn : Blk NB wr.heap.size #[.int .u8 (x.1.f.kind.toNat : Int), .int .i64 x.1.f.fr, .int .i64 x.1.f.to, .int .i64 x.1.f.seq, .slice av x.1.f.nums.length cv, .int .i64 x.2] 100 := by rw [hNB]; exact Blk.new _ _ _
        have hr1 := row_keep Hrow.out (hx1.keep fun _ => False) (fun _ _ h => h)
        have hbs : w.heap.size ≤ NB.heap.size := Nat.le_trans Hx.out.size hx1.size
        have HBn := hid hBn
        have Hr1 := hid hr1
        have Hbs := hid hbs
        have Hx1 := hid hx1
        have HNB := hid hNB
        clear hBn hr1 hbs hx1 hNB hol
        go_wp2_with (at_builtin; rw [← HNB.out]; refine wpList_append_el w.heap.size Hbs.out 36 100 (.agg #[.int .u8 0, .int .i64 0, .int .i64 0, .int .i64 0, .slice none 0 0, .int .i64 0]) 6 64 Tryd.underlying36 rkept_info rfl (by omega) (by omega) rfl _ _ rfl (.slice ao out.length co) out.length (out.flatMap kcells) rfl Hr1.out wr.heap.size (kcells (⟨x.1.f, .slice av x.1.f.nums.length cv⟩, x.2)) rfl (by simp [kcells, FV.cells, Value.oneCell']) rfl HBn.out Hol.out ?_; intro v6 w6 ho6 hk6 hl6; obtain ⟨a6, c6, rfl⟩ := row_form ho6)
        go_roundw
        case rel =>
          refine ⟨i + 1, out ++ [x], by go_num, by omega, ?_, ?_, ?_⟩
          · have hxe : (⟨x.1.f, .slice av x.1.f.nums.length cv⟩, x.2) = x := by rw [← Hv.out]
            rw [hxe] at ho6
            simpa using ho6
          · rw [keptB_snoc n ks i x Hxk.out, Hf.out, HO.out]; simp
          · exact Keep.new (Hx.out.trans Hx1.out) hk6 fun b hb => (World.ownsRow.lt Hr1.out b hb).1
        case measure => simp [intOf]; omega
      · have Hf := hid (show keptB n x = false by unfold keptB; simpa using hf)
        go_wp2
        go_roundw
        case rel => exact ⟨i + 1, out, by go_num, by omega, Hrow.out, by rw [keptB_snoc n ks i x Hxk.out, Hf.out, HO.out]; simp, Hx.out⟩
        case measure => simp [intOf]; omega
    · obtain rfl : i = ks.length := by omega
      have HO2 := hid (show out = ks.filter (keptB n) by rw [HO.out, List.take_length])
      have f4 := hpw.free 4
      have hP := hpw.set 4 (.slice ao out.length co)
      simp only [List.setIfInBounds_toArray, List.set_cons_zero, List.set_cons_succ] at hP
      have hne : ∀ b, (Value.slice ao out.length co).ownBlock = some b → b ≠ p := fun b hb e => by
        obtain ⟨c, hc⟩ := own_ty hrow hb
        exact hpw.ty_ne hc (by decide) e.symm
      have hks : Keep (fun b => b = p) wr (wr.setCell ⟨p, 4, none⟩ (.slice ao out.length co)) := Keep.set (X := fun b => b = p) (Keep.refl _ _) rfl _
      have hwr : Wr wr n0 none fun b => b = p := Wr.blk hpw (by decide) H.out.lo
      have HR : Hid (RSnd (wr.setCell ⟨p, 4, none⟩ (.slice ao out.length co)) n0 p (s.acked n) (.slice ao out.length co) out) := hid ⟨hP, own_base (row_keep hrow hks hne) Hn0.out, fun x hx' => NumsAt.keep (NumsAt.ext (H.out.hn x (by rw [HO2.out] at hx'; exact (List.mem_filter.1 hx').1)) hx) hks hwr, by rw [HO2.out]; exact Snd.acked_eq H.out.eq n, H.out.lo⟩
      have HK := hid ((hx.keep fun b => b = p).trans hks)
      clear hrow hP hne hks hwr HO2 HO hx hpw
      go_wp2
      go_end0
      exact ⟨rfl, _, _, HR.out, HK.out⟩

/-- Where a number waits. -/
theorem Rcv.find_none {l : List Fr} {q : Int} (h : ∀ (j : Nat) (y : Fr), l[j]? = some y → y.seq ≠ q) : Rcv.find l q = none := by
  unfold Rcv.find
  rw [List.findIdx?_eq_none_iff]
  intro x hx
  obtain ⟨j, hj⟩ := List.getElem?_of_mem hx
  simpa using h j x hj
theorem Rcv.find_some {l : List Fr} {q : Int} {k : Nat} {x : Fr} (hk : l[k]? = some x) (hx : x.seq = q) (h : ∀ (j : Nat) (y : Fr), j < k → l[j]? = some y → y.seq ≠ q) : Rcv.find l q = some k := by
  have hlt : k < l.length := by
    rcases Nat.lt_or_ge k l.length with h1 | h1
    · exact h1
    · rw [List.getElem?_eq_none h1] at hk; cases hk
  unfold Rcv.find
  rw [List.findIdx?_eq_some_iff_getElem]
  refine ⟨hlt, ?_, fun j hj => ?_⟩
  · rw [List.getElem?_eq_getElem hlt] at hk
    simpa [Option.some.inj hk] using hx
  · simpa using h j _ hj (List.getElem?_eq_getElem (Nat.lt_trans hj hlt))
def findV (l : List Fr) (q : Int) : Int := match Rcv.find l q with
  | none => -1
  | some k => (k : Int)
theorem own_f {w : World} {base g n cap : Nat} {e : TypeId} {R : List FV} (h : w.ownsRow base e 5 (.slice (some ⟨g, 0, none⟩) n cap) n (R.flatMap FV.cells)) {i : Nat} {x : FV} (hx : R[i]? = some x) :
    w.cell? ⟨g, i * 5, none⟩ = some (.int .u8 (x.f.kind.toNat : Int)) ∧ w.cell? ⟨g, i * 5 + 1, none⟩ = some (.int .i64 x.f.fr) ∧ w.cell? ⟨g, i * 5 + 2, none⟩ = some (.int .i64 x.f.to) ∧ w.cell? ⟨g, i * 5 + 3, none⟩ = some (.int .i64 x.f.seq) ∧ w.cell? ⟨g, i * 5 + 4, none⟩ = some x.v := by
  have c : ∀ j v, x.cells[j]? = some v → j < 5 → w.cell? ⟨g, i * 5 + j, none⟩ = some v := fun j v hv hj => own_get h _ ((fm_get FV.cells 5 FV.cells_len R i j x hx hj).trans hv)
  exact ⟨c 0 _ rfl (by omega), c 1 _ rfl (by omega), c 2 _ rfl (by omega), c 3 _ rfl (by omega), c 4 _ rfl (by omega)⟩

set_option maxRecDepth 100000 in
set_option maxHeartbeats 800000 in
theorem refrfind_any (r : Rcv) (q : Int) (w : World) (n0 p : Nat) (wv : Value) (fs : List FV) (h : RRcv w n0 p r wv fs) (hb : r.wait.length ≤ 1000) :
    Calls Tryd.prog 43 #[.pointer (some ⟨p, 0, none⟩), .int .i64 q] w fun e w' => e = .returned (.int .i64 (findV r.wait q)) ∧ w = w' := by
  have hbk : fs.length ≤ 1000 := by have := h.len; omega
  have q3 := h.hp.av 3 rfl
  simp only [List.getElem_toArray, List.getElem_cons_zero, List.getElem_cons_succ] at q3
  obtain ⟨a4, cc, hwv⟩ := row_form h.hl.row
  rw [hwv] at q3
  have H := hid h
  have Hwv := hid hwv
  clear h hwv hb
  go_enter Tryd.func43, Tryd.ntmps43
  go_wp2
  go_loopw [5] (fun t5 wr => ∃ i : Nat, t5 = .int .i64 (i : Int) ∧ i ≤ fs.length ∧ (∀ j y, j < i → r.wait[j]? = some y → y.seq ≠ q) ∧ w = wr) (fun t5 _ => fs.length - (intOf t5).toNat)
  case atStart => exact ⟨0, rfl, Nat.zero_le _, fun j y h => by omega, rfl⟩
  case round =>
    obtain ⟨i, rfl, hi, hne, rfl⟩ := hrel
    have Hne := hid hne
    clear hne
    by_cases hlt : i < fs.length
    · have hxk : fs[i]? = some (fs[i]'hlt) := List.getElem?_eq_getElem hlt
      obtain ⟨x, hxd⟩ : ∃ x, x = fs[i]'hlt := ⟨_, rfl⟩
      rw [← hxd] at hxk
      have hlr := H.out.hl.row
      obtain ⟨gb, cp, he⟩ := own_some hlr (by omega)
      have he2 := Hwv.out.symm.trans he
      simp only [Value.slice.injEq, true_and] at he2
      obtain ⟨rfl, rfl⟩ := he2
      rw [he] at hlr
      have c3 := (own_f hlr hxk).2.2.2.1
      have Hxk := hid (show r.wait[i]? = some x.f by rw [H.out.eq, List.getElem?_map, hxk]; rfl)
      clear hlr hxd hxk he
      by_cases hf : x.f.seq = q
      · have Hf := hid (show findV r.wait q = (i : Int) by unfold findV; rw [Rcv.find_some Hxk.out hf Hne.out])
        go_wp2
        go_ret
        exact ⟨by rw [Hf.out]; rfl, rfl⟩
      · have Hf := hid hf
        go_wp2
        go_roundw
        case rel => exact ⟨i + 1, by go_num, by omega, fun j y hj hy => by
          by_cases hjk : j = i
          · subst hjk
            obtain rfl := Option.some.inj (Hxk.out.symm.trans hy)
            exact Hf.out
          · exact Hne.out j y (by omega) hy, trivial⟩
        case measure => simp [intOf]; omega
    · obtain rfl : i = fs.length := by omega
      have Hf := hid (show findV r.wait q = -1 by
        unfold findV
        rw [Rcv.find_none (l := r.wait) (q := q) fun j y hy => Hne.out j y (by
          have h1 := H.out.len
          rcases Nat.lt_or_ge j r.wait.length with h | h
          · omega
          · rw [List.getElem?_eq_none h] at hy; cases hy) hy])
      go_wp2
      go_ret
      exact ⟨by rw [Hf.out]; rfl, rfl⟩
end Go.Proofs.YtkabgmohgjljkaaDoor
