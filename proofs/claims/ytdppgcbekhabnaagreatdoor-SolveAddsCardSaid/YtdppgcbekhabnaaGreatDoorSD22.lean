/- Texts of one proof, put together: ZZ2 ZZ3 ZZ4 ZZ5 E3. -/
import Derived.Test.YtdppgcbekhabnaaGreatDoorSD10
import Derived.Test.YtdppgcbekhabnaaGreatDoorSD14
import Derived.Test.YtdppgcbekhabnaaGreatDoorSD18
import Derived.Test.YtdppgcbekhabnaaGreatDoorSD21

/- The solver: so many steps; what a node has; is it done? -/
namespace Go.Proofs.YtdppgcbekhabnaaGreatDoor
set_option linter.unusedSimpArgs false
set_option linter.unusedVariables false
open Go Go.RowKit

theorem len_zero2 (n : Nat) : ((n : Int) == 0) = decide (n = 0) := by
  by_cases h : n = 0
  · subst h; rfl
  · rw [decide_eq_false h]; exact beq_eq_false_iff_ne.2 (by omega)
set_option maxRecDepth 100000 in
set_option maxHeartbeats 1600000 in
theorem solvedone_any (P : PP) (S : List (List Int)) (s : SV) (w : World) (G F : Nat → Prop) (g : Nat) (ad : Nat → Addr) {vr : Value} {rs : List R2} {vh : Value} {hs : List Value} (hS : SolvAt w G F g ad P vr rs vh hs s) (hC : Core P S s) (hg : P.GoodS S) :
    Calls Tryz.prog 17 #[.pointer (some ⟨g, 0, none⟩)] w fun x w' => x = .returned (.bool (decide (s.clean.wait = []))) ∧ SolvAt w' G F g ad P vr rs vh hs s.clean ∧ Keep (fun b => ¬ F b) w w' := by
  have HC := hid (solveclean_any P S s w G F g ad hS hC hg)
  clear hS hC hg
  go_enter Tryz.func17, Tryz.ntmps17
  go_wp2_with fail
  refine HC.out.mono ?_
  intro x w1 hx
  obtain ⟨rfl, hS1, hK1⟩ := hx
  obtain ⟨a1, a2, a3, c1, c2, c3, m1, m2, f1, vw, h1⟩ := hS1
  obtain ⟨aw, cw, rfl⟩ := h1.wrow.form
  have HS1 := hid h1
  have HK1 := hid hK1
  have b8 := h1.blk.av 8 rfl
  simp only [solvCells, List.getElem_toArray, List.getElem_cons_zero, List.getElem_cons_succ] at b8
  have hlz := len_zero2 s.clean.wait.length
  have hd : decide (s.clean.wait = []) = decide (s.clean.wait.length = 0) := by
    rw [decide_eq_decide]
    exact List.length_eq_zero_iff.symm
  obtain ⟨d, hd2⟩ : ∃ d, d = decide (s.clean.wait.length = 0) := ⟨_, rfl⟩
  rw [← hd2] at hlz hd
  have Hd := hid hd
  clear HC h1 hK1 hd hd2
  go_wp2
  go_ret
  exact ⟨by rw [Hd.out]; rfl, ⟨_, _, _, _, _, _, _, _, _, _, HS1.out⟩, HK1.out⟩
theorem list_shape {α : Type} (l : List α) : l = [] ∨ ∃ f r, l = f :: r := by
  cases l with
  | nil => exact .inl rfl
  | cons f r => exact .inr ⟨f, r, rfl⟩
set_option maxRecDepth 100000 in
set_option maxHeartbeats 6400000 in
theorem solvestep_any (P : PP) (S : List (List Int)) (s : SV) (n : Int) (w : World) (G F : Nat → Prop) (g : Nat) (ad : Nat → Addr) {vr : Value} {rs : List R2} {vh : Value} {hs : List Value} (hS : SolvAt w G F g ad P vr rs vh hs s) (hO : SolvOk P S s) (hg : P.GoodS S) (hc : ClosedP P S) :
    Calls Tryz.prog 16 #[.pointer (some ⟨g, 0, none⟩), .int .i64 n] w fun x w' => x = .returned (.int .i64 ((s.step P n).2 : Int)) ∧ SolvAt w' G F g ad P vr rs vh hs (s.step P n).1 ∧ Keep (fun b => ¬ F b) w w' := by
  have HC := hid (solveclean_any P S s w G F g ad hS hO.full.core hg)
  have HO0 := hid hO.clean
  have Hrd0 := hid (clean_ready s)
  have Hg := hid hg
  have Hc := hid hc
  obtain ⟨hn1, hn2⟩ := hg.1.nodes
  have Hst : Hid (s.step P n = ((s.clean.steps P (n.toNat - 0)).1, (s.clean.steps P (n.toNat - 0)).2 + 0)) := hid rfl
  have Htt : Hid (s.clean.tot P = s.tot P + 0) := hid (tot_has (clean_has s))
  clear hS hO hg hc
  generalize hR : s.step P n = R at *
  clear hR
  generalize s.clean = s0 at *
  generalize s.tot P = t0 at *
  go_enter Tryz.func16, Tryz.ntmps16
  go_wp2_with fail
  refine HC.out.mono ?_
  intro x w1 hx
  obtain ⟨rfl, hS1, hK1⟩ := hx
  have HS1 := hid hS1
  have HK1 := hid hK1
  clear HC hS1 hK1
  go_wp2
  go_loopw [5] (fun t5 wr => ∃ (k : Nat) (t : SV), t5 = .int .i64 (k : Int) ∧ k ≤ n.toNat ∧ R = ((t.steps P (n.toNat - k)).1, (t.steps P (n.toNat - k)).2 + k) ∧ SolvOk P S t ∧ t.ready ∧ t.tot P = t0 + k ∧ SolvAt wr G F g ad P vr rs vh hs t ∧ Keep (fun b => ¬ F b) w wr) (fun t5 _ => n.toNat - (intOf t5).toNat)
  case atStart => exact ⟨0, s0, rfl, Nat.zero_le _, Hst.out, HO0.out, Hrd0.out, Htt.out, HS1.out, HK1.out⟩
  case round =>
    clear HO0 Hrd0 Hst Htt HS1 HK1
    obtain ⟨k, t, rfl, hk, hR, hO, hrd, htt, hS, hK⟩ := hrel
    have HR := hid hR
    have HO := hid hO
    have Hrd := hid hrd
    have Htt := hid htt
    have HK := hid hK
    have hk2 : k ≤ 15120 := by have := tot_all Hg.out hO.full.core; omega
    obtain ⟨a1, a2, a3, c1, c2, c3, m1, m2, f1, vw, h⟩ := hS
    clear hR hO hrd htt hK
    by_cases hkn : (k : Int) < n
    · rcases list_shape t.wait with hw | ⟨f, r, hw⟩
      · obtain ⟨aw, cw, rfl⟩ := h.wrow.form
        have HS := hid h
        have b8 := h.blk.av 8 rfl
        simp only [solvCells, List.getElem_toArray, List.getElem_cons_zero, List.getElem_cons_succ, hw, List.length_nil] at b8
        have HRe : Hid (R = (t, k)) := hid (by rw [HR.out, steps_nil P _ hw, Nat.zero_add])
        clear h hw
        go_wp2
        go_ret
        rw [HRe.out]
        exact ⟨rfl, ⟨_, _, _, _, _, _, _, _, _, _, HS.out⟩, HK.out⟩
      · obtain ⟨hfw, hf2⟩ := wait_fact Hg.out HO.out.full hw
        have HMk := hid (HO.out.full.marked Hg.out hfw hf2)
        have HMb := hid (told1_bnd Hg.out HO.out.full HO.out.bnd Hrd.out hw)
        have HCm := hid (HO.out.full.came Hg.out Hc.out hfw hf2)
        have Hone := hid (one_at (P := P) hw)
        have HOn := hid (HO.out.full.one Hg.out Hc.out Hrd.out hw)
        have HBn := hid (bnd_one Hg.out Hc.out HO.out.full HO.out.bnd Hrd.out)
        have HRn : Hid (R = (((t.one P).steps P (n.toNat - (k + 1))).1, ((t.one P).steps P (n.toNat - (k + 1))).2 + (k + 1))) := hid (by
          rw [HR.out, show n.toNat - k = (n.toNat - (k + 1)) + 1 by omega, steps_cons P _ hw]
          simp only [Nat.add_assoc, Nat.add_comm 1 k])
        have Hfw := hid hfw
        have Hf2 := hid hf2
        have Hlen := hid HO.out.full.core.len
        obtain ⟨fi, o⟩ := f
        simp only at hfw hf2
        obtain ⟨i, rfl⟩ := Int.eq_ofNat_of_zero_le hfw.1.1
        obtain ⟨j, rfl⟩ := Int.eq_ofNat_of_zero_le hf2.1
        have hin : i < P.nodesV := by omega
        have hjn : j < P.objectsV := by omega
        have hil : i < t.has.length := by rw [Hlen.out]; exact hin
        obtain ⟨vb, lb, hvb, hlb, hrb⟩ := h.hbag.at (i := i) hil
        have hll : lb.length = P.objectsV := HO.out.full.core.row lb (List.mem_of_getElem? hlb)
        unfold TrRow at hrb
        rw [hll] at hrb
        obtain ⟨gb, cb, rfl⟩ := own_some hrb (by omega)
        obtain ⟨gh, ch, hvh⟩ := own_some h.hrow (by omega)
        subst hvh
        obtain ⟨gq, off, cap, rfl, hcap⟩ := h.wrow.pos (by rw [hw]; simp)
        have hq := h.wrow
        rw [hw] at hq
        have hq0 := hq.get 0 (u := .int .i64 (i : Int)) rfl
        have hq1 := hq.get 1 (u := .int .i64 (j : Int)) rfl
        simp only [Nat.add_zero] at hq0
        have b8 := h.blk.av 8 rfl
        simp only [solvCells, List.getElem_toArray, List.getElem_cons_zero, List.getElem_cons_succ, hw, List.length_cons] at b8
        obtain ⟨V, hV⟩ : ∃ V, V = wr.alloc (.cells #[.int .i64 (i : Int), .int .i64 (j : Int)] 97) := ⟨_, rfl⟩
        have HVe := hid hV
        have HVx : Hid (Ext wr V) := hid (by rw [hV]; exact (Ext.refl _).alloc _)
        have HBf : Hid (Blk V wr.heap.size #[.int .i64 (i : Int), .int .i64 (j : Int)] 97) := hid (by rw [hV]; exact Blk.new _ _ _)
        have HS := hid (h.ext HVx.out)
        have HK2 := hid (HK.out.ext_r HVx.out)
        have hwl : r.length + 1 ≤ 500000000 := by
          have := HO.out.bnd.wait_few Hg.out.1 HO.out.full.core
          rw [hw, List.length_cons] at this
          exact this
        have b4 := HS.out.blk.kc (X := fun _ => False) (fun e => e) 4 rfl
        simp only [solvCells, List.getElem_toArray, List.getElem_cons_zero, List.getElem_cons_succ] at b4
        have d0 := HBf.out.kc (X := fun _ => False) (fun e => e) 0 rfl
        have d1 := HBf.out.kc (X := fun _ => False) (fun e => e) 1 rfl
        simp only [List.getElem_toArray, List.getElem_cons_zero, List.getElem_cons_succ] at d0 d1
        have h4 : ∀ w1, Keep (fun _ => False) V w1 → w1.cell? ⟨gh, i, none⟩ = some (.slice (some ⟨gb, 0, none⟩) P.objectsV cb) := fun w1 x => own_get (own_ext HS.out.hrow x.ext) i hvb
        have Hvb := hid hvb
        have Hlb := hid hlb
        have Hll := hid hll
        have Hhb : Hid (∃ c, Blk V gb c 4) := hid (own_ty (own_ext hrb HVx.out) rfl)
        clear h hw hfw hf2 hvb hlb hrb hll hq hV
        go_wp2
        rw [← HVe.out]
        refine wp_flowT (fun _ => False) (by kernel_rfl) (by kernel_rfl) ?_
        repeat (apply FlowT.d; (intro w1 hk; unfold does; go_simp; (try go_ints); (first | exact DetR.mk | (simp only [↓IntWalk.iteOmega, Oper.doesUpon_value]; exact DetR.mk) | (simp only [↓IntWalk.iteOmega]; go_simp; (try go_ints); exact DetR.mk))); simp only [Act.put, List.setIfInBounds_toArray, List.set_cons_zero, List.set_cons_succ])
        refine FlowT.last (fun _ w' => SolvB w' G F g ad a1 a2 a3 c1 c2 c3 P vr rs (.slice (some ⟨gh, 0, none⟩) t.has.length ch) hs m1 m2 f1 (.slice (some ⟨gq, off, none⟩) t.wait.length cap) (t.mark ((i : Int), (j : Int))) ∧ Blk w' wr.heap.size #[.int .i64 (i : Int), .int .i64 (j : Int)] 97 ∧ Keep (fun b => ¬ F b) w w') 11 rfl (by kernel_rfl) (by kernel_rfl) (fun w5 hC hk => ?_) (fun _ w6 hR => ?_)
        · obtain ⟨cbl, hcb⟩ := Hhb.out
          have f5 := (hcb.ext hk.ext).free j
          have h5 : w5.cell? ⟨gb, j, none⟩ = some (.bool (lb.getD j false)) := by
            have := (HS.out.ext hk.ext).hbag.row i _ lb Hvb.out Hlb.out
            unfold TrRow at this
            rw [Hll.out] at this
            exact own_get this j (trCells_at (by rw [Hll.out]; exact hjn))
          unfold does
          go_simp
          refine ⟨?_, ?_, ?_⟩
          · have := (HS.out.ext hk.ext).setBit (i := i) (j := j) Hvb.out Hlb.out (by rw [Hll.out]; exact hjn)
            have e : ({ t with has := t.has.set i (lb.set j true) } : SV) = t.mark ((i : Int), (j : Int)) := by
              unfold SV.mark
              simp only [Int.toNat_natCast]
              rw [show t.has.getD i [] = lb by rw [List.getD_eq_getElem?_getD, Hlb.out]; rfl]
            rw [e] at this
            exact this
          · exact (HBf.out.ext hk.ext).set_ne (fun e => hcb.ty_ne HBf.out (by decide) e) _
          · exact (HK2.out.ext_r hk.ext).set (HS.out.hbf _ (List.mem_of_getElem? Hvb.out) gb rfl) _
        simp only [Act.put]
        obtain ⟨hS6, hBf6, hK6⟩ := hR
        have HS6 := hid hS6
        have HK6 := hid hK6
        have e0 := hBf6.av 0 rfl
        have e1 := hBf6.av 1 rfl
        simp only [List.getElem_toArray, List.getElem_cons_zero, List.getElem_cons_succ] at e0 e1
        have HCa := hid (solvecame_any P S (t.mark ((i : Int), (j : Int))) ((i : Int), (j : Int)) w6 G F g ad ⟨_, _, _, _, _, _, _, _, _, _, HS6.out⟩ HMk.out HMb.out Hg.out Hc.out HO.out.full.of Hfw.out.1 Hf2.out Hfw.out.2)
        simp only at HCa
        clear hS6 hBf6 hK6 b4 b8 d0 d1 h4 hq0 hq1
        go_wp2_with fail
        refine HCa.out.mono ?_
        intro x w7 hx
        obtain ⟨rfl, hS7, hK7⟩ := hx
        have HK7 := hid (HK6.out.trans hK7)
        have HCl := hid (solveclean_any P S _ w7 G F g ad hS7 HCm.out.1.core Hg.out)
        clear hS7 hK7 HCa e0 e1
        go_wp2_with fail
        refine HCl.out.mono ?_
        intro x w8 hx
        obtain ⟨rfl, hS8, hK8⟩ := hx
        have HS8 := hid hS8
        have HK8 := hid (HK7.out.trans hK8)
        clear hS8 hK8 HCl
        go_wp2
        go_roundw
        case rel =>
          refine ⟨k + 1, t.one P, by go_num, by omega, HRn.out, ⟨HOn.out.1, HBn.out⟩, HOn.out.2.1, ?_, ?_, HK8.out⟩
          · rw [HOn.out.2.2.2, Htt.out, Nat.add_assoc]
          · rw [Hone.out]; exact HS8.out
        case measure => simp [intOf]; omega
    · have HS := hid h
      have HRe : Hid (R = (t, k)) := hid (by rw [HR.out, show n.toNat - k = 0 by omega]; show (t, 0 + k) = _; rw [Nat.zero_add])
      clear h
      go_wp2
      go_ret
      rw [HRe.out]
      exact ⟨rfl, ⟨_, _, _, _, _, _, _, _, _, _, HS.out⟩, HK.out⟩
set_option maxRecDepth 100000 in
theorem solverun_any (P : PP) (S : List (List Int)) (s : SV) (w : World) (G F : Nat → Prop) (g : Nat) (ad : Nat → Addr) {vr : Value} {rs : List R2} {vh : Value} {hs : List Value} (hS : SolvAt w G F g ad P vr rs vh hs s) (hO : SolvOk P S s) (hg : P.GoodS S) (hc : ClosedP P S) :
    Calls Tryz.prog 21 #[.pointer (some ⟨g, 0, none⟩)] w fun x w' => x = .returned (.int .i64 ((s.step P 9223372036854775807).2 : Int)) ∧ SolvAt w' G F g ad P vr rs vh hs (s.step P 9223372036854775807).1 ∧ Keep (fun b => ¬ F b) w w' := by
  have HC := hid (solvestep_any P S s 9223372036854775807 w G F g ad hS hO hg hc)
  clear hS hO hg hc
  go_enter Tryz.func21, Tryz.ntmps21
  go_wp2_with fail
  refine HC.out.mono ?_
  intro x w1 hx
  obtain ⟨rfl, hS1, hK1⟩ := hx
  have HS1 := hid hS1
  have HK1 := hid hK1
  clear HC hS1 hK1
  go_wp2
  go_ret
  exact ⟨rfl, HS1.out, HK1.out⟩
/-- What a node has: a new row. -/
def SV.hasL (P : PP) (s : SV) (n : Int) : List Int := if n < 0 ∨ (P.nodesV : Int) ≤ n then [] else s.objs n
set_option maxRecDepth 100000 in
set_option maxHeartbeats 3200000 in
theorem solvehas_any (P : PP) (S : List (List Int)) (s : SV) (n : Int) (w : World) (G F : Nat → Prop) (g : Nat) (ad : Nat → Addr) {vr : Value} {rs : List R2} {vh : Value} {hs : List Value} (hS : SolvAt w G F g ad P vr rs vh hs s) (hC : Core P S s) :
    Calls Tryz.prog 18 #[.pointer (some ⟨g, 0, none⟩), .int .i64 n] w fun x w' => ∃ v, x = .returned v ∧ IRow w.heap.size w' v (s.hasL P n) ∧ SolvAt w' G F g ad P vr rs vh hs s ∧ Ext w w' := by
  obtain ⟨a1, a2, a3, c1, c2, c3, m1, m2, f1, vw, h⟩ := hS
  obtain ⟨hn1, hn2⟩ := h.pw.well.nodes
  have HS := hid h
  have hlen := hC.len
  obtain ⟨ah, ch, rfl⟩ := row_form h.hrow
  have b4 := h.blk.av 4 rfl
  simp only [solvCells, List.getElem_toArray, List.getElem_cons_zero, List.getElem_cons_succ] at b4
  by_cases hout : n < 0 ∨ (P.nodesV : Int) ≤ n
  · have Hr : Hid (s.hasL P n = []) := hid (by unfold SV.hasL; rw [if_pos hout])
    rw [Hr.out]
    rw [← hlen] at hout
    have hsl : s.has.length ≤ 120 := by omega
    clear h hC hlen Hr
    generalize P.nodesV = NN at *
    generalize P.objectsV = OO at *
    by_cases hneg : n < 0
    · go_enter Tryz.func18, Tryz.ntmps18
      go_wp2
      go_ret
      exact ⟨_, rfl, IRow.nil _ _, ⟨_, _, _, _, _, _, _, _, _, _, HS.out⟩, Ext.refl _⟩
    · have hge : (s.has.length : Int) ≤ n := by omega
      clear hout
      go_enter Tryz.func18, Tryz.ntmps18
      go_wp2
      go_ret
      exact ⟨_, rfl, IRow.nil _ _, ⟨_, _, _, _, _, _, _, _, _, _, HS.out⟩, Ext.refl _⟩
  · obtain ⟨i, rfl⟩ := Int.eq_ofNat_of_zero_le (show 0 ≤ n by omega)
    have hin : i < P.nodesV := by omega
    have Hr : Hid (s.hasL P (i : Int) = s.objs (i : Int)) := hid (by unfold SV.hasL; rw [if_neg hout])
    have hil : i < s.has.length := by rw [hlen]; exact hin
    obtain ⟨vb, lb, hvb, hlb, hrb⟩ := h.hbag.at (i := i) hil
    have hll : lb.length = P.objectsV := hC.row lb (List.mem_of_getElem? hlb)
    have hon : P.nodesV ≤ P.objectsV := by unfold PP.objectsV; omega
    unfold TrRow at hrb
    rw [hll] at hrb
    obtain ⟨gb, cb, rfl⟩ := own_some hrb (by omega)
    obtain ⟨gh, ch', hvh⟩ := own_some h.hrow (by omega)
    simp only [Value.slice.injEq] at hvh
    obtain ⟨rfl, -, rfl⟩ := hvh
    have h4 := own_get h.hrow i hvb
    have Hrb := hid hrb
    have Hob := hid (objs_up s hlb)
    have Hll := hid hll
    have Hlb := hid hlb
    have hsl : s.has.length ≤ 120 := by omega
    rw [Hr.out]
    clear h hC hout hvb hlb hrb hll Hr hlen
    generalize P.nodesV = NN at *
    generalize P.objectsV = OO at *
    go_enter Tryz.func18, Tryz.ntmps18
    go_wp2
    go_loopw [5, 27] (fun t5 t27 wr => ∃ (k : Nat) (L : List Int), t27 = .int .i64 (k : Int) ∧ k ≤ OO ∧ L = objsUp lb k ∧ IRow w.heap.size wr t5 L ∧ Ext w wr) (fun _ t27 _ => OO - (intOf t27).toNat)
    case atStart => exact ⟨0, [], rfl, Nat.zero_le _, rfl, IRow.nil _ _, Ext.refl _⟩
    case round =>
      clear b4 h4
      obtain ⟨k, L, rfl, hk, hL, hr, hx⟩ := hrel
      obtain ⟨a5, c5, rfl⟩ := hr.form
      have HLe := hid hL
      have HR := hid hr
      have HX := hid hx
      have hLl : L.length ≤ 126 := by rw [hL]; have := objsUp_len lb k; omega
      clear hL hr hx
      by_cases hlt : k < OO
      · have r0 : wr.cell? ⟨gb, k, none⟩ = some (.bool (lb.getD k false)) := own_get (own_ext Hrb.out HX.out) k (trCells_at (by rw [Hll.out]; exact hlt))
        have Hsu := hid (objsUp_succ lb k)
        generalize lb.getD k false = bt at r0 Hsu
        cases bt with
        | false =>
          go_wp2
          go_roundw
          case rel =>
            refine ⟨k + 1, L, by go_num, by omega, ?_, HR.out, HX.out⟩
            rw [Hsu.out, HLe.out]; simp
          case measure => simp [intOf]; omega
        | true =>
          have hxa : Hid (Ext w (wr.alloc (.cells #[.int .i64 (k : Int)] 3))) := hid (HX.out.alloc _)
          have Hra : Hid (IRow w.heap.size (wr.alloc (.cells #[.int .i64 (k : Int)] 3)) (.slice a5 L.length c5) L) := hid (HR.out.ext ((Ext.refl _).alloc _))
          go_wp2_with (at_builtin; refine wpList_append_el w.heap.size hxa.out.size 27 3 (.int .i64 0) 1 8 Tryz.underlying27 ints_info rfl (by omega) (by omega) rfl _ _ rfl (.slice a5 L.length c5) L.length (icells L) rfl Hra.out wr.heap.size [.int .i64 (k : Int)] rfl (by simp [Value.oneCell']) rfl (Blk.new _ _ _) (by omega) ?_; intro v' w' h1 h2 h4; obtain ⟨a', c', rfl⟩ := row_form h1; have h3 := hid (Keep.new hxa.out h2 (fun k hk => (Hra.out.lt hk).1)); have h1 := hid h1; clear h2 h4)
          go_roundw
          case rel =>
            refine ⟨_, _, _, _, ⟨k + 1, ?_, by omega, ?_, h3.out⟩, rfl, rfl, rfl, rfl⟩
            · go_num
            · have := h1.out
              unfold IRow
              rw [Hsu.out, ← HLe.out, if_pos trivial, icells_append, List.length_append]
              exact this
          case measure => simp [intOf]; omega
      · obtain rfl : k = OO := by omega
        have Hfin : Hid (L = s.objs (i : Int)) := hid (by rw [HLe.out, Hob.out, Hll.out])
        go_wp2
        go_ret
        rw [← Hfin.out]
        exact ⟨_, rfl, HR.out, ⟨_, _, _, _, _, _, _, _, _, _, HS.out.ext HX.out⟩, HX.out⟩
end Go.Proofs.YtdppgcbekhabnaaGreatDoor



/- The solver: a rule that is new. -/
namespace Go.Proofs.YtdppgcbekhabnaaGreatDoor
set_option linter.unusedSimpArgs false
set_option linter.unusedVariables false
open Go Go.RowKit

theorem pivot_lt {P : PP} (hw : P.Well) {k : Nat} (hk : k < P.stmts.length) (hf : (P.ruleV k (P.stAt k)).fired = true) : (P.ruleV k (P.stAt k)).pivot < P.vars.length := by
  have hgd := PP.good (hw.2 k (P.stAt k) hk (stAt_some hk))
  have ha := rule_a_in hw hk
  unfold RV.pivot
  cases h : ((P.ruleV k (P.stAt k)).kind.toList == kStore) with
  | false => exact ha.2
  | true =>
    rw [cond_true]
    have hb := eq_of_beq bBase_list
    have hk1 := eq_of_beq h
    unfold PP.ruleV at hk1 ⊢
    cases h1 : (P.stAt k).isK kAddr with
    | true => rw [h1, cond_true] at hk1; rw [show (bBase.toList = kStore) = False from by rw [hb]; exact eq_false (by decide)] at hk1; exact hk1.elim
    | false =>
    cases h2 : (P.stAt k).isK kNew with
    | true => rw [h1, h2, cond_false, cond_true] at hk1; rw [show (bBase.toList = kStore) = False from by rw [hb]; exact eq_false (by decide)] at hk1; exact hk1.elim
    | false =>
    cases h3 : (P.stAt k).isK kFun with
    | true => rw [h1, h2, h3, cond_false, cond_false, cond_true] at hk1; rw [show (bBase.toList = kStore) = False from by rw [hb]; exact eq_false (by decide)] at hk1; exact hk1.elim
    | false =>
    cases h4 : (P.stAt k).isK kCall with
    | true => exact hgd.gx.2
    | false => exact hgd.gx.2
theorem Core.push {P : PP} {S : List (List Int)} {s : SV} (h : Core P S s) {r : RV} (n1 : r.kind.toList ≠ bBase.toList) (n2 : r.kind.toList ≠ kCopy) : Core P S { s with rules := s.rules ++ [r] } :=
  ⟨h.len, h.row, h.wait, h.bit, h.edge, h.along, fun q hq hk => by
      rcases List.mem_append.1 hq with hq | hq
      · exact h.base q hq hk
      · obtain rfl := List.mem_singleton.1 hq
        exact absurd hk n1, fun q hq hk => by
      rcases List.mem_append.1 hq with hq | hq
      · exact h.copy q hq hk
      · obtain rfl := List.mem_singleton.1 hq
        exact absurd hk n2⟩
theorem bnd_push {P : PP} {s : SV} (b : s.Bnd P) (r : RV) (h : s.rules.length < 80) : SV.Bnd P { s with rules := s.rules ++ [r] } := by
  have h1 := b.le
  refine ⟨b.nd, by simp only [List.length_append, List.length_singleton]; omega, ?_⟩
  have e : SV.tot P { s with rules := s.rules ++ [r] } = s.tot P := tot_has rfl
  rw [e]
  simp only [List.length_append, List.length_singleton]
  omega
theorem bnd_fires {P : PP} {S : List (List Int)} (hg : P.GoodS S) (hc : ClosedP P S) {r : RV} (hr : r ∈ P.rulesV) (hf : r.fired = true) : ∀ (l : List Int) {s : SV}, Core P S s → s.Bnd P → (∀ o ∈ l, o ∈ S.getD r.pivot.toNat []) → (l.foldl (fun s o => s.fire P r o) s).Bnd P
  | [], _, _, b, _ => b
  | o :: l, _, h, b, hs => bnd_fires hg hc hr hf l (h.fire hg hc hr hf (hs o List.mem_cons_self)).1 (bnd_fire hg hc h b hr hf (hs o List.mem_cons_self)) fun q hq => hs q (List.mem_cons_of_mem _ hq)
theorem bnd_add {P : PP} {S : List (List Int)} {s : SV} (hg : P.GoodS S) (hc : ClosedP P S) (h : Full P S s) (b : s.Bnd P) {r : RV} (hr : r ∈ P.rulesV) (h80 : s.rules.length < 80) : (s.add P r).Bnd P := by
  unfold SV.add
  cases h1 : (r.kind.toList == bBase.toList) with
  | true =>
    rw [cond_true]
    have h2 := b.le
    refine ⟨b.nd, by simp only [List.length_append, List.length_singleton]; omega, ?_⟩
    have e : SV.tot P { s with rules := s.rules ++ [r], wait := s.wait ++ [(r.a, r.b)] } = s.tot P := tot_has rfl
    rw [e]
    simp only [List.length_append, List.length_singleton]
    omega
  | false =>
  have n1 : r.kind.toList ≠ bBase.toList := fun e => by rw [e] at h1; simp at h1
  rw [cond_false]
  have hb := bnd_push b r h80
  cases h2 : (r.kind.toList == kCopy) with
  | true =>
    rw [cond_true]
    have hm : SV.edge { s with rules := s.rules ++ [r] } (r.a, r.b) = { s.edge (r.a, r.b) with rules := s.rules ++ [r] } := by unfold SV.edge; split <;> rfl
    have := (b.edgeTo h.core (r.a, r.b))
    rw [hm]
    have h5 := bnd_push (s := s.edge (r.a, r.b)) this r (by rw [edge_rules]; exact h80)
    rw [edge_rules] at h5
    exact h5
  | false =>
  have n2 : r.kind.toList ≠ kCopy := fun e => by rw [e] at h2; simp at h2
  have hf : r.fired = true := by
    rcases rule_kinds hg.1 hr with g | g | g
    · exact absurd g n1
    · exact absurd g n2
    · exact g
  rw [cond_false]
  refine bnd_fires hg hc hr hf _ (h.core.push n1 n2) hb fun o ho => ?_
  obtain ⟨h0, hb⟩ := mem_objs.1 ho
  exact h.core.bit (r.pivot, o) hb h0
theorem SolvOk.add {P : PP} {S : List (List Int)} {s : SV} (hg : P.GoodS S) (hc : ClosedP P S) (h : SolvOk P S s) {r : RV} (hr : r ∈ P.rulesV) (h80 : s.rules.length < 80) : SolvOk P S (s.add P r) := ⟨(h.full.added hg hc hr).1, bnd_add hg hc h.full h.bnd hr h80⟩
set_option maxRecDepth 100000 in
set_option maxHeartbeats 6400000 in
theorem solverule_base (P : PP) (S : List (List Int)) (s : SV) (r : RV) (aa : Option Addr) (ca : Nat) (w : World) (G F : Nat → Prop) (g : Nat) (ad : Nat → Addr) {vr : Value} {rs : List R2} {vh : Value} {hs : List Value} (hS : SolvAt w G F g ad P vr rs vh hs s) (hO : SolvOk P S s) (hg : P.GoodS S) (hc : ClosedP P S) (hr : r ∈ P.rulesV) (h80 : s.rules.length < 80) (ha : IntsF w G (.slice aa r.args.length ca) r.args) (hkb : (r.kind.toList == [98, 97, 115, 101]) = true) :
    Calls Tryz.prog 39 #[.pointer (some ⟨g, 0, none⟩), r.val (.slice aa r.args.length ca)] w fun x w' => x = .returned (.tuple #[]) ∧ (∃ vr', SolvAt w' G F g ad P vr' (rs ++ [⟨r, .slice aa r.args.length ca⟩]) vh hs (s.add P r)) ∧ Keep (fun b => ¬ F b) w w' := by
  obtain ⟨a1, a2, a3, c1, c2, c3, m1, m2, f1, vw, h⟩ := hS
  have hw := h.pw.well
  obtain ⟨hn1, hn2⟩ := hw.nodes
  obtain ⟨ar, cr, rfl⟩ := row_form h.rrow
  obtain ⟨W, hW⟩ : ∃ W, W = w.alloc (.cells #[.string r.kind, .int .i64 r.a, .int .i64 r.b, .int .i64 r.k, .slice aa r.args.length ca] 86) := ⟨_, rfl⟩
  have HX : Hid (Ext w W) := hid (by rw [hW]; exact (Ext.refl _).alloc _)
  have HBx : Hid (Blk W w.heap.size #[.string r.kind, .int .i64 r.a, .int .i64 r.b, .int .i64 r.k, .slice aa r.args.length ca] 86) := hid (by rw [hW]; exact Blk.new _ _ _)
  have HWe : Hid (W = w.alloc (.cells #[.string r.kind, .int .i64 r.a, .int .i64 r.b, .int .i64 r.k, .slice aa r.args.length ca] 86)) := hid hW
  have hFz := h.frz HX.out
  obtain ⟨F', hF'⟩ : ∃ F' : Nat → Prop, F' = fun b => F b ∨ (w.heap.size ≤ b ∧ b < W.heap.size) := ⟨_, rfl⟩
  rw [← hF'] at hFz
  have HF1 : Hid (∀ b, F b → F' b) := hid fun b hb => by rw [hF']; exact .inl hb
  have HFb : Hid (F' w.heap.size) := hid (by rw [hF']; exact .inr ⟨Nat.le_refl _, HBx.out.lt⟩)
  have HGF := hid h.gf
  have HS := hid hFz
  have HA := hid (ha.keep (HX.out.keep fun _ => False) (fun _ _ h => h) fun _ h => h)
  have hal : (r.args.length : Int) ≤ 9223372036854775807 := by obtain ⟨_, cap, h1, h2, h3, _⟩ := ha.form; omega
  have HO := hid hO
  have Hg := hid hg
  have Hc := hid hc
  have Hr := hid hr
  have hXq : ∀ (b : Nat) (e : TypeId), (Value.slice ar s.rules.length cr).ownBlock = some b → 86 ≠ e → ∀ c, ¬ Blk W b c e := fun _ _ hb he c hc => by
    obtain ⟨c', hc'⟩ := own_ty HS.out.rrow hb
    exact off_of hc' he ⟨_, hc⟩
  have hXw : ¬ (Value.slice ar s.rules.length cr).ownBlock = some w.heap.size := fun hb => HS.out.rf _ hb HFb.out
  have b3 := HS.out.blk.kc (X := fun q => (Value.slice ar s.rules.length cr).ownBlock = some q) (fun hb => hXq _ _ hb (by decide) _ HS.out.blk) 3 rfl
  have d0 := HBx.out.kc (X := fun q => (Value.slice ar s.rules.length cr).ownBlock = some q) hXw 0 rfl
  have d1 := HBx.out.kc (X := fun q => (Value.slice ar s.rules.length cr).ownBlock = some q) hXw 1 rfl
  have d2 := HBx.out.kc (X := fun q => (Value.slice ar s.rules.length cr).ownBlock = some q) hXw 2 rfl
  have d3 := HBx.out.kc (X := fun q => (Value.slice ar s.rules.length cr).ownBlock = some q) hXw 3 rfl
  have d4 := HBx.out.kc (X := fun q => (Value.slice ar s.rules.length cr).ownBlock = some q) hXw 4 rfl
  simp only [solvCells, List.getElem_toArray, List.getElem_cons_zero, List.getElem_cons_succ] at b3 d0 d1 d2 d3 d4
  have HXq := hid hXq
  have HXw := hid hXw
  have Hlen := hid hO.full.core.len
  obtain ⟨s1, hs1⟩ : ∃ s1, s1 = { s with rules := s.rules ++ [r] } := ⟨_, rfl⟩
  have Hs1 := hid hs1
  have HB1 : Hid (s1.Bnd P) := hid (by rw [hs1]; exact bnd_push hO.bnd r h80)
  have hwl : s.wait.length ≤ 500000000 := hO.bnd.wait_few hw hO.full.core
  have hO0 := hid hO
  have HA0 := hid ha
  have hOO := hid hn2
  unfold RV.val
  clear h hFz hF' hO hg hc hr ha hW hXq hXw hw hs1
  go_enter Tryz.func39, Tryz.ntmps39
  go_wp2
  rw [← HWe.out]
  refine wp_flowT (fun q => (Value.slice ar s.rules.length cr).ownBlock = some q) (by kernel_rfl) (by kernel_rfl) ?_
  repeat (apply FlowT.d; (intro w1 hk; unfold does; go_simp; (try go_ints); (first | exact DetR.mk | (simp only [↓IntWalk.iteOmega, Oper.doesUpon_value]; exact DetR.mk) | (simp only [↓IntWalk.iteOmega]; go_simp; (try go_ints); exact DetR.mk))); simp only [Act.put, List.setIfInBounds_toArray, List.set_cons_zero, List.set_cons_succ])
  refine FlowT.s (fun v' w' => ∃ q, v' = .slice (some ⟨q, 0, none⟩) 1 1 ∧ Blk w' q #[.string r.kind, .int .i64 r.a, .int .i64 r.b, .int .i64 r.k, .slice aa r.args.length ca] 86 ∧ Ext W w') 6 rfl (by kernel_rfl) (fun _ _ _ ⟨q, h1, h2, h3⟩ he => ⟨q, h1, h2.ext he, h3.trans he⟩) (fun w4 hC hk => ?_) ?_
  · unfold does
    go_simp
    exact ⟨hk.alloc _, _, rfl, Blk.new _ _ _, hC.alloc _⟩
  rintro _ ⟨_, q3, rfl, _, _⟩
  simp only [Act.put, List.setIfInBounds_toArray, List.set_cons_zero, List.set_cons_succ]
  refine FlowT.s (fun v' w' => (∃ a c, v' = .slice a (s.rules.length + 1) c) ∧ w'.ownsRow 0 86 5 v' (s.rules.length + 1) (rs.flatMap R2.cells ++ R2.cells ⟨r, .slice aa r.args.length ca⟩) ∧ ∀ b, v'.ownBlock = some b → (Value.slice ar s.rules.length cr).ownBlock = some b ∨ W.heap.size ≤ b) 7 rfl (by kernel_rfl) (fun _ _ _ ⟨h1, h2, h3⟩ he => ⟨h1, own_ext h2 he, h3⟩) (fun w4 hC hk => ?_) ?_
  · obtain ⟨q', e, hg, hE⟩ := hC
    obtain rfl : q3 = q' := by simpa using e
    exact does_append_el 0 (Nat.zero_le _) 75 86 (.agg #[.string ⟨#[]⟩, .int .i64 0, .int .i64 0, .int .i64 0, .slice none 0 0]) 5 64 Tryz.underlying75 rule_info rfl (by omega) (by omega) rfl _ _ rfl _ _ _ rfl (own_ext HS.out.rrow hE) q3 (R2.cells ⟨r, .slice aa r.args.length ca⟩) rfl (by simp [R2.cells, Value.oneCell']) rfl hg (by omega) fun v' w' h1 h2 h3 => ⟨hk.trans h2, row_form h1, h1, fun b hb => by
      rcases h3 with k | k
      · exact .inl (k ▸ hb)
      · rw [k] at hb
        obtain rfl := Option.some.inj hb
        exact .inr hE.size⟩
  rintro _ ⟨_, ⟨a9, c9, rfl⟩, _, _⟩
  simp only [Act.put, List.setIfInBounds_toArray, List.set_cons_zero, List.set_cons_succ]
  repeat (apply FlowT.d; (intro w1 hk; unfold does; go_simp; (try go_ints); (first | exact DetR.mk | (simp only [↓IntWalk.iteOmega, Oper.doesUpon_value]; exact DetR.mk) | (simp only [↓IntWalk.iteOmega]; go_simp; (try go_ints); exact DetR.mk))); simp only [Act.put, List.setIfInBounds_toArray, List.set_cons_zero, List.set_cons_succ])
  refine FlowT.last (fun _ w' => SolvB w' G F' g ad a1 a2 a3 c1 c2 c3 P (.slice a9 (s.rules.length + 1) c9) (rs ++ [⟨r, .slice aa r.args.length ca⟩]) vh hs m1 m2 f1 vw s1 ∧ Blk w' w.heap.size #[.string r.kind, .int .i64 r.a, .int .i64 r.b, .int .i64 r.k, .slice aa r.args.length ca] 86 ∧ Keep (fun b => ¬ F b) w w') 10 rfl (by kernel_rfl) (by kernel_rfl) (fun w5 hC hk => ?_) (fun _ w6 hR => ?_)
  · obtain ⟨_, hq, hob⟩ := hC
    have q8 := b3 w5 hk
    have f8 := (HS.out.blk.keep hk fun hb => HXq.out _ _ hb (by decide) _ HS.out.blk).free 3
    unfold does
    go_simp
    refine ⟨?_, ?_, ?_⟩
    · rw [Hs1.out]
      exact HS.out.pushRule hk (x := ⟨r, .slice aa r.args.length ca⟩) hq hob HA.out
    · exact (HBx.out.keep hk HXw.out).set_ne (fun e => HS.out.blk.ty_ne HBx.out (by decide) e) _
    · exact ((HX.out.keep _).trans (hk.mono fun b _ e hF => HS.out.rf b e (HF1.out b hF))).set (fun hF => HS.out.fg (HF1.out _ hF)) _
  simp only [Act.put]
  obtain ⟨hS6, hBx6, hK6⟩ := hR
  have HS6 := hid hS6
  have HBx6 := hid hBx6
  have HK6 := hid hK6
  clear hS6 hBx6 hK6 b3 d0 d1 d2 d3 d4 HS HBx HXq HXw
  have e0 := HBx6.out.av 0 rfl
  have e1 := HBx6.out.av 1 rfl
  have e2 := HBx6.out.av 2 rfl
  simp only [List.getElem_toArray, List.getElem_cons_zero, List.getElem_cons_succ] at e0 e1 e2
  have Had : Hid (s.add P r = { s1 with wait := s.wait ++ [(r.a, r.b)] }) := hid (by unfold SV.add; rw [eq_of_beq bBase_list, show (r.kind.toList == ([98, 97, 115, 101] : List UInt8)) = true from hkb, Hs1.out]; rfl)
  obtain ⟨aw, cw, rfl⟩ := HS6.out.wrow.form
  have Hs1w : Hid (s1.wait = s.wait) := hid (by rw [Hs1.out])
  rw [Hs1w.out] at HS6
  have hXq : ∀ (b : Nat) (e : TypeId), (Value.slice aw s.wait.length cw).ownBlock = some b → 97 ≠ e → ∀ c, ¬ Blk w6 b c e := fun _ _ hb he c hc => by
    obtain ⟨_, c', hc'⟩ := HS6.out.wrow.ty hb
    exact off_of hc' he ⟨_, hc⟩
  have b8 := HS6.out.blk.kc (X := fun q => (Value.slice aw s.wait.length cw).ownBlock = some q) (fun hb => hXq _ _ hb (by decide) _ HS6.out.blk) 8 rfl
  have d1 := HBx6.out.kc (X := fun q => (Value.slice aw s.wait.length cw).ownBlock = some q) (fun hb => hXq _ _ hb (by decide) _ HBx6.out) 1 rfl
  have d2 := HBx6.out.kc (X := fun q => (Value.slice aw s.wait.length cw).ownBlock = some q) (fun hb => hXq _ _ hb (by decide) _ HBx6.out) 2 rfl
  simp only [solvCells, List.getElem_toArray, List.getElem_cons_zero, List.getElem_cons_succ] at b8 d1 d2
  have HXq := hid hXq
  clear hXq
  go_wp2
  refine wp_flowT (fun q => (Value.slice aw s.wait.length cw).ownBlock = some q) (by kernel_rfl) (by kernel_rfl) ?_
  repeat (apply FlowT.d; (intro w1 hk; unfold does; go_simp; (try go_ints); (first | exact DetR.mk | (simp only [↓IntWalk.iteOmega, Oper.doesUpon_value]; exact DetR.mk) | (simp only [↓IntWalk.iteOmega]; go_simp; (try go_ints); exact DetR.mk))); simp only [Act.put, List.setIfInBounds_toArray, List.set_cons_zero, List.set_cons_succ])
  refine FlowT.s (fun v' w' => ∃ q, v' = .slice (some ⟨q, 0, none⟩) 1 1 ∧ Blk w' q #[.int .i64 r.a, .int .i64 r.b] 97 ∧ Ext w6 w') 10 rfl (by kernel_rfl) (fun _ _ _ ⟨q, h1, h2, h3⟩ he => ⟨q, h1, h2.ext he, h3.trans he⟩) (fun w7 hC hk => ?_) ?_
  · unfold does
    go_simp
    exact ⟨hk.alloc _, _, rfl, Blk.new _ _ _, hC.alloc _⟩
  rintro _ ⟨_, q3, rfl, _, _⟩
  simp only [Act.put, List.setIfInBounds_toArray, List.set_cons_zero, List.set_cons_succ]
  refine FlowT.s (fun v' w' => (∃ a c, v' = .slice a (s.wait.length + 1) c) ∧ OwnsQ w' 0 97 2 v' (s.wait.length + 1) (s.wait.flatMap fCells ++ fCells (r.a, r.b)) ∧ ∀ b, v'.ownBlock = some b → (Value.slice aw s.wait.length cw).ownBlock = some b ∨ w6.heap.size ≤ b) 11 rfl (by kernel_rfl) (fun _ _ _ ⟨h1, h2, h3⟩ he => ⟨h1, h2.ext he, h3⟩) (fun w7 hC hk => ?_) ?_
  · obtain ⟨q', e, hg, hE⟩ := hC
    obtain rfl : q3 = q' := by simpa using e
    exact does_append_q 0 (Nat.zero_le _) 81 97 (.agg #[.int .i64 0, .int .i64 0]) 2 16 Tryz.underlying81 fact_info rfl (by omega) (by omega) rfl _ _ rfl _ _ _ rfl (by have := HS6.out.wrow.ext hE; rw [Hs1w.out] at this; exact this) q3 (fCells (r.a, r.b)) rfl (by simp [fCells, Value.oneCell']) rfl hg (by omega) fun v' w' h1 h2 h3 => ⟨hk.trans h2, h1.form, h1, fun b hb => (h3 b hb).imp id fun h => Nat.le_trans hE.size h⟩
  rintro _ ⟨_, ⟨a8, c8, rfl⟩, _, _⟩
  simp only [Act.put, List.setIfInBounds_toArray, List.set_cons_zero, List.set_cons_succ]
  repeat (apply FlowT.d; (intro w1 hk; unfold does; go_simp; (try go_ints); (first | exact DetR.mk | (simp only [↓IntWalk.iteOmega, Oper.doesUpon_value]; exact DetR.mk) | (simp only [↓IntWalk.iteOmega]; go_simp; (try go_ints); exact DetR.mk))); simp only [Act.put, List.setIfInBounds_toArray, List.set_cons_zero, List.set_cons_succ])
  refine FlowT.last (fun _ w' => SolvAt w' G F' g ad P (.slice a9 (s.rules.length + 1) c9) (rs ++ [⟨r, .slice aa r.args.length ca⟩]) vh hs { s1 with wait := s.wait ++ [(r.a, r.b)] } ∧ Keep (fun b => ¬ F b) w w') 14 rfl (by kernel_rfl) (by kernel_rfl) (fun w5 hC hk => ?_) (fun _ w7 hR => ?_)
  · obtain ⟨_, hq, hob⟩ := hC
    have q8 := b8 w5 hk
    have f8 := (HS6.out.blk.keep hk fun hb => HXq.out _ _ hb (by decide) _ HS6.out.blk).free 8
    unfold does
    go_simp
    refine ⟨⟨_, _, _, _, _, _, _, _, _, _, HS6.out.setWait hk (l := s.wait ++ [(r.a, r.b)]) ?_ hob⟩, ?_⟩
    · rw [List.length_append, List.flatMap_append]
      simpa using hq
    · exact HK6.out.trans ((hk.mono fun b _ e hF => HS6.out.wf b e (HF1.out b hF)).set (fun hF => HS6.out.fg (HF1.out _ hF)) _)
  simp only [Act.put]
  obtain ⟨hS7, hK7⟩ := hR
  have HS7 := hid hS7
  have HK7 := hid hK7
  clear hS7 hK7 b8 d1 d2 HXq e0 e1 e2
  go_wp2
  refine bodyPost_ret (v := .tuple #[]) (results_none (by kernel_rfl) _ _ _) rfl ?_
  exact ⟨rfl, ⟨_, by rw [Had.out]; exact HS7.out.less HGF.out HF1.out⟩, HK7.out⟩
set_option maxRecDepth 100000 in
set_option maxHeartbeats 6400000 in
theorem solverule_copy (P : PP) (S : List (List Int)) (s : SV) (r : RV) (aa : Option Addr) (ca : Nat) (w : World) (G F : Nat → Prop) (g : Nat) (ad : Nat → Addr) {vr : Value} {rs : List R2} {vh : Value} {hs : List Value} (hS : SolvAt w G F g ad P vr rs vh hs s) (hO : SolvOk P S s) (hg : P.GoodS S) (hc : ClosedP P S) (hr : r ∈ P.rulesV) (h80 : s.rules.length < 80) (ha : IntsF w G (.slice aa r.args.length ca) r.args) (hkb : (r.kind.toList == [98, 97, 115, 101]) = false) (hkc : (r.kind.toList == [99, 111, 112, 121]) = true) :
    Calls Tryz.prog 39 #[.pointer (some ⟨g, 0, none⟩), r.val (.slice aa r.args.length ca)] w fun x w' => x = .returned (.tuple #[]) ∧ (∃ vr', SolvAt w' G F g ad P vr' (rs ++ [⟨r, .slice aa r.args.length ca⟩]) vh hs (s.add P r)) ∧ Keep (fun b => ¬ F b) w w' := by
  obtain ⟨a1, a2, a3, c1, c2, c3, m1, m2, f1, vw, h⟩ := hS
  have hw := h.pw.well
  obtain ⟨hn1, hn2⟩ := hw.nodes
  obtain ⟨ar, cr, rfl⟩ := row_form h.rrow
  obtain ⟨W, hW⟩ : ∃ W, W = w.alloc (.cells #[.string r.kind, .int .i64 r.a, .int .i64 r.b, .int .i64 r.k, .slice aa r.args.length ca] 86) := ⟨_, rfl⟩
  have HX : Hid (Ext w W) := hid (by rw [hW]; exact (Ext.refl _).alloc _)
  have HBx : Hid (Blk W w.heap.size #[.string r.kind, .int .i64 r.a, .int .i64 r.b, .int .i64 r.k, .slice aa r.args.length ca] 86) := hid (by rw [hW]; exact Blk.new _ _ _)
  have HWe : Hid (W = w.alloc (.cells #[.string r.kind, .int .i64 r.a, .int .i64 r.b, .int .i64 r.k, .slice aa r.args.length ca] 86)) := hid hW
  have hFz := h.frz HX.out
  obtain ⟨F', hF'⟩ : ∃ F' : Nat → Prop, F' = fun b => F b ∨ (w.heap.size ≤ b ∧ b < W.heap.size) := ⟨_, rfl⟩
  rw [← hF'] at hFz
  have HF1 : Hid (∀ b, F b → F' b) := hid fun b hb => by rw [hF']; exact .inl hb
  have HFb : Hid (F' w.heap.size) := hid (by rw [hF']; exact .inr ⟨Nat.le_refl _, HBx.out.lt⟩)
  have HGF := hid h.gf
  have HS := hid hFz
  have HA := hid (ha.keep (HX.out.keep fun _ => False) (fun _ _ h => h) fun _ h => h)
  have hal : (r.args.length : Int) ≤ 9223372036854775807 := by obtain ⟨_, cap, h1, h2, h3, _⟩ := ha.form; omega
  have HO := hid hO
  have Hg := hid hg
  have Hc := hid hc
  have Hr := hid hr
  have hXq : ∀ (b : Nat) (e : TypeId), (Value.slice ar s.rules.length cr).ownBlock = some b → 86 ≠ e → ∀ c, ¬ Blk W b c e := fun _ _ hb he c hc => by
    obtain ⟨c', hc'⟩ := own_ty HS.out.rrow hb
    exact off_of hc' he ⟨_, hc⟩
  have hXw : ¬ (Value.slice ar s.rules.length cr).ownBlock = some w.heap.size := fun hb => HS.out.rf _ hb HFb.out
  have b3 := HS.out.blk.kc (X := fun q => (Value.slice ar s.rules.length cr).ownBlock = some q) (fun hb => hXq _ _ hb (by decide) _ HS.out.blk) 3 rfl
  have d0 := HBx.out.kc (X := fun q => (Value.slice ar s.rules.length cr).ownBlock = some q) hXw 0 rfl
  have d1 := HBx.out.kc (X := fun q => (Value.slice ar s.rules.length cr).ownBlock = some q) hXw 1 rfl
  have d2 := HBx.out.kc (X := fun q => (Value.slice ar s.rules.length cr).ownBlock = some q) hXw 2 rfl
  have d3 := HBx.out.kc (X := fun q => (Value.slice ar s.rules.length cr).ownBlock = some q) hXw 3 rfl
  have d4 := HBx.out.kc (X := fun q => (Value.slice ar s.rules.length cr).ownBlock = some q) hXw 4 rfl
  simp only [solvCells, List.getElem_toArray, List.getElem_cons_zero, List.getElem_cons_succ] at b3 d0 d1 d2 d3 d4
  have HXq := hid hXq
  have HXw := hid hXw
  have Hlen := hid hO.full.core.len
  obtain ⟨s1, hs1⟩ : ∃ s1, s1 = { s with rules := s.rules ++ [r] } := ⟨_, rfl⟩
  have Hs1 := hid hs1
  have HB1 : Hid (s1.Bnd P) := hid (by rw [hs1]; exact bnd_push hO.bnd r h80)
  have hwl : s.wait.length ≤ 500000000 := hO.bnd.wait_few hw hO.full.core
  have hO0 := hid hO
  have HA0 := hid ha
  have hOO := hid hn2
  unfold RV.val
  clear h hFz hF' hO hg hc hr ha hW hXq hXw hw hs1
  go_enter Tryz.func39, Tryz.ntmps39
  go_wp2
  rw [← HWe.out]
  refine wp_flowT (fun q => (Value.slice ar s.rules.length cr).ownBlock = some q) (by kernel_rfl) (by kernel_rfl) ?_
  repeat (apply FlowT.d; (intro w1 hk; unfold does; go_simp; (try go_ints); (first | exact DetR.mk | (simp only [↓IntWalk.iteOmega, Oper.doesUpon_value]; exact DetR.mk) | (simp only [↓IntWalk.iteOmega]; go_simp; (try go_ints); exact DetR.mk))); simp only [Act.put, List.setIfInBounds_toArray, List.set_cons_zero, List.set_cons_succ])
  refine FlowT.s (fun v' w' => ∃ q, v' = .slice (some ⟨q, 0, none⟩) 1 1 ∧ Blk w' q #[.string r.kind, .int .i64 r.a, .int .i64 r.b, .int .i64 r.k, .slice aa r.args.length ca] 86 ∧ Ext W w') 6 rfl (by kernel_rfl) (fun _ _ _ ⟨q, h1, h2, h3⟩ he => ⟨q, h1, h2.ext he, h3.trans he⟩) (fun w4 hC hk => ?_) ?_
  · unfold does
    go_simp
    exact ⟨hk.alloc _, _, rfl, Blk.new _ _ _, hC.alloc _⟩
  rintro _ ⟨_, q3, rfl, _, _⟩
  simp only [Act.put, List.setIfInBounds_toArray, List.set_cons_zero, List.set_cons_succ]
  refine FlowT.s (fun v' w' => (∃ a c, v' = .slice a (s.rules.length + 1) c) ∧ w'.ownsRow 0 86 5 v' (s.rules.length + 1) (rs.flatMap R2.cells ++ R2.cells ⟨r, .slice aa r.args.length ca⟩) ∧ ∀ b, v'.ownBlock = some b → (Value.slice ar s.rules.length cr).ownBlock = some b ∨ W.heap.size ≤ b) 7 rfl (by kernel_rfl) (fun _ _ _ ⟨h1, h2, h3⟩ he => ⟨h1, own_ext h2 he, h3⟩) (fun w4 hC hk => ?_) ?_
  · obtain ⟨q', e, hg, hE⟩ := hC
    obtain rfl : q3 = q' := by simpa using e
    exact does_append_el 0 (Nat.zero_le _) 75 86 (.agg #[.string ⟨#[]⟩, .int .i64 0, .int .i64 0, .int .i64 0, .slice none 0 0]) 5 64 Tryz.underlying75 rule_info rfl (by omega) (by omega) rfl _ _ rfl _ _ _ rfl (own_ext HS.out.rrow hE) q3 (R2.cells ⟨r, .slice aa r.args.length ca⟩) rfl (by simp [R2.cells, Value.oneCell']) rfl hg (by omega) fun v' w' h1 h2 h3 => ⟨hk.trans h2, row_form h1, h1, fun b hb => by
      rcases h3 with k | k
      · exact .inl (k ▸ hb)
      · rw [k] at hb
        obtain rfl := Option.some.inj hb
        exact .inr hE.size⟩
  rintro _ ⟨_, ⟨a9, c9, rfl⟩, _, _⟩
  simp only [Act.put, List.setIfInBounds_toArray, List.set_cons_zero, List.set_cons_succ]
  repeat (apply FlowT.d; (intro w1 hk; unfold does; go_simp; (try go_ints); (first | exact DetR.mk | (simp only [↓IntWalk.iteOmega, Oper.doesUpon_value]; exact DetR.mk) | (simp only [↓IntWalk.iteOmega]; go_simp; (try go_ints); exact DetR.mk))); simp only [Act.put, List.setIfInBounds_toArray, List.set_cons_zero, List.set_cons_succ])
  refine FlowT.last (fun _ w' => SolvB w' G F' g ad a1 a2 a3 c1 c2 c3 P (.slice a9 (s.rules.length + 1) c9) (rs ++ [⟨r, .slice aa r.args.length ca⟩]) vh hs m1 m2 f1 vw s1 ∧ Blk w' w.heap.size #[.string r.kind, .int .i64 r.a, .int .i64 r.b, .int .i64 r.k, .slice aa r.args.length ca] 86 ∧ Keep (fun b => ¬ F b) w w') 10 rfl (by kernel_rfl) (by kernel_rfl) (fun w5 hC hk => ?_) (fun _ w6 hR => ?_)
  · obtain ⟨_, hq, hob⟩ := hC
    have q8 := b3 w5 hk
    have f8 := (HS.out.blk.keep hk fun hb => HXq.out _ _ hb (by decide) _ HS.out.blk).free 3
    unfold does
    go_simp
    refine ⟨?_, ?_, ?_⟩
    · rw [Hs1.out]
      exact HS.out.pushRule hk (x := ⟨r, .slice aa r.args.length ca⟩) hq hob HA.out
    · exact (HBx.out.keep hk HXw.out).set_ne (fun e => HS.out.blk.ty_ne HBx.out (by decide) e) _
    · exact ((HX.out.keep _).trans (hk.mono fun b _ e hF => HS.out.rf b e (HF1.out b hF))).set (fun hF => HS.out.fg (HF1.out _ hF)) _
  simp only [Act.put]
  obtain ⟨hS6, hBx6, hK6⟩ := hR
  have HS6 := hid hS6
  have HBx6 := hid hBx6
  have HK6 := hid hK6
  clear hS6 hBx6 hK6 b3 d0 d1 d2 d3 d4 HS HBx HXq HXw
  have e0 := HBx6.out.av 0 rfl
  have e1 := HBx6.out.av 1 rfl
  have e2 := HBx6.out.av 2 rfl
  simp only [List.getElem_toArray, List.getElem_cons_zero, List.getElem_cons_succ] at e0 e1 e2
  have Had : Hid (s.add P r = s1.edge (r.a, r.b)) := hid (by unfold SV.add kCopy; rw [eq_of_beq bBase_list, show (r.kind.toList == ([98, 97, 115, 101] : List UInt8)) = false from hkb, show (r.kind.toList == ([99, 111, 112, 121] : List UInt8)) = true from hkc, Hs1.out]; rfl)
  obtain ⟨k1, k2, _⟩ := sndE_of Hg.out Hc.out Hr.out (e := (r.a, r.b)) (by unfold PP.redges kCopy; rw [show (r.kind.toList == ([99, 111, 112, 121] : List UInt8)) = true from hkc, cond_true]; exact List.mem_singleton.2 rfl)
  have HE := hid (solveedge_bare P S s1 (r.a, r.b) w6 G F' g ad ⟨_, _, _, _, _, _, _, _, _, _, HS6.out⟩ (by rw [Hs1.out]; exact HO.out.full.core.bare) HB1.out k1 k2)
  simp only at HE
  clear k1 k2
  go_wp2_with fail
  refine HE.out.mono ?_
  intro z w7 hx
  obtain ⟨rfl, hS7, hK7⟩ := hx
  have HS7 := hid hS7
  have HK7 := hid hK7
  clear hS7 hK7 HE e0 e1 e2
  go_wp2
  refine bodyPost_ret (v := .tuple #[]) (results_none (by kernel_rfl) _ _ _) rfl ?_
  exact ⟨rfl, ⟨_, by rw [Had.out]; exact HS7.out.less HGF.out HF1.out⟩, HK6.out.trans (HK7.out.mono fun b _ hx hF => hx (HF1.out b hF))⟩
set_option maxRecDepth 100000 in
set_option maxHeartbeats 6400000 in
theorem solverule_fired (P : PP) (S : List (List Int)) (s : SV) (r : RV) (aa : Option Addr) (ca : Nat) (w : World) (G F : Nat → Prop) (g : Nat) (ad : Nat → Addr) {vr : Value} {rs : List R2} {vh : Value} {hs : List Value} (hS : SolvAt w G F g ad P vr rs vh hs s) (hO : SolvOk P S s) (hg : P.GoodS S) (hc : ClosedP P S) (hr : r ∈ P.rulesV) (h80 : s.rules.length < 80) (ha : IntsF w G (.slice aa r.args.length ca) r.args) (hkb : (r.kind.toList == [98, 97, 115, 101]) = false) (hkc : (r.kind.toList == [99, 111, 112, 121]) = false) :
    Calls Tryz.prog 39 #[.pointer (some ⟨g, 0, none⟩), r.val (.slice aa r.args.length ca)] w fun x w' => x = .returned (.tuple #[]) ∧ (∃ vr', SolvAt w' G F g ad P vr' (rs ++ [⟨r, .slice aa r.args.length ca⟩]) vh hs (s.add P r)) ∧ Keep (fun b => ¬ F b) w w' := by
  obtain ⟨a1, a2, a3, c1, c2, c3, m1, m2, f1, vw, h⟩ := hS
  have hw := h.pw.well
  obtain ⟨hn1, hn2⟩ := hw.nodes
  obtain ⟨ar, cr, rfl⟩ := row_form h.rrow
  obtain ⟨W, hW⟩ : ∃ W, W = w.alloc (.cells #[.string r.kind, .int .i64 r.a, .int .i64 r.b, .int .i64 r.k, .slice aa r.args.length ca] 86) := ⟨_, rfl⟩
  have HX : Hid (Ext w W) := hid (by rw [hW]; exact (Ext.refl _).alloc _)
  have HBx : Hid (Blk W w.heap.size #[.string r.kind, .int .i64 r.a, .int .i64 r.b, .int .i64 r.k, .slice aa r.args.length ca] 86) := hid (by rw [hW]; exact Blk.new _ _ _)
  have HWe : Hid (W = w.alloc (.cells #[.string r.kind, .int .i64 r.a, .int .i64 r.b, .int .i64 r.k, .slice aa r.args.length ca] 86)) := hid hW
  have hFz := h.frz HX.out
  obtain ⟨F', hF'⟩ : ∃ F' : Nat → Prop, F' = fun b => F b ∨ (w.heap.size ≤ b ∧ b < W.heap.size) := ⟨_, rfl⟩
  rw [← hF'] at hFz
  have HF1 : Hid (∀ b, F b → F' b) := hid fun b hb => by rw [hF']; exact .inl hb
  have HFb : Hid (F' w.heap.size) := hid (by rw [hF']; exact .inr ⟨Nat.le_refl _, HBx.out.lt⟩)
  have HGF := hid h.gf
  have HS := hid hFz
  have HA := hid (ha.keep (HX.out.keep fun _ => False) (fun _ _ h => h) fun _ h => h)
  have hal : (r.args.length : Int) ≤ 9223372036854775807 := by obtain ⟨_, cap, h1, h2, h3, _⟩ := ha.form; omega
  have HO := hid hO
  have Hg := hid hg
  have Hc := hid hc
  have Hr := hid hr
  have hXq : ∀ (b : Nat) (e : TypeId), (Value.slice ar s.rules.length cr).ownBlock = some b → 86 ≠ e → ∀ c, ¬ Blk W b c e := fun _ _ hb he c hc => by
    obtain ⟨c', hc'⟩ := own_ty HS.out.rrow hb
    exact off_of hc' he ⟨_, hc⟩
  have hXw : ¬ (Value.slice ar s.rules.length cr).ownBlock = some w.heap.size := fun hb => HS.out.rf _ hb HFb.out
  have b3 := HS.out.blk.kc (X := fun q => (Value.slice ar s.rules.length cr).ownBlock = some q) (fun hb => hXq _ _ hb (by decide) _ HS.out.blk) 3 rfl
  have d0 := HBx.out.kc (X := fun q => (Value.slice ar s.rules.length cr).ownBlock = some q) hXw 0 rfl
  have d1 := HBx.out.kc (X := fun q => (Value.slice ar s.rules.length cr).ownBlock = some q) hXw 1 rfl
  have d2 := HBx.out.kc (X := fun q => (Value.slice ar s.rules.length cr).ownBlock = some q) hXw 2 rfl
  have d3 := HBx.out.kc (X := fun q => (Value.slice ar s.rules.length cr).ownBlock = some q) hXw 3 rfl
  have d4 := HBx.out.kc (X := fun q => (Value.slice ar s.rules.length cr).ownBlock = some q) hXw 4 rfl
  simp only [solvCells, List.getElem_toArray, List.getElem_cons_zero, List.getElem_cons_succ] at b3 d0 d1 d2 d3 d4
  have HXq := hid hXq
  have HXw := hid hXw
  have Hlen := hid hO.full.core.len
  obtain ⟨s1, hs1⟩ : ∃ s1, s1 = { s with rules := s.rules ++ [r] } := ⟨_, rfl⟩
  have Hs1 := hid hs1
  have HB1 : Hid (s1.Bnd P) := hid (by rw [hs1]; exact bnd_push hO.bnd r h80)
  have hwl : s.wait.length ≤ 500000000 := hO.bnd.wait_few hw hO.full.core
  have hO0 := hid hO
  have HA0 := hid ha
  have hOO := hid hn2
  unfold RV.val
  clear h hFz hF' hO hg hc hr ha hW hXq hXw hw hs1
  go_enter Tryz.func39, Tryz.ntmps39
  go_wp2
  rw [← HWe.out]
  refine wp_flowT (fun q => (Value.slice ar s.rules.length cr).ownBlock = some q) (by kernel_rfl) (by kernel_rfl) ?_
  repeat (apply FlowT.d; (intro w1 hk; unfold does; go_simp; (try go_ints); (first | exact DetR.mk | (simp only [↓IntWalk.iteOmega, Oper.doesUpon_value]; exact DetR.mk) | (simp only [↓IntWalk.iteOmega]; go_simp; (try go_ints); exact DetR.mk))); simp only [Act.put, List.setIfInBounds_toArray, List.set_cons_zero, List.set_cons_succ])
  refine FlowT.s (fun v' w' => ∃ q, v' = .slice (some ⟨q, 0, none⟩) 1 1 ∧ Blk w' q #[.string r.kind, .int .i64 r.a, .int .i64 r.b, .int .i64 r.k, .slice aa r.args.length ca] 86 ∧ Ext W w') 6 rfl (by kernel_rfl) (fun _ _ _ ⟨q, h1, h2, h3⟩ he => ⟨q, h1, h2.ext he, h3.trans he⟩) (fun w4 hC hk => ?_) ?_
  · unfold does
    go_simp
    exact ⟨hk.alloc _, _, rfl, Blk.new _ _ _, hC.alloc _⟩
  rintro _ ⟨_, q3, rfl, _, _⟩
  simp only [Act.put, List.setIfInBounds_toArray, List.set_cons_zero, List.set_cons_succ]
  refine FlowT.s (fun v' w' => (∃ a c, v' = .slice a (s.rules.length + 1) c) ∧ w'.ownsRow 0 86 5 v' (s.rules.length + 1) (rs.flatMap R2.cells ++ R2.cells ⟨r, .slice aa r.args.length ca⟩) ∧ ∀ b, v'.ownBlock = some b → (Value.slice ar s.rules.length cr).ownBlock = some b ∨ W.heap.size ≤ b) 7 rfl (by kernel_rfl) (fun _ _ _ ⟨h1, h2, h3⟩ he => ⟨h1, own_ext h2 he, h3⟩) (fun w4 hC hk => ?_) ?_
  · obtain ⟨q', e, hg, hE⟩ := hC
    obtain rfl : q3 = q' := by simpa using e
    exact does_append_el 0 (Nat.zero_le _) 75 86 (.agg #[.string ⟨#[]⟩, .int .i64 0, .int .i64 0, .int .i64 0, .slice none 0 0]) 5 64 Tryz.underlying75 rule_info rfl (by omega) (by omega) rfl _ _ rfl _ _ _ rfl (own_ext HS.out.rrow hE) q3 (R2.cells ⟨r, .slice aa r.args.length ca⟩) rfl (by simp [R2.cells, Value.oneCell']) rfl hg (by omega) fun v' w' h1 h2 h3 => ⟨hk.trans h2, row_form h1, h1, fun b hb => by
      rcases h3 with k | k
      · exact .inl (k ▸ hb)
      · rw [k] at hb
        obtain rfl := Option.some.inj hb
        exact .inr hE.size⟩
  rintro _ ⟨_, ⟨a9, c9, rfl⟩, _, _⟩
  simp only [Act.put, List.setIfInBounds_toArray, List.set_cons_zero, List.set_cons_succ]
  repeat (apply FlowT.d; (intro w1 hk; unfold does; go_simp; (try go_ints); (first | exact DetR.mk | (simp only [↓IntWalk.iteOmega, Oper.doesUpon_value]; exact DetR.mk) | (simp only [↓IntWalk.iteOmega]; go_simp; (try go_ints); exact DetR.mk))); simp only [Act.put, List.setIfInBounds_toArray, List.set_cons_zero, List.set_cons_succ])
  refine FlowT.last (fun _ w' => SolvB w' G F' g ad a1 a2 a3 c1 c2 c3 P (.slice a9 (s.rules.length + 1) c9) (rs ++ [⟨r, .slice aa r.args.length ca⟩]) vh hs m1 m2 f1 vw s1 ∧ Blk w' w.heap.size #[.string r.kind, .int .i64 r.a, .int .i64 r.b, .int .i64 r.k, .slice aa r.args.length ca] 86 ∧ Keep (fun b => ¬ F b) w w') 10 rfl (by kernel_rfl) (by kernel_rfl) (fun w5 hC hk => ?_) (fun _ w6 hR => ?_)
  · obtain ⟨_, hq, hob⟩ := hC
    have q8 := b3 w5 hk
    have f8 := (HS.out.blk.keep hk fun hb => HXq.out _ _ hb (by decide) _ HS.out.blk).free 3
    unfold does
    go_simp
    refine ⟨?_, ?_, ?_⟩
    · rw [Hs1.out]
      exact HS.out.pushRule hk (x := ⟨r, .slice aa r.args.length ca⟩) hq hob HA.out
    · exact (HBx.out.keep hk HXw.out).set_ne (fun e => HS.out.blk.ty_ne HBx.out (by decide) e) _
    · exact ((HX.out.keep _).trans (hk.mono fun b _ e hF => HS.out.rf b e (HF1.out b hF))).set (fun hF => HS.out.fg (HF1.out _ hF)) _
  simp only [Act.put]
  obtain ⟨hS6, hBx6, hK6⟩ := hR
  have HS6 := hid hS6
  have HBx6 := hid hBx6
  have HK6 := hid hK6
  clear hS6 hBx6 hK6 b3 d0 d1 d2 d3 d4 HS HBx HXq HXw
  have e0 := HBx6.out.av 0 rfl
  have e1 := HBx6.out.av 1 rfl
  have e2 := HBx6.out.av 2 rfl
  simp only [List.getElem_toArray, List.getElem_cons_zero, List.getElem_cons_succ] at e0 e1 e2
  have n1 : r.kind.toList ≠ bBase.toList := fun e => by rw [e, eq_of_beq bBase_list] at hkb; exact absurd hkb (by decide)
  have n2 : r.kind.toList ≠ kCopy := fun e => by rw [e] at hkc; exact absurd hkc (by decide)
  have hf : r.fired = true := by
    rcases rule_kinds Hg.out.1 Hr.out with g | g | g
    · exact absurd g n1
    · exact absurd g n2
    · exact g
  have Had : Hid (s.add P r = (s.objs r.pivot).foldl (fun s o => s.fire P r o) s1) := hid (by unfold SV.add kCopy; rw [eq_of_beq bBase_list, show (r.kind.toList == ([98, 97, 115, 101] : List UInt8)) = false from hkb, show (r.kind.toList == ([99, 111, 112, 121] : List UInt8)) = false from hkc, Hs1.out]; rfl)
  have HC1 : Hid (Core P S s1) := hid (by rw [Hs1.out]; exact HO.out.full.core.push n1 n2)
  have Hf := hid hf
  obtain ⟨j, hj, hjr⟩ := List.mem_map.1 Hr.out
  have hj := List.mem_range.1 hj
  have hp0 : 0 ≤ r.pivot := by rw [← hjr]; exact pivot_in Hg.out.1 hj (by rw [hjr]; exact hf)
  have hpv : r.pivot < P.vars.length := by rw [← hjr]; exact pivot_lt Hg.out.1 hj (by rw [hjr]; exact hf)
  have hnv := nodes_vars P
  obtain ⟨i, hi⟩ := Int.eq_ofNat_of_zero_le hp0
  have hlen := hO0.out.full.core.len
  have hil : i < s.has.length := by omega
  have hil1 : i < s1.has.length := by rw [Hs1.out]; exact hil
  obtain ⟨vb, lb, hvb, hlb1, hrb⟩ := HS6.out.hbag.at (i := i) hil1
  have hlb : s.has[i]? = some lb := by rw [Hs1.out] at hlb1; exact hlb1
  have hll : lb.length = P.objectsV := hO0.out.full.core.row lb (List.mem_of_getElem? hlb)
  have hon : P.nodesV ≤ P.objectsV := by unfold PP.objectsV; omega
  unfold TrRow at hrb
  rw [hll] at hrb
  obtain ⟨gb, cb, rfl⟩ := own_some hrb (by omega)
  have hrh := HS6.out.hrow
  rw [show s1.has.length = s.has.length by rw [Hs1.out]] at hrh
  obtain ⟨gh, ch, hvh⟩ := own_some hrh (by omega)
  subst hvh
  have HPv := fun w1 (_ : Ext w6 w1) => hid (show Calls Tryz.prog 72 #[r.val (.slice aa r.args.length ca)] w1 fun e w' => e = .returned (.int .i64 (i : Int)) ∧ Ext w1 w' from by have := solvepivot_any r aa r.args.length ca w1; rw [hi] at this; exact this)
  unfold RV.val at HPv
  have Hi := hid hi
  have Hvb := hid hvb
  have Hlb := hid hlb
  have Hll := hid hll
  have Hob := hid (objs_up s hlb)
  have hsl : s.has.length ≤ 120 := by omega
  have hoo : P.objectsV ≤ 126 := hOO.out
  have Hs1h : Hid (s1.has = s.has) := hid (by rw [Hs1.out])
  have m0 := HBx6.out.kc (X := fun _ => False) (fun e => e) 0 rfl
  have m1' := HBx6.out.kc (X := fun _ => False) (fun e => e) 1 rfl
  have m2' := HBx6.out.kc (X := fun _ => False) (fun e => e) 2 rfl
  have m3 := HBx6.out.kc (X := fun _ => False) (fun e => e) 3 rfl
  have m4 := HBx6.out.kc (X := fun _ => False) (fun e => e) 4 rfl
  have b4 := HS6.out.blk.kc (X := fun _ => False) (fun e => e) 4 rfl
  simp only [solvCells, List.getElem_toArray, List.getElem_cons_zero, List.getElem_cons_succ] at m0 m1' m2' m3 m4 b4
  have h4 : ∀ w1, Keep (fun _ => False) w6 w1 → w1.cell? ⟨gh, i, none⟩ = some (.slice (some ⟨gb, 0, none⟩) P.objectsV cb) := fun w1 x => own_get (own_ext hrh x.ext) i hvb
  have HS6b : Hid (SolvAt w6 G F' g ad P (.slice a9 (s.rules.length + 1) c9) (rs ++ [⟨r, .slice aa r.args.length ca⟩]) (.slice (some ⟨gh, 0, none⟩) s.has.length ch) hs s1) := hid ⟨_, _, _, _, _, _, _, _, _, _, HS6.out⟩
  have Hfo : Hid (∀ k : Nat, lb.getD k false = true → (k : Int) ∈ S.getD r.pivot.toNat []) := hid fun k hk => by
    refine hO0.out.full.core.bit (r.pivot, (k : Int)) ?_ (by simp only; omega)
    show (s.has.getD r.pivot.toNat []).getD ((k : Nat) : Int).toNat false = true
    rw [hi]
    simp only [Int.toNat_natCast]
    rw [show s.has.getD i [] = lb by rw [List.getD_eq_getElem?_getD, hlb]; rfl]
    exact hk
  clear hlb1 hvb hlb hll hrb hrh hi hjr hp0 hpv hon hlen hil1 n1 n2 hf HS6
  go_wp2
  refine wp_flowT (fun _ => False) (by kernel_rfl) (by kernel_rfl) ?_
  repeat (apply FlowT.d; (intro w1 hk; unfold does; go_simp; (try go_ints); (first | exact DetR.mk | (simp only [↓IntWalk.iteOmega, Oper.doesUpon_value]; exact DetR.mk) | (simp only [↓IntWalk.iteOmega]; go_simp; (try go_ints); exact DetR.mk))); simp only [Act.put, List.setIfInBounds_toArray, List.set_cons_zero, List.set_cons_succ])
  apply FlowT.d
  · intro w1 hk
    unfold does
    go_simp
    exact CallR.det ((HPv w1 hk.ext).out)
  simp only [Act.put, List.setIfInBounds_toArray, List.set_cons_zero, List.set_cons_succ]
  repeat (apply FlowT.d; (intro w1 hk; unfold does; go_simp; (try go_ints); (first | exact DetR.mk | (simp only [↓IntWalk.iteOmega, Oper.doesUpon_value]; exact DetR.mk) | (simp only [↓IntWalk.iteOmega]; go_simp; (try go_ints); exact DetR.mk))); simp only [Act.put, List.setIfInBounds_toArray, List.set_cons_zero, List.set_cons_succ])
  refine FlowT.fin fun w7 hx7 hk7 => ?_
  have HS7 := hid (HS6b.out.ext hx7)
  have HBx7 := hid (HBx6.out.ext hx7)
  have HK7 := hid (HK6.out.ext_r hx7)
  clear hx7 hk7 b4 h4 m0 m1' m2' m3 m4 e0 e1 e2 HPv HBx6 HS6b
  go_wp2
  go_loopw [52] (fun t52 wr => ∃ (k : Nat) (T : SV), t52 = .int .i64 (k : Int) ∧ k ≤ P.objectsV ∧ T = (objsUp lb k).foldl (fun s o => s.fire P r o) s1 ∧ T.has = s.has ∧ Core P S T ∧ T.Bnd P ∧ SolvAt wr G F' g ad P (.slice a9 (s.rules.length + 1) c9) (rs ++ [⟨r, .slice aa r.args.length ca⟩]) (.slice (some ⟨gh, 0, none⟩) s.has.length ch) hs T ∧ Blk wr w.heap.size #[.string r.kind, .int .i64 r.a, .int .i64 r.b, .int .i64 r.k, .slice aa r.args.length ca] 86 ∧ Keep (fun b => ¬ F b) w wr) (fun t52 _ => P.objectsV - (intOf t52).toNat)
  case atStart => exact ⟨0, s1, rfl, Nat.zero_le _, rfl, Hs1h.out, HC1.out, HB1.out, HS7.out, HBx7.out, HK7.out⟩
  case round =>
    clear HS7 HBx7 HK7
    obtain ⟨k, T, rfl, hk, hT, hTh, hC9, hB9, hS9, hBx9, hK9⟩ := hrel
    have HTe := hid hT
    have HTh := hid hTh
    have HC9 := hid hC9
    have HB9 := hid hB9
    have HS9 := hid hS9
    have HBx9 := hid hBx9
    have HK9 := hid hK9
    clear hT hTh hC9 hB9 hS9 hBx9 hK9
    by_cases hlt : k < P.objectsV
    · have r0 : wr.cell? ⟨gb, k, none⟩ = some (.bool (lb.getD k false)) := by
        obtain ⟨_, _, _, _, _, _, _, _, _, _, hh⟩ := HS9.out
        have := hh.hbag.row i _ lb Hvb.out (by rw [HTh.out]; exact Hlb.out)
        unfold TrRow at this
        rw [Hll.out] at this
        exact own_get this k (trCells_at (by rw [Hll.out]; exact hlt))
      have Hsu := hid (objsUp_succ lb k)
      have Hfk := hid (Hfo.out k)
      generalize lb.getD k false = bt at r0 Hsu Hfk
      cases bt with
      | false =>
        go_wp2
        go_roundw
        case rel =>
          refine ⟨k + 1, T, by go_num, by omega, ?_, HTh.out, HC9.out, HB9.out, HS9.out, HBx9.out, HK9.out⟩
          rw [Hsu.out, HTe.out]; simp
        case measure => simp [intOf]; omega
      | true =>
        have HF := hid (solvefire_any P S T r aa ca (k : Int) wr G F' g ad HS9.out HC9.out HB9.out Hg.out Hc.out Hr.out Hf.out (Hfk.out rfl) (by omega) (HA0.out.keep HK9.out (fun b hb h => h (HGF.out b hb)) fun b hb => HF1.out b (HGF.out b hb)))
        unfold RV.val at HF
        have HCn := hid (HC9.out.fire Hg.out Hc.out Hr.out Hf.out (Hfk.out rfl))
        have HBn := hid (bnd_fire Hg.out Hc.out HC9.out HB9.out Hr.out Hf.out (Hfk.out rfl))
        have n0 := HBx9.out.av 0 rfl
        have n1 := HBx9.out.av 1 rfl
        have n2 := HBx9.out.av 2 rfl
        have n3 := HBx9.out.av 3 rfl
        have n4 := HBx9.out.av 4 rfl
        simp only [List.getElem_toArray, List.getElem_cons_zero, List.getElem_cons_succ] at n0 n1 n2 n3 n4
        go_wp2_with fail
        refine HF.out.mono ?_
        intro z w5 hx
        obtain ⟨rfl, hS5, hK5⟩ := hx
        have HS5 := hid hS5
        have HK5 := hid hK5
        clear hS5 hK5 HF n0 n1 n2 n3 n4 r0
        go_wp2
        go_roundw
        case rel =>
          refine ⟨k + 1, T.fire P r (k : Int), by go_num, by omega, ?_, ?_, HCn.out.1, HBn.out, HS5.out, HBx9.out.keep HK5.out fun hx => hx HFb.out, HK9.out.trans (HK5.out.mono fun b _ hx hF => hx (HF1.out b hF))⟩
          · rw [Hsu.out, if_pos trivial, List.foldl_append, ← HTe.out]; rfl
          · exact HCn.out.2.1.trans HTh.out
        case measure => simp [intOf]; omega
    · obtain rfl : k = P.objectsV := by omega
      have Hfin : Hid (s.add P r = T) := hid (by rw [Had.out, HTe.out, ← Hll.out, ← Hob.out, Hi.out])
      go_wp2
      go_end0
      exact ⟨rfl, ⟨_, by rw [Hfin.out]; exact HS9.out.less HGF.out HF1.out⟩, HK9.out⟩
theorem solverule_any (P : PP) (S : List (List Int)) (s : SV) (r : RV) (aa : Option Addr) (ca : Nat) (w : World) (G F : Nat → Prop) (g : Nat) (ad : Nat → Addr) {vr : Value} {rs : List R2} {vh : Value} {hs : List Value} (hS : SolvAt w G F g ad P vr rs vh hs s) (hO : SolvOk P S s) (hg : P.GoodS S) (hc : ClosedP P S) (hr : r ∈ P.rulesV) (h80 : s.rules.length < 80) (ha : IntsF w G (.slice aa r.args.length ca) r.args) :
    Calls Tryz.prog 39 #[.pointer (some ⟨g, 0, none⟩), r.val (.slice aa r.args.length ca)] w fun x w' => x = .returned (.tuple #[]) ∧ (∃ vr', SolvAt w' G F g ad P vr' (rs ++ [⟨r, .slice aa r.args.length ca⟩]) vh hs (s.add P r)) ∧ Keep (fun b => ¬ F b) w w' := by
  cases hk : (r.kind.toList == [98, 97, 115, 101]) with
  | true => exact solverule_base P S s r aa ca w G F g ad hS hO hg hc hr h80 ha hk
  | false =>
    cases hl : (r.kind.toList == [99, 111, 112, 121]) with
    | true => exact solverule_copy P S s r aa ca w G F g ad hS hO hg hc hr h80 ha hk hl
    | false => exact solverule_fired P S s r aa ca w G F g ad hS hO hg hc hr h80 ha hk hl
end Go.Proofs.YtdppgcbekhabnaaGreatDoor



/- The solver: a program is copied. -/
namespace Go.Proofs.YtdppgcbekhabnaaGreatDoor
set_option linter.unusedSimpArgs false
set_option linter.unusedVariables false
open Go Go.RowKit

set_option maxRecDepth 100000 in
set_option maxHeartbeats 800000 in
theorem clonestr_any (v : Value) (l : List ByteArray) (w : World) (n0 : Nat) (h : StrsR w n0 v l) (hl : l.length ≤ 100000) :
    Calls Tryz.prog 70 #[v] w fun e w' => ∃ v', e = .returned v' ∧ Ext w w' ∧ w'.ownsRow w.heap.size 9 1 v' l.length (l.map .string) := by
  obtain ⟨a, cap, rfl, h2, h3, h4, h5⟩ := id h
  have hl2 : 0 + l.length ≤ 1000000 := by omega
  cases a with
  | none =>
    have h0 : l.length = 0 := by
      rcases Nat.eq_zero_or_pos l.length with e | e
      · exact e
      · obtain ⟨x, hx⟩ := h4 e; cases hx
    obtain rfl : l = [] := List.eq_nil_of_length_eq_zero h0
    have he := Lib.run_eql_slice_nil (P := Tryz.prog) w 22 9 none 0 cap 0 0 Tryz.underlying22
    clear h h2 h3 h4 h5 h0
    go_enter Tryz.func70, Tryz.ntmps70
    go_wp2
    go_ret
    exact ⟨_, rfl, Ext.refl _, World.ownsRow_nil _ _ _ _⟩
  | some x =>
    have Hs := hid h.src
    have hnil : (w.alloc (.cells #[] 9)).ownsRow w.heap.size 9 1 (.slice (some ⟨w.heap.size, 0, none⟩) 0 0) 0 [] := World.ownsRow_made w #[] 0 (Nat.le_refl _) (by unfold maxLen; omega) rfl
    have Hnil := hid hnil
    have hb : w.heap.size ≤ (w.alloc (.cells #[] 9)).heap.size := by simp
    have hx1 : Hid (Ext w (w.alloc (.cells #[] 9))) := hid ((Ext.refl _).alloc _)
    have hs1 : Hid (Src (w.alloc (.cells #[] 9)) (some x) l.length 1 (l.map .string)) := hid (StrsR.old h ((hx1.out).old n0)).src
    have he := Lib.run_eql_slice_nil (P := Tryz.prog) w 22 9 (some x) l.length cap 0 0 Tryz.underlying22
    clear h h2 h3 h4 h5 hnil
    go_enter Tryz.func70, Tryz.ntmps70
    go_wp2_with (at_builtin; refine wpList_append_src w.heap.size hb 22 9 (.string ⟨#[]⟩) 1 16 Tryz.underlying22 str_info rfl (by omega) (by omega) rfl _ _ rfl (.slice (some ⟨w.heap.size, 0, none⟩) 0 0) 0 [] rfl Hnil.out (some x) l.length cap (l.map .string) rfl hs1.out hl2 ?_; intro v' w' h1 h2 h4; have h3 := Keep.new hx1.out h2 (fun k hk => by simp [Value.ownBlock] at hk; omega))
    go_ret
    exact ⟨_, rfl, h3, by simpa using h1⟩
set_option maxRecDepth 100000 in
set_option maxHeartbeats 12800000 in
theorem solvecopied_any (a1 a2 a3 : Option Addr) (c1 c2 c3 : Nat) (P : PP) (w : World) (h : ProgR w w.heap.size (.slice a1 P.vars.length c1) (.slice a2 P.funs.length c2) (.slice a3 P.stmts.length c3) P) (hs : P.Small) :
    Calls Tryz.prog 37 #[pval a1 a2 a3 c1 c2 c3 P] w fun e w' => Ext w w' ∧ ∃ b1 b2 b3 d1 d2 d3, e = .returned (pval b1 b2 b3 d1 d2 d3 P) ∧ ProgR w' w'.heap.size (.slice b1 P.vars.length d1) (.slice b2 P.funs.length d2) (.slice b3 P.stmts.length d3) P := by
  have HP := hid h
  have Hs := hid hs
  have hl1 := hs.vl
  have hl2 := hs.fl
  have hl3 := hs.sl
  obtain ⟨W1, hW1⟩ : ∃ W1, W1 = w.alloc (.cells (pcells a1 a2 a3 c1 c2 c3 P) 26) := ⟨_, rfl⟩
  have hx1 : Ext w W1 := by rw [hW1]; exact (Ext.refl _).alloc _
  obtain ⟨W2, hW2⟩ : ∃ W2, W2 = W1.alloc (.cells #[.slice none 0 0, .slice none 0 0, .slice none 0 0] 26) := ⟨_, rfl⟩
  have hx2 : Ext W1 W2 := by rw [hW2]; exact (Ext.refl _).alloc _
  have HW2 := hid (hx1.trans hx2)
  have HB1 : Hid (Blk W2 w.heap.size (pcells a1 a2 a3 c1 c2 c3 P) 26) := hid (by
    have : Blk W1 w.heap.size (pcells a1 a2 a3 c1 c2 c3 P) 26 := by rw [hW1]; exact Blk.new _ _ _
    exact this.ext hx2)
  have hs1 : W1.heap.size = w.heap.size + 1 := by rw [hW1, heap_size_alloc]
  have HB2 : Hid (Blk W2 (w.heap.size + 1) #[.slice none 0 0, .slice none 0 0, .slice none 0 0] 26) := hid (by
    rw [← hs1, hW2]; exact Blk.new _ _ _)
  have HW2e : Hid (W2 = (w.alloc (.cells #[.slice a1 P.vars.length c1, .slice a2 P.funs.length c2, .slice a3 P.stmts.length c3] 26)).alloc (.cells #[.slice none 0 0, .slice none 0 0, .slice none 0 0] 26)) := hid (by rw [hW2, hW1]; rfl)
  have HCl := hid (clonestr_any (.slice a1 P.vars.length c1) P.vars W2 w.heap.size ((h.ext HW2.out).vars) (by omega))
  have e0 := HB1.out.av 0 rfl
  simp only [pcells, List.getElem_toArray, List.getElem_cons_zero, List.getElem_cons_succ] at e0
  rw [HW2e.out] at e0
  unfold pval
  clear h hs hW1 hW2 hx1 hx2 hs1
  go_enter Tryz.func37, Tryz.ntmps37
  go_wp2_with fail
  rw [← HW2e.out]
  refine HCl.out.mono ?_
  intro e w3 hx
  obtain ⟨v3, rfl, hx3, hr3⟩ := hx
  obtain ⟨va, vc, rfl⟩ := row_form hr3
  have HX3 := hid hx3
  have HV3 := hid hr3
  clear HCl hx3 hr3 e0
  obtain ⟨W4, hW4⟩ : ∃ W4, W4 = w3.alloc (.cells #[.slice va P.vars.length vc, .slice none 0 0, .slice none 0 0] 26) := ⟨_, rfl⟩
  have hx4 : Ext w3 W4 := by rw [hW4]; exact (Ext.refl _).alloc _
  have HO4 : Hid (OwnP W4 w3.heap.size (.slice va P.vars.length vc) (.slice none 0 0) (.slice none 0 0) P [] []) := hid
    ⟨by rw [hW4]; exact Blk.new _ _ _, own_low (own_ext HV3.out hx4) (Nat.zero_le _), World.ownsRow_nil _ _ _ _, World.ownsRow_nil _ _ _ _, fun _ h => by (cases h), fun _ h => by (cases h)⟩
  have HW4 := hid ((HW2.out.trans HX3.out).trans hx4)
  have HB14 := hid (HB1.out.ext (HX3.out.trans hx4))
  have HB24 := hid (HB2.out.ext (HX3.out.trans hx4))
  have Hn1 : Hid (w.heap.size + 1 < w3.heap.size) := hid (Nat.lt_of_lt_of_le HB2.out.lt HX3.out.size)
  have HW4e := hid hW4
  have e1 := HB14.out.av 1 rfl
  simp only [pcells, List.getElem_toArray, List.getElem_cons_zero, List.getElem_cons_succ] at e1
  rw [HW4e.out] at e1
  clear hW4 hx4
  go_wp2
  rw [← HW4e.out]
  clear HW4e e1
  generalize w3.heap.size = n1 at *
  go_loopw [15] (fun t15 wr => ∃ (k : Nat) (fv : Value) (fs : List F2), t15 = .int .i64 (k : Int) ∧ k ≤ P.funs.length ∧ OwnP wr n1 (.slice va P.vars.length vc) fv (.slice none 0 0) P fs [] ∧ fs.map F2.f = P.funs.take k ∧ Old n1 W4 wr) (fun t15 _ => P.funs.length - (intOf t15).toNat)
  case atStart => exact ⟨0, _, [], rfl, Nat.zero_le _, HO4.out, rfl, Old.refl _ _⟩
  case round =>
    clear HO4
    obtain ⟨k, fv, fs, rfl, hk, hO, hm, hw⟩ := hrel
    have HO := hid hO
    have Hm := hid hm
    have Hw := hid hw
    have Hww : Hid (Old w.heap.size w wr) := hid ((HW4.out.old _).trans (hw.mono fun q _ e => by have := Hn1.out; omega))
    have HBp : Hid (Blk wr w.heap.size (pcells a1 a2 a3 c1 c2 c3 P) 26) := hid (HB14.out.keep hw fun e => by have := Hn1.out; omega)
    have HBr : Hid (Blk wr (w.heap.size + 1) #[.slice none 0 0, .slice none 0 0, .slice none 0 0] 26) := hid (HB24.out.keep hw fun e => by have := Hn1.out; omega)
    have p0 := HBp.out.av 0 rfl
    have p1 := HBp.out.av 1 rfl
    have p2 := HBp.out.av 2 rfl
    simp only [pcells, List.getElem_toArray, List.getElem_cons_zero, List.getElem_cons_succ] at p0 p1 p2
    clear hO hm hw
    by_cases hlt : k < P.funs.length
    · obtain ⟨y, f, av, cv, rfl, hq, e0, e1, e2, hI⟩ := (HP.out.old Hww.out).funs.at hlt
      have hfl : fs.length = k := by
        have := congrArg List.length Hm.out
        rw [List.length_map, List.length_take] at this
        omega
      obtain ⟨fa, fc, hfv⟩ := row_form HO.out.funs
      rw [hfl] at hfv
      subst hfv
      obtain ⟨W5, hW5⟩ : ∃ W5, W5 = wr.alloc (.cells #[.string f.name, .slice av f.params.length cv, .int .i64 f.ret] 74) := ⟨_, rfl⟩
      have hx5 : Ext wr W5 := by rw [hW5]; exact (Ext.refl _).alloc _
      have HB5 : Hid (Blk W5 wr.heap.size #[.string f.name, .slice av f.params.length cv, .int .i64 f.ret] 74) := hid (by rw [hW5]; exact Blk.new _ _ _)
      have hfs := Hs.out.fs f (List.mem_of_getElem? hq)
      have HN := hid (clone_big _ f.params W5 w.heap.size (hI.old (hx5.old _)) (by omega))
      have Hnx : Hid (∀ v, (fs ++ [(⟨f, v⟩ : F2)]).map F2.f = P.funs.take (k + 1)) := hid fun v => by
        rw [List.map_append, Hm.out, List.take_add_one, hq]; rfl
      have Hx5 := hid hx5
      have HW5 := hid hW5
      have Hfl := hid hfl
      clear hq hI hfl hx5 hW5 hfs
      go_wp2_with fail
      rw [← HW5.out]
      refine HN.out.mono ?_
      intro e w6 hx
      obtain ⟨v6, rfl, hx6, hr6⟩ := hx
      obtain ⟨b6, c6, rfl⟩ := row_form hr6
      have hB6 := HB5.out.ext hx6
      have z1 := hB6.av 1 rfl
      have f1 := hB6.free 1
      have hB7 := hB6.set 1 (.slice b6 f.params.length c6)
      have k7 : Keep (fun q => q = wr.heap.size) w6 (w6.setCell ⟨wr.heap.size, 1, none⟩ (.slice b6 f.params.length c6)) := Keep.set (X := fun q => q = wr.heap.size) (Keep.refl _ _) rfl _
      simp only [List.setIfInBounds_toArray, List.set_cons_zero, List.set_cons_succ, List.getElem_toArray, List.getElem_cons_zero, List.getElem_cons_succ] at z1 hB7
      have hx7 : Ext wr (w6.setCell ⟨wr.heap.size, 1, none⟩ (.slice b6 f.params.length c6)) := Keep.new (Hx5.out.trans hx6) k7 fun q e => Nat.le_of_eq e.symm
      have HO7 := hid (HO.out.ext hx7)
      have HT7 := hid ((IntsT.of_row hr6).keep k7 fun q e => by subst e; exact notInt hB6 (by decide))
      have y0 := hB7.av 0 rfl
      have y1 := hB7.av 1 rfl
      have y2 := hB7.av 2 rfl
      have q1 := HO7.out.blk.av 1 rfl
      simp only [List.getElem_toArray, List.getElem_cons_zero, List.getElem_cons_succ] at y0 y1 y2 q1
      have Hx7 := hid hx7
      have Hn8 : Hid (n1 ≤ ((w6.setCell ⟨wr.heap.size, 1, none⟩ (.slice b6 f.params.length c6)).alloc (.cells #[.string f.name, .slice b6 f.params.length c6, .int .i64 f.ret] 74)).heap.size) := hid (Nat.le_trans (Nat.le_of_lt HO7.out.blk.lt) ((Ext.refl _).alloc _).size)
      have Hkl : Hid (k ≤ 1000000) := hid (by omega)
      have HRo : Hid ((w6.setCell ⟨wr.heap.size, 1, none⟩ (.slice b6 f.params.length c6)).ownsRow n1 74 3 (.slice fa k fc) k (fs.flatMap F2.cells)) := hid (by have := HO7.out.funs; rwa [Hfl.out] at this)
      clear HN hx6 hr6 hB6 hB7 k7 hx7
      go_wp2_with (at_builtin; refine wpList_append_el n1 Hn8.out 23 74 (.agg #[.string ⟨#[]⟩, .slice none 0 0, .int .i64 0]) 3 48 Tryz.underlying23 fun_info rfl (by omega) (by omega) rfl _ _ rfl (.slice fa k fc) k (fs.flatMap F2.cells) rfl (own_ext HRo.out ((Ext.refl _).alloc _)) w6.heap.size (F2.cells ⟨f, .slice b6 f.params.length c6⟩) rfl (by simp [F2.cells, Value.oneCell']) rfl (Blk.new_setU _ _ _ _ _) Hkl.out ?_; intro v9 w9 ho9 hk9 hl9; obtain ⟨a9, c9, rfl⟩ := row_form ho9; have HO8 := hid (HO7.out.ext ((Ext.refl _).alloc (.cells #[.string f.name, .slice b6 f.params.length c6, .int .i64 f.ret] 74))); have HT8 := hid (HT7.out.ext ((Ext.refl _).alloc (.cells #[.string f.name, .slice b6 f.params.length c6, .int .i64 f.ret] 74))); have Hk9 := hid hk9; have Ho9 := hid ho9; have hb9 := HO8.out.blk.keep hk9 (fun e => by obtain ⟨c, hc⟩ := own_ty HO8.out.funs e; exact Blk.ty_ne hc HO8.out.blk (by decide) rfl); have s1 := hb9.av 1 rfl; have t1 := hb9.free 1; clear ho9 hk9 hb9)
      have HO10 := hid (HO8.out.fun ⟨f, .slice b6 f.params.length c6⟩ HT8.out (by rw [Hfl.out]; exact Ho9.out) Hk9.out rfl)
      have HO11 : Hid (Old n1 W4 (w9.setCell ⟨n1, 1, none⟩ (.slice a9 (k + 1) c9))) := hid (by
        refine Hw.out.trans (((Hx7.out.trans ((Ext.refl _).alloc _)).old n1).trans ((Hk9.out.mono fun q _ e => (World.ownsRow.lt HO8.out.funs q e).1).trans ?_))
        exact Keep.set (X := fun q => n1 ≤ q) (Keep.refl _ _) (Nat.le_refl _) _)
      go_roundw
      case rel => exact ⟨k + 1, _, _, by go_num, by omega, HO10.out, Hnx.out _, HO11.out⟩
      case measure => simp [intOf]; omega
    · obtain rfl : k = P.funs.length := by omega
      rw [List.take_of_length_le (Nat.le_refl _)] at Hm
      have Hmf := Hm
      have HOf := HO
      have Hwf := Hw
      clear Hm HO Hw HBr Hww HBp
      go_wp2
      clear p0 p1 p2
      rename World => w7
      go_loopw [33] (fun t33 wr => ∃ (k : Nat) (sv : Value) (ss : List S2), t33 = .int .i64 (k : Int) ∧ k ≤ P.stmts.length ∧ OwnP wr n1 (.slice va P.vars.length vc) fv sv P fs ss ∧ ss.map S2.s = P.stmts.take k ∧ Old n1 W4 wr) (fun t33 _ => P.stmts.length - (intOf t33).toNat)
      case atStart => exact ⟨0, _, [], rfl, Nat.zero_le _, HOf.out, rfl, Hwf.out⟩
      case round =>
        clear HOf Hwf
        obtain ⟨k, sv, ss, rfl, hk, hO, hm, hw⟩ := hrel
        have HO := hid hO
        have Hm := hid hm
        have Hw := hid hw
        have Hww : Hid (Old w.heap.size w wr) := hid ((HW4.out.old _).trans (hw.mono fun q _ e => by have := Hn1.out; omega))
        have HBp : Hid (Blk wr w.heap.size (pcells a1 a2 a3 c1 c2 c3 P) 26) := hid (HB14.out.keep hw fun e => by have := Hn1.out; omega)
        have HBr : Hid (Blk wr (w.heap.size + 1) #[.slice none 0 0, .slice none 0 0, .slice none 0 0] 26) := hid (HB24.out.keep hw fun e => by have := Hn1.out; omega)
        have p0 := HBp.out.av 0 rfl
        have p1 := HBp.out.av 1 rfl
        have p2 := HBp.out.av 2 rfl
        simp only [pcells, List.getElem_toArray, List.getElem_cons_zero, List.getElem_cons_succ] at p0 p1 p2
        clear hO hm hw
        by_cases hlt : k < P.stmts.length
        · obtain ⟨y, f, av, cv, rfl, hq, e0, e1, e2, e3, hI⟩ := (HP.out.old Hww.out).stmts.at hlt
          have hfl : ss.length = k := by
            have := congrArg List.length Hm.out
            rw [List.length_map, List.length_take] at this
            omega
          obtain ⟨fa, fc, hfv⟩ := row_form HO.out.stmts
          rw [hfl] at hfv
          subst hfv
          obtain ⟨W5, hW5⟩ : ∃ W5, W5 = wr.alloc (.cells #[.string f.kind, .int .i64 f.x, .int .i64 f.y, .slice av f.args.length cv] 65) := ⟨_, rfl⟩
          have hx5 : Ext wr W5 := by rw [hW5]; exact (Ext.refl _).alloc _
          have HB5 : Hid (Blk W5 wr.heap.size #[.string f.kind, .int .i64 f.x, .int .i64 f.y, .slice av f.args.length cv] 65) := hid (by rw [hW5]; exact Blk.new _ _ _)
          have hfs := Hs.out.ss f (List.mem_of_getElem? hq)
          have HN := hid (clone_big _ f.args W5 w.heap.size (hI.old (hx5.old _)) (by omega))
          have Hnx : Hid (∀ v, (ss ++ [(⟨f, v⟩ : S2)]).map S2.s = P.stmts.take (k + 1)) := hid fun v => by
            rw [List.map_append, Hm.out, List.take_add_one, hq]; rfl
          have Hx5 := hid hx5
          have HW5 := hid hW5
          have Hfl := hid hfl
          clear hq hI hfl hx5 hW5 hfs
          go_wp2_with fail
          rw [← HW5.out]
          refine HN.out.mono ?_
          intro e w6 hx
          obtain ⟨v6, rfl, hx6, hr6⟩ := hx
          obtain ⟨b6, c6, rfl⟩ := row_form hr6
          have hB6 := HB5.out.ext hx6
          have z1 := hB6.av 3 rfl
          have f1 := hB6.free 3
          have hB7 := hB6.set 3 (.slice b6 f.args.length c6)
          have k7 : Keep (fun q => q = wr.heap.size) w6 (w6.setCell ⟨wr.heap.size, 3, none⟩ (.slice b6 f.args.length c6)) := Keep.set (X := fun q => q = wr.heap.size) (Keep.refl _ _) rfl _
          simp only [List.setIfInBounds_toArray, List.set_cons_zero, List.set_cons_succ, List.getElem_toArray, List.getElem_cons_zero, List.getElem_cons_succ] at z1 hB7
          have hx7 : Ext wr (w6.setCell ⟨wr.heap.size, 3, none⟩ (.slice b6 f.args.length c6)) := Keep.new (Hx5.out.trans hx6) k7 fun q e => Nat.le_of_eq e.symm
          have HO7 := hid (HO.out.ext hx7)
          have HT7 := hid ((IntsT.of_row hr6).keep k7 fun q e => by subst e; exact notInt hB6 (by decide))
          have y0 := hB7.av 0 rfl
          have y1 := hB7.av 1 rfl
          have y2 := hB7.av 2 rfl
          have y3 := hB7.av 3 rfl
          have q1 := HO7.out.blk.av 2 rfl
          simp only [List.getElem_toArray, List.getElem_cons_zero, List.getElem_cons_succ] at y0 y1 y2 y3 q1
          have Hx7 := hid hx7
          have Hn8 : Hid (n1 ≤ ((w6.setCell ⟨wr.heap.size, 3, none⟩ (.slice b6 f.args.length c6)).alloc (.cells #[.string f.kind, .int .i64 f.x, .int .i64 f.y, .slice b6 f.args.length c6] 65)).heap.size) := hid (Nat.le_trans (Nat.le_of_lt HO7.out.blk.lt) ((Ext.refl _).alloc _).size)
          have Hkl : Hid (k ≤ 1000000) := hid (by omega)
          have HRo : Hid ((w6.setCell ⟨wr.heap.size, 3, none⟩ (.slice b6 f.args.length c6)).ownsRow n1 65 4 (.slice fa k fc) k (ss.flatMap S2.cells)) := hid (by have := HO7.out.stmts; rwa [Hfl.out] at this)
          clear HN hx6 hr6 hB6 hB7 k7 hx7
          go_wp2_with (at_builtin; refine wpList_append_el n1 Hn8.out 24 65 (.agg #[.string ⟨#[]⟩, .int .i64 0, .int .i64 0, .slice none 0 0]) 4 56 Tryz.underlying24 stmt_info rfl (by omega) (by omega) rfl _ _ rfl (.slice fa k fc) k (ss.flatMap S2.cells) rfl (own_ext HRo.out ((Ext.refl _).alloc _)) w6.heap.size (S2.cells ⟨f, .slice b6 f.args.length c6⟩) rfl (by simp [S2.cells, Value.oneCell']) rfl (Blk.new_setU _ _ _ _ _) Hkl.out ?_; intro v9 w9 ho9 hk9 hl9; obtain ⟨a9, c9, rfl⟩ := row_form ho9; have HO8 := hid (HO7.out.ext ((Ext.refl _).alloc (.cells #[.string f.kind, .int .i64 f.x, .int .i64 f.y, .slice b6 f.args.length c6] 65))); have HT8 := hid (HT7.out.ext ((Ext.refl _).alloc (.cells #[.string f.kind, .int .i64 f.x, .int .i64 f.y, .slice b6 f.args.length c6] 65))); have Hk9 := hid hk9; have Ho9 := hid ho9; have hb9 := HO8.out.blk.keep hk9 (fun e => by obtain ⟨c, hc⟩ := own_ty HO8.out.stmts e; exact Blk.ty_ne hc HO8.out.blk (by decide) rfl); have s1 := hb9.av 2 rfl; have t1 := hb9.free 2; clear ho9 hk9 hb9)
          have HO10 := hid (HO8.out.stmt ⟨f, .slice b6 f.args.length c6⟩ HT8.out (by rw [Hfl.out]; exact Ho9.out) Hk9.out rfl)
          have HO11 : Hid (Old n1 W4 (w9.setCell ⟨n1, 2, none⟩ (.slice a9 (k + 1) c9))) := hid (by
            refine Hw.out.trans (((Hx7.out.trans ((Ext.refl _).alloc _)).old n1).trans ((Hk9.out.mono fun q _ e => (World.ownsRow.lt HO8.out.stmts q e).1).trans ?_))
            exact Keep.set (X := fun q => n1 ≤ q) (Keep.refl _ _) (Nat.le_refl _) _)
          go_roundw
          case rel => exact ⟨k + 1, _, _, by go_num, by omega, HO10.out, Hnx.out _, HO11.out⟩
          case measure => simp [intOf]; omega
        · obtain rfl : k = P.stmts.length := by omega
          rw [List.take_of_length_le (Nat.le_refl _)] at Hm
          have hfl : fs.length = P.funs.length := by rw [← Hmf.out, List.length_map]
          have hsl : ss.length = P.stmts.length := by rw [← Hm.out, List.length_map]
          obtain ⟨fa, fc, hfv⟩ := row_form HO.out.funs
          obtain ⟨sa, sc, hsv⟩ := row_form HO.out.stmts
          rw [hfl] at hfv
          rw [hsl] at hsv
          subst hfv hsv
          have q0 := HO.out.blk.av 0 rfl
          have q1 := HO.out.blk.av 1 rfl
          have q2 := HO.out.blk.av 2 rfl
          have z0 := HBr.out.av 0 rfl
          have z1 := HBr.out.av 1 rfl
          have z2 := HBr.out.av 2 rfl
          have f0 := HBr.out.free 0
          have f1 := HBr.out.free 1
          have f2 := HBr.out.free 2
          simp only [List.getElem_toArray, List.getElem_cons_zero, List.getElem_cons_succ] at q0 q1 q2 z0 z1 z2
          have HBz := hid (store3 (v0 := .slice va P.vars.length vc) (v1 := .slice fa P.funs.length fc) (v2 := .slice sa P.stmts.length sc) HBr.out)
          have HKz := hid (store3_keep wr (w.heap.size + 1) (.slice va P.vars.length vc) (.slice fa P.funs.length fc) (.slice sa P.stmts.length sc))
          obtain ⟨W10, hW10⟩ : ∃ W10, W10 = (((wr.setCell ⟨w.heap.size + 1, 0, none⟩ (.slice va P.vars.length vc)).setCell ⟨w.heap.size + 1, 1, none⟩ (.slice fa P.funs.length fc)).setCell ⟨w.heap.size + 1, 2, none⟩ (.slice sa P.stmts.length sc)) := ⟨_, rfl⟩
          rw [← hW10] at HBz HKz
          have HW10 := hid hW10
          have Hfs := hid (And.intro hfl hsl)
          clear hfl hsl p0 p1 hW10
          go_wp2
          rw [← HW10.out]
          have c0 := HBz.out.av 0 rfl
          have c1' := HBz.out.av 1 rfl
          have c2' := HBz.out.av 2 rfl
          have hX := Keep.new (Ext.refl w) (Hww.out.trans (HKz.out.mono fun b _ e => by omega)) fun b hb => hb
          have hni : ∀ b, b = w.heap.size + 1 → ¬ IsInt wr b := fun b e => by subst e; exact notInt HBr.out (by decide)
          have hrk : ∀ {base : Nat} {e : TypeId} {size : Nat} {v : Value} {n : Nat} {xs : List Value}, wr.ownsRow base e size v n xs → e ≠ 26 → W10.ownsRow base e size v n xs := fun hr hne => row_keep hr HKz.out fun i hi e => by
            subst e
            obtain ⟨c, hc⟩ := own_ty hr hi
            exact Blk.ty_ne hc HBr.out hne rfl
          have hP' : ProgR W10 W10.heap.size (.slice va P.vars.length vc) (.slice fa P.funs.length fc) (.slice sa P.stmts.length sc) P :=
            ⟨StrsR.own (hrk HO.out.vars (by decide)) (Nat.le_refl _), FunsR.own (by have := hrk HO.out.funs (by decide); rw [Hfs.out.1]; rw [Hfs.out.1] at this; exact this) Hmf.out fun x hx => (HO.out.fi x hx).keep HKz.out hni, StmtsR.own (by have := hrk HO.out.stmts (by decide); rw [Hfs.out.2]; rw [Hfs.out.2] at this; exact this) Hm.out fun x hx => (HO.out.si x hx).keep HKz.out hni⟩
          exact bodyPost_ret (v := pval va fa sa vc fc sc P) (by simp [results, pval, Tryz.results37, go_sem, c0, c1', c2']) rfl ⟨hX, _, _, _, _, _, _, rfl, hP'⟩
end Go.Proofs.YtdppgcbekhabnaaGreatDoor



/- The solver: New of a well program. -/
namespace Go.Proofs.YtdppgcbekhabnaaGreatDoor
set_option linter.unusedSimpArgs false
set_option linter.unusedVariables false
open Go Go.RowKit

section
variable {w w1 w2 : World} {G F : Nat → Prop} {g : Nat} {ad : Nat → Addr} {a1 a2 a3 : Option Addr} {c1 c2 c3 : Nat} {P : PP} {vr : Value} {rs : List R2} {vh : Value} {hs : List Value} {m1 m2 : Nat} {f1 : Int → Option Value} {vw : Value} {s : SV}
/-- A node more. -/
theorem SolvB.pushHas (h : SolvB w G F g ad a1 a2 a3 c1 c2 c3 P vr rs vh hs m1 m2 f1 vw s) (x : Ext w w1) {v : Value} {l : List Bool} (hv : TrRow 0 w1 v l) (hn : ∀ b, v.ownBlock = some b → w.heap.size ≤ b) (k : Keep (fun q => vh.ownBlock = some q) w1 w2) {vh' : Value} (hr : w2.ownsRow 0 84 1 vh' (s.has.length + 1) (hs ++ [v])) (ho : ∀ b, vh'.ownBlock = some b → vh.ownBlock = some b ∨ w.heap.size ≤ b) :
    SolvB (w2.setCell ⟨g, 4, none⟩ vh') G F g ad a1 a2 a3 c1 c2 c3 P vr rs vh' (hs ++ [v]) m1 m2 f1 vw { s with has := s.has ++ [l] } := by
  have hX : ∀ {b : Nat}, vh.ownBlock = some b → ∃ c, Blk w1 b c 84 := fun hb => own_ty (own_ext h.hrow x) hb
  have hne : ∀ {b : Nat} {e : TypeId}, vh.ownBlock = some b → 84 ≠ e → ¬ ∃ c, Blk w1 b c e := fun hb he => by
    obtain ⟨c, hc⟩ := hX hb
    exact off_of hc he
  have k1 := (h.blk.ext x).keep k (fun hb => hne hb (by decide) ⟨_, h.blk.ext x⟩)
  have kk : Keep (fun q => q = g ∨ vh.ownBlock = some q) w1 (w2.setCell ⟨g, 4, none⟩ vh') := (k.mono fun _ _ h => .inr h).set (.inl rfl) _
  have hoff : ∀ {e : TypeId}, 84 ≠ e → 83 ≠ e → ∀ b, (b = g ∨ vh.ownBlock = some b) → ¬ ∃ c, Blk w1 b c e := fun he1 he2 b hb => hb.elim (fun e => by rw [e]; exact off_of (h.blk.ext x) he2) fun hb => hne hb he1
  have hF : ∀ b, G b → ¬ (b = g ∨ vh.ownBlock = some b) := fun b hb hx => hx.elim (fun e => h.fg (e ▸ h.gf b hb)) fun e => h.hf b e (h.gf b hb)
  have hh := h.ext x
  have hm1 : KMap Tryz.prog 3 (Value.int .i64) w1 m1 f1 := hh.map1
  have hm2 : KMap Tryz.prog 127 twoV w1 m2 (seenF s.edges) := hh.map2
  refine ⟨?_, h.fg, h.gf, fun b hb => Nat.lt_of_lt_of_le (hh.flt b hb) kk.size, hh.pw.keep kk hF, h.req, own_off hh.rrow kk (hoff (by decide) (by decide)), fun y hy => (hh.rargs y hy).keep kk hF fun _ h => h, h.rf, ?_, fun b hb => ?_, (h.hbag.push x hv hn).keep kk (hoff (by decide) (by decide)), fun u hu b hb => ?_,
    hm1.keep kk fun hb => hb.elim (fun e => hm1.ne hh.blk e.symm) fun hb => (hX hb).elim fun c hc => hm1.not_blk hc, h.mf1, fun n => own_off (hh.row1 n) kk (hoff (by decide) (by decide)), h.apart1, h.rf1,
    hm2.keep kk fun hb => hb.elim (fun e => hm2.ne hh.blk e.symm) fun hb => (hX hb).elim fun c hc => hm2.not_blk hc, h.mf2, h.m12, hh.wrow.off kk (hoff (by decide) (by decide)), h.wf⟩
  · have := k1.set 4 vh'
    rw [show (solvCells a1 a2 a3 c1 c2 c3 P vr vh m1 m2 vw).setIfInBounds 4 vh' = solvCells a1 a2 a3 c1 c2 c3 P vr vh' m1 m2 vw from rfl] at this
    exact this
  · rw [List.length_append, List.length_singleton]
    refine own_off hr ((Keep.refl (fun q => q = g) w2).set rfl _) fun b hb => ?_
    rw [hb]; exact off_of k1 (by decide)
  · rcases ho b hb with e | e
    · exact h.hf b e
    · exact fun hb' => by have := h.flt _ hb'; omega
  · rcases List.mem_append.1 hu with hu | hu
    · exact h.hbf u hu b hb
    · rw [List.mem_singleton.1 hu] at hb
      exact fun hb' => by have := h.flt _ hb'; have := hn b hb; omega
end
/-- A solver as it is made. -/
theorem solvB_new {w : World} {n1 : Nat} {ad : Nat → Addr} {a1 a2 a3 : Option Addr} {c1 c2 c3 : Nat} {P : PP} (h : PWF w (fun b => b < n1) ad a1 a2 a3 c1 c2 c3 P) (hn : n1 = w.heap.size) :
    SolvB (((w.alloc (.map #[] 0)).alloc (.map #[] 0)).alloc (.cells (solvCells a1 a2 a3 c1 c2 c3 P (.slice none 0 0) (.slice none 0 0) w.heap.size (w.heap.size + 1) (.slice none 0 0)) 83)) (fun b => b < n1) (fun b => b < n1) (w.heap.size + 2) ad a1 a2 a3 c1 c2 c3 P (.slice none 0 0) [] (.slice none 0 0) [] w.heap.size (w.heap.size + 1) (fun _ => none) (.slice none 0 0) ⟨[], [], [], []⟩ := by
  obtain ⟨wA, hA⟩ : ∃ wA, wA = w.alloc (.map #[] 0) := ⟨_, rfl⟩
  obtain ⟨wB, hB⟩ : ∃ wB, wB = wA.alloc (.map #[] 0) := ⟨_, rfl⟩
  have sA : wA.heap.size = w.heap.size + 1 := by rw [hA, heap_size_alloc]
  have sB : wB.heap.size = w.heap.size + 2 := by rw [hB, heap_size_alloc, sA]
  have xA : Ext w wA := by rw [hA]; exact (Ext.refl _).alloc _
  have xB : Ext wA wB := by rw [hB]; exact (Ext.refl _).alloc _
  have k1 : KMap Tryz.prog 3 (Value.int .i64) wA w.heap.size (fun _ => none) := by rw [hA]; exact KMap.new _ _ _ _
  have k2 : KMap Tryz.prog 127 twoV wB (w.heap.size + 1) (fun _ => none) := by rw [← sA, hB]; exact KMap.new _ _ _ _
  rw [← hA, ← hB]
  obtain ⟨wC, hC⟩ : ∃ wC, wC = wB.alloc (.cells (solvCells a1 a2 a3 c1 c2 c3 P (.slice none 0 0) (.slice none 0 0) w.heap.size (w.heap.size + 1) (.slice none 0 0)) 83) := ⟨_, rfl⟩
  have xC : Ext wB wC := by rw [hC]; exact (Ext.refl _).alloc _
  have hb : Blk wC (w.heap.size + 2) (solvCells a1 a2 a3 c1 c2 c3 P (.slice none 0 0) (.slice none 0 0) w.heap.size (w.heap.size + 1) (.slice none 0 0)) 83 := by rw [← sB, hC]; exact Blk.new _ _ _
  rw [← hC]
  have xx := (xA.trans xB).trans xC
  have hsz := xx.size
  refine ⟨hb, show ¬ (w.heap.size + 2 < n1) by omega, fun _ h => h, fun b hb => Nat.lt_of_lt_of_le (show b < w.heap.size from hn ▸ hb) hsz, h.ext xx, rfl, World.ownsRow_nil _ _ _ _, fun _ h => (by cases h), fun _ h => (by cases h), World.ownsRow_nil _ _ _ _, fun _ h => (by cases h), BBags.nil _ _, fun _ h => (by cases h), (k1.ext xB).ext xC, show ¬ (w.heap.size < n1) by omega, fun _ => IRow.nil _ _, fun _ _ _ _ h => (by cases h), fun _ _ h => (by cases h), (k2.ext xC).eq fun _ => rfl, show ¬ (w.heap.size + 1 < n1) by omega, by omega, OwnsQ.nil _ _ _ _, fun _ h => (by cases h)⟩
theorem bool_info1 : (Tryz.prog.info? 4).map (fun i => (i.zero, i.size, i.bytes)) = some (some (.bool false), 1, 1) := by kernel_rfl
theorem matrix_info : (Tryz.prog.info? 84).map (fun i => (i.zero, i.size, i.bytes)) = some (some (.slice none 0 0), 1, 24) := by kernel_rfl
theorem run_make_tr (n : Nat) (h : n ≤ 1000) (w : World) : (Instr.makeSlice 84 (.int .i64 (n : Int)) (.int .i64 (n : Int))).run Tryz.prog w = .ok (.slice (some ⟨w.heap.size, 0, none⟩) n n) (w.alloc (.cells (trCells (List.replicate n false)).toArray 4)) := by
  obtain ⟨ti, hi, hz0, hz1, hz2⟩ := info_parts bool_info1
  have hmk := run_make (P := Tryz.prog) w 84 4 ti (.bool false) Tryz.underlying84 hi hz0 .i64 .i64 (n : Int) (n : Int) (by omega) (by omega) (by rw [hz2]; omega) (by omega)
  have hmc : madeCells (Value.bool false).cells ((n : Int).toNat * ti.size) = (trCells (List.replicate n false)).toArray := by
    rw [hz1, Int.toNat_natCast, Nat.mul_one]
    apply Array.ext'
    rw [show (Value.bool false).cells = #[.bool false] from rfl, toList_madeCells_one]
    simp [trCells]
  rw [hmc, Int.toNat_natCast] at hmk
  exact hmk
theorem trRow_new (w : World) (l : List Bool) (h : l.length ≤ 1000) : TrRow w.heap.size (w.alloc (.cells (trCells l).toArray 4)) (.slice (some ⟨w.heap.size, 0, none⟩) l.length l.length) l := by
  have hl : (trCells l).length = l.length := by unfold trCells; rw [List.length_map]
  refine ⟨by rw [hl]; omega, .inr ⟨w.heap.size, l.length, (trCells l).toArray, rfl, Nat.le_refl _, Blk.new _ _ _, Nat.le_refl _, by unfold maxLen; omega, by rw [List.size_toArray, hl]; omega, ?_⟩⟩
  rw [List.take_of_length_le (by rw [hl]; omega)]
set_option maxRecDepth 100000 in
set_option maxHeartbeats 6400000 in
theorem solvenew_yes (a1 a2 a3 : Option Addr) (c1 c2 c3 : Nat) (P : PP) (S : List (List Int)) (w : World) (n0 : Nat) (ad : Nat → Addr) (h : PW w n0 ad a1 a2 a3 c1 c2 c3 P) (hn0 : n0 ≤ w.heap.size) (hsm : P.Small) (hg : P.GoodS S) (hc : ClosedP P S) :
    Calls Tryz.prog 11 #[pval a1 a2 a3 c1 c2 c3 P] w fun e w' => ∃ (g : Nat) (G F : Nat → Prop) (vr vh : Value) (rs : List R2) (hs : List Value), e = .returned (.tuple #[.pointer (some ⟨g, 0, none⟩), .nilIface]) ∧ (∀ b, b < w.heap.size → F b) ∧ SolvAt w' G F g ad P vr rs vh hs (P.rulesV.foldl (SV.add P) (SV.zero P)) ∧ Ext w w' := by
  obtain ⟨hf1, hf2, hf3⟩ := h.well.few
  obtain ⟨hnn, hoo⟩ := h.well.nodes
  obtain ⟨W, hW⟩ : ∃ W, W = w.alloc (.cells (pcells a1 a2 a3 c1 c2 c3 P) 26) := ⟨_, rfl⟩
  have HX : Hid (Ext w W) := hid (by rw [hW]; exact (Ext.refl _).alloc _)
  have HBx : Hid (Blk W w.heap.size (pcells a1 a2 a3 c1 c2 c3 P) 26) := hid (by rw [hW]; exact Blk.new _ _ _)
  have HWe : Hid (W = w.alloc (.cells #[.slice a1 P.vars.length c1, .slice a2 P.funs.length c2, .slice a3 P.stmts.length c3] 26)) := hid (by rw [hW]; rfl)
  have HPW := hid (h.ext HX.out)
  have Hsm := hid hsm
  have Hg := hid hg
  have Hc := hid hc
  have HC := hid (consof_yes a1 a2 a3 c1 c2 c3 P W n0 ad HPW.out)
  have Hn0 := hid (Nat.le_trans hn0 HX.out.size)
  have d0 := HBx.out.av 0 rfl
  have d1 := HBx.out.av 1 rfl
  have d2 := HBx.out.av 2 rfl
  simp only [pcells, List.getElem_toArray, List.getElem_cons_zero, List.getElem_cons_succ] at d0 d1 d2
  rw [HWe.out] at d0 d1 d2
  unfold pval at HC ⊢
  clear hW h hsm hg hc hn0
  go_enter Tryz.func11, Tryz.ntmps11
  go_wp2_with fail
  rw [← HWe.out]
  refine HC.out.mono ?_
  intro e w1 hx
  obtain ⟨v, rs, rfl, hi, hx1⟩ := hx
  obtain ⟨av, cv, rfl⟩ := row_form hi.row
  rw [show P.rulesV.length = P.stmts.length from P.rulesUp_len _] at hi ⊢
  have HI := hid hi
  have Hx1 := hid hx1
  have HCp := hid (solvecopied_any a1 a2 a3 c1 c2 c3 P w1 (((HPW.out.ext hx1).lift (Nat.le_trans Hn0.out hx1.size)).prog) Hsm.out)
  unfold pval at HCp
  clear HC hi hx1 d0 d1 d2
  have d0 := (HBx.out.ext Hx1.out).av 0 rfl
  have d1 := (HBx.out.ext Hx1.out).av 1 rfl
  have d2 := (HBx.out.ext Hx1.out).av 2 rfl
  simp only [pcells, List.getElem_toArray, List.getElem_cons_zero, List.getElem_cons_succ] at d0 d1 d2
  go_wp2_with fail
  refine HCp.out.mono ?_
  intro e w2 hx
  obtain ⟨hx2, b1, b2, b3, e1, e2, e3, rfl, hP2⟩ := hx
  have Hx2 := hid (Hx1.out.trans hx2)
  have Hx12 := hid hx2
  have HP2 := hid hP2
  have HPF : Hid (PWF w2 (fun b => b < w2.heap.size) ad b1 b2 b3 e1 e2 e3 P) := hid (PWF.of ⟨HPW.out.errs.ext Hx2.out, hP2, HPW.out.z1, HPW.out.z2, HPW.out.well⟩ (Nat.le_refl _))
  have HS5 := hid (solvB_new HPF.out rfl)
  have hmm := @run_makeMap Tryz.prog
  clear HCp hx2 hP2 d0 d1 d2
  have HNo := fun w3 (x : Ext W w3) => hid (prognodes_any a1 a2 a3 c1 c2 c3 P w3 n0 ad (HPW.out.ext x).errs (HPW.out.ext x).prog HPW.out.z1 HPW.out.z2 HPW.out.well)
  have HOb := fun w3 (x : PW w3 w3.heap.size ad a1 a2 a3 c1 c2 c3 P) => hid (progobjects_any a1 a2 a3 c1 c2 c3 P w3 w3.heap.size ad x)
  have HPA : Hid (PWF w2 (fun b => b < w2.heap.size) ad a1 a2 a3 c1 c2 c3 P) := hid (PWF.of (HPW.out.ext Hx2.out) (Nat.le_trans Hn0.out Hx2.out.size))
  unfold pval at HNo HOb
  obtain ⟨W5, hW5⟩ : ∃ W5, W5 = ((w2.alloc (.map #[] 0)).alloc (.map #[] 0)).alloc (.cells #[.slice b1 P.vars.length e1, .slice b2 P.funs.length e2, .slice b3 P.stmts.length e3, .slice none 0 0, .slice none 0 0, .map (some w2.heap.size), .map (some (w2.heap.size + 1)), .slice none 0 0, .slice none 0 0] 83) := ⟨_, rfl⟩
  have HW5 := hid hW5
  unfold solvCells at HS5
  rw [← hW5] at HS5
  have Hx5 : Hid (Ext w2 W5) := hid (by rw [hW5]; exact (((Ext.refl _).alloc _).alloc _).alloc _)
  have HN5 := HNo W5 (Hx2.out.trans Hx5.out)
  have d0 := (HBx.out.ext (Hx2.out.trans Hx5.out)).av 0 rfl
  have d1 := (HBx.out.ext (Hx2.out.trans Hx5.out)).av 1 rfl
  have d2 := (HBx.out.ext (Hx2.out.trans Hx5.out)).av 2 rfl
  have p0 := (HBx.out.ext Hx2.out).av 0 rfl
  have p1 := (HBx.out.ext Hx2.out).av 1 rfl
  have p2 := (HBx.out.ext Hx2.out).av 2 rfl
  simp only [pcells, List.getElem_toArray, List.getElem_cons_zero, List.getElem_cons_succ] at d0 d1 d2 p0 p1 p2
  rw [HW5.out] at d0 d1 d2
  clear hW5
  go_wp2_with fail
  rw [← HW5.out]
  refine HN5.out.mono ?_
  intro e w6 hx
  obtain ⟨rfl, hx6⟩ := hx
  have HS6 := hid (HS5.out.ext hx6)
  have Hx6 := hid (Hx5.out.trans hx6)
  clear HN5 hx6 d0 d1 d2 p0 p1 p2 HNo hmm HS5
  have hmt := run_make_tr P.objectsV (by omega)
  have HX2 := hid (HX.out.trans Hx2.out)
  obtain ⟨n2, hn2⟩ : ∃ n2, n2 = w2.heap.size := ⟨_, rfl⟩
  rw [← hn2] at HS6 HPF HPA ⊢
  have Hn2 := hid hn2
  have HBp := hid (HBx.out.ext Hx2.out)
  clear hn2
  go_wp2
  go_loopw [25] (fun t25 wr => ∃ (k : Nat) (vh : Value) (hs : List Value), t25 = .int .i64 (k : Int) ∧ k ≤ P.nodesV ∧ SolvB wr (fun b => b < n2) (fun b => b < n2) (n2 + 2) ad b1 b2 b3 e1 e2 e3 P (.slice none 0 0) [] vh hs n2 (n2 + 1) (fun _ => none) (.slice none 0 0) ⟨List.replicate k (List.replicate P.objectsV false), [], [], []⟩ ∧ Ext w2 wr) (fun t25 _ => P.nodesV - (intOf t25).toNat)
  case atStart => exact ⟨0, _, [], rfl, Nat.zero_le _, HS6.out, Hx6.out⟩
  case round =>
    clear HS6 Hx6
    obtain ⟨k, vh, hs, rfl, hk, hS, hx⟩ := hrel
    obtain ⟨ah, ch, rfl⟩ := row_form hS.hrow
    have HS := hid hS
    have Hx := hid hx
    have hlk : (List.replicate k (List.replicate P.objectsV false)).length = k := List.length_replicate
    simp only [hlk] at HS
    clear hS hx hlk
    by_cases hlt : k < P.nodesV
    · have hXq : ∀ (b : Nat) (e : TypeId), (Value.slice ah k ch).ownBlock = some b → 84 ≠ e → ∀ c, ¬ Blk wr b c e := fun _ _ hb he c hc => by
        obtain ⟨c', hc'⟩ := own_ty HS.out.hrow hb
        exact off_of hc' he ⟨_, hc⟩
      have HBr := hid (HBp.out.ext Hx.out)
      have b4 := HS.out.blk.kc (X := fun q => (Value.slice ah k ch).ownBlock = some q) (fun hb => hXq _ _ hb (by decide) _ HS.out.blk) 4 rfl
      have d0 := HBr.out.kc (X := fun q => (Value.slice ah k ch).ownBlock = some q) (fun hb => hXq _ _ hb (by decide) _ HBr.out) 0 rfl
      have d1 := HBr.out.kc (X := fun q => (Value.slice ah k ch).ownBlock = some q) (fun hb => hXq _ _ hb (by decide) _ HBr.out) 1 rfl
      have d2 := HBr.out.kc (X := fun q => (Value.slice ah k ch).ownBlock = some q) (fun hb => hXq _ _ hb (by decide) _ HBr.out) 2 rfl
      simp only [solvCells, pcells, List.getElem_toArray, List.getElem_cons_zero, List.getElem_cons_succ] at b4 d0 d1 d2
      have HXq := hid hXq
      have hrw0 : wr.ownsRow 0 84 1 (.slice ah k ch) k hs := by
        have := HS.out.hrow
        simp only [List.length_replicate] at this
        exact this
      have HOc : Hid (∀ w1, Keep (fun q => (Value.slice ah k ch).ownBlock = some q) wr w1 → PW w1 w1.heap.size ad a1 a2 a3 c1 c2 c3 P) := hid fun w1 kk => ((HPA.out.ext Hx.out).keep kk fun b hb hx => HS.out.hf b hx hb).pw
      clear hXq
      generalize hO : P.objectsV = OO at *
      generalize P.nodesV = NN at *
      go_wp2
      refine wp_flowT (fun q => (Value.slice ah k ch).ownBlock = some q) (by kernel_rfl) (by kernel_rfl) ?_
      repeat (apply FlowT.d; (intro w1 hk; unfold does; go_simp; (try go_ints); (first | exact DetR.mk | (simp only [↓IntWalk.iteOmega, Oper.doesUpon_value]; exact DetR.mk) | (simp only [↓IntWalk.iteOmega]; go_simp; (try go_ints); exact DetR.mk))); simp only [Act.put, List.setIfInBounds_toArray, List.set_cons_zero, List.set_cons_succ])
      apply FlowT.d
      · intro w1 hk
        unfold does
        go_simp
        exact CallR.det ((HOb w1 (HOc.out w1 hk)).out)
      simp only [Act.put, List.setIfInBounds_toArray, List.set_cons_zero, List.set_cons_succ]
      refine FlowT.s (fun v' w' => ∃ q, v' = .slice (some ⟨q, 0, none⟩) OO OO ∧ TrRow 0 w' (.slice (some ⟨q, 0, none⟩) OO OO) (List.replicate OO false) ∧ wr.heap.size ≤ q ∧ Ext wr w') 7 rfl (by kernel_rfl) (fun _ _ _ ⟨q, h1, h2, h3, h4⟩ he => ⟨q, h1, own_ext h2 he, h3, h4.trans he⟩) (fun w4 hC hk => ?_) ?_
      · have hm := hmt w4
        have hr := trRow_new w4 (List.replicate OO false) (by rw [List.length_replicate]; omega)
        rw [List.length_replicate] at hr
        unfold does
        go_simp
        exact ⟨hk.alloc _, _, rfl, own_low hr (Nat.zero_le _), hC.size, hC.alloc _⟩
      rintro _ ⟨_, q7, rfl, _, _, _⟩
      simp only [Act.put, List.setIfInBounds_toArray, List.set_cons_zero, List.set_cons_succ]
      refine FlowT.s (fun v' w' => ∃ q, v' = .slice (some ⟨q, 0, none⟩) 1 1 ∧ Blk w' q #[.slice (some ⟨q7, 0, none⟩) OO OO] 84 ∧ TrRow 0 w' (.slice (some ⟨q7, 0, none⟩) OO OO) (List.replicate OO false) ∧ wr.heap.size ≤ q7 ∧ Ext wr w') 8 rfl (by kernel_rfl) (fun _ _ _ ⟨q, h0, h1, h2, h3, h4⟩ he => ⟨q, h0, h1.ext he, own_ext h2 he, h3, h4.trans he⟩) (fun w4 hC hk => ?_) ?_
      · obtain ⟨q', e, hT, hq, hE⟩ := hC
        obtain rfl : q7 = q' := by simpa using e
        have Hq := hid hq
        clear hq e
        unfold does
        go_simp
        exact ⟨hk.alloc _, _, rfl, Blk.new _ _ _, own_ext hT ((Ext.refl _).alloc _), hE.alloc _⟩
      rintro _ ⟨_, q8, rfl, _, _, _, _⟩
      simp only [Act.put, List.setIfInBounds_toArray, List.set_cons_zero, List.set_cons_succ]
      refine FlowT.s (fun v' w' => (∃ a c, v' = .slice a (k + 1) c) ∧ w'.ownsRow 0 84 1 v' (k + 1) (hs ++ [.slice (some ⟨q7, 0, none⟩) OO OO]) ∧ (∀ b, v'.ownBlock = some b → (Value.slice ah k ch).ownBlock = some b ∨ wr.heap.size ≤ b) ∧ wr.heap.size ≤ q7 ∧ ∃ w0, Ext wr w0 ∧ TrRow 0 w0 (.slice (some ⟨q7, 0, none⟩) OO OO) (List.replicate OO false) ∧ Keep (fun q => (Value.slice ah k ch).ownBlock = some q) w0 w') 9 rfl (by kernel_rfl) (fun _ _ _ ⟨h1, h2, h3, h4, w0, h5, h6, h7⟩ he => ⟨h1, own_ext h2 he, h3, h4, w0, h5, h6, h7.ext_r he⟩) (fun w4 hC hk => ?_) ?_
      · obtain ⟨q', e, hg, hT, hq, hE⟩ := hC
        obtain rfl : q8 = q' := by simpa using e
        exact does_append_el 0 (Nat.zero_le _) 80 84 (.slice none 0 0) 1 24 Tryz.underlying80 matrix_info rfl (by omega) (by omega) rfl _ _ rfl _ _ _ rfl (own_ext hrw0 hE) q8 [.slice (some ⟨q7, 0, none⟩) OO OO] rfl (by simp [Value.oneCell']) rfl hg (by omega) fun v' w' h1 h2 h3 => ⟨hk.trans h2, row_form h1, h1, fun b hb => by
          rcases h3 with k | k
          · exact .inl (k ▸ hb)
          · rw [k] at hb
            obtain rfl := Option.some.inj hb
            exact .inr hE.size, hq, w4, hE, hT, h2⟩
      rintro _ ⟨_, ⟨a9, c9, rfl⟩, _, _, _⟩
      simp only [Act.put, List.setIfInBounds_toArray, List.set_cons_zero, List.set_cons_succ]
      repeat (apply FlowT.d; (intro w1 hk; unfold does; go_simp; (try go_ints); (first | exact DetR.mk | (simp only [↓IntWalk.iteOmega, Oper.doesUpon_value]; exact DetR.mk) | (simp only [↓IntWalk.iteOmega]; go_simp; (try go_ints); exact DetR.mk))); simp only [Act.put, List.setIfInBounds_toArray, List.set_cons_zero, List.set_cons_succ])
      refine FlowT.last (fun _ w' => SolvB w' (fun b => b < n2) (fun b => b < n2) (n2 + 2) ad b1 b2 b3 e1 e2 e3 P (.slice none 0 0) [] (.slice a9 (k + 1) c9) (hs ++ [.slice (some ⟨q7, 0, none⟩) OO OO]) n2 (n2 + 1) (fun _ => none) (.slice none 0 0) ⟨List.replicate (k + 1) (List.replicate OO false), [], [], []⟩ ∧ Ext w2 w') 12 rfl (by kernel_rfl) (by kernel_rfl) (fun w5 hC hk => ?_) (fun _ w7 hR => ?_)
      · obtain ⟨_, hrw, hob, hq, w0, x0, hT, k0⟩ := hC
        have q8 := b4 w5 hk
        have f8 := (HS.out.blk.keep hk fun hb => HXq.out _ _ hb (by decide) _ HS.out.blk).free 4
        unfold does
        go_simp
        refine ⟨?_, ?_⟩
        · have := HS.out.pushHas x0 hT (fun b hb => by cases hb; exact hq) k0 (vh' := .slice a9 (k + 1) c9) (by simp only [List.length_replicate]; exact hrw) hob
          rw [← List.replicate_succ'] at this
          exact this
        · refine Keep.new Hx.out ((hk.mono (Y := fun q => q = n2 + 2 ∨ (Value.slice ah k ch).ownBlock = some q) fun _ _ h => .inr h).set (.inl rfl) _) fun b hb => ?_
          rcases hb with rfl | hb
          · rw [← Hn2.out]; omega
          · have := HS.out.hf b hb
            rw [← Hn2.out]
            exact Nat.le_of_not_lt this
      simp only [Act.put]
      obtain ⟨hS7, hx7⟩ := hR
      have HS7 := hid hS7
      have Hx7 := hid hx7
      clear hS7 hx7 b4 d0 d1 d2 HXq HOc
      go_wp2
      go_roundw
      case rel => exact ⟨k + 1, _, _, by go_num, by omega, HS7.out, Hx7.out⟩
      case measure => simp [intOf]; omega
    · obtain rfl : k = P.nodesV := by omega
      have HSz : Hid (SolvAt wr (fun b => b < n2) (fun b => b < n2) (n2 + 2) ad P (.slice none 0 0) [] (.slice ah P.nodesV ch) hs (SV.zero P)) := hid ⟨_, _, _, _, _, _, _, _, _, _, HS.out⟩
      have HOz : Hid (SolvOk P S (SV.zero P)) := hid ⟨Full.zero P S, ⟨List.nodup_nil, Nat.zero_le _, Nat.zero_le _⟩⟩
      generalize hvh : Value.slice ah P.nodesV ch = vh at *
      clear HS hk hlt HOb HPA hmt hvh
      have hxs := Hx
      go_wp2
      go_loopw [42] (fun t42 wr => ∃ (k : Nat) (vr : Value), t42 = .int .i64 (k : Int) ∧ k ≤ P.stmts.length ∧ SolvAt wr (fun b => b < n2) (fun b => b < n2) (n2 + 2) ad P vr (rs.take k) vh hs ((P.rulesV.take k).foldl (SV.add P) (SV.zero P)) ∧ SolvOk P S ((P.rulesV.take k).foldl (SV.add P) (SV.zero P)) ∧ Ext w2 wr) (fun t42 _ => P.stmts.length - (intOf t42).toNat)
      case atStart => exact ⟨0, _, rfl, Nat.zero_le _, HSz.out, HOz.out, Hx.out⟩
      case round =>
        clear HSz HOz Hx hxs
        obtain ⟨k, vr, rfl, hk, hS, hO, hx⟩ := hrel
        have HS := hid hS
        have HO := hid hO
        have Hx := hid hx
        clear hS hO hx
        by_cases hlt : k < P.stmts.length
        · obtain ⟨gr, cr, hge⟩ := own_some HI.out.row (by rw [show P.rulesV.length = P.stmts.length from P.rulesUp_len _]; omega)
          simp only [Value.slice.injEq] at hge
          obtain ⟨rfl, -, rfl⟩ := hge
          obtain ⟨x, hxk, hxr⟩ := rules_at HI.out.eq hlt
          have hrow := own_ext HI.out.row (Hx12.out.trans Hx.out)
          rw [show P.rulesV.length = P.stmts.length from P.rulesUp_len _] at hrow
          obtain ⟨q0, q1, q2, q3, q4⟩ := own_r hrow hxk
          have hT := HI.out.args x (List.mem_of_getElem? hxk)
          obtain ⟨aa, ca, hav⟩ := hT.form
          have hxk' := hxk
          obtain ⟨r, xv⟩ := x
          simp only at hav hxr q0 q1 q2 q3 q4 hT
          subst hav
          have hrk : P.rulesV[k]? = some r := by rw [← HI.out.eq, List.getElem?_map, hxk]; rfl
          have hrm : r ∈ P.rulesV := List.mem_of_getElem? hrk
          obtain ⟨T, hTd⟩ : ∃ T, T = (P.rulesV.take k).foldl (SV.add P) (SV.zero P) := ⟨_, rfl⟩
          have hTr : T.rules.length = k := by
            rw [hTd, (adds_fold Hg.out Hc.out (P.rulesV.take k) (Full.zero P S) fun q hq => List.mem_of_mem_take hq).2.2]
            show ([] ++ P.rulesV.take k).length = k
            rw [List.nil_append, List.length_take, show P.rulesV.length = P.stmts.length from P.rulesUp_len _]
            omega
          have Hnx : Hid ((P.rulesV.take (k + 1)).foldl (SV.add P) (SV.zero P) = T.add P r) := hid (by rw [List.take_add_one, hrk, List.foldl_append, hTd]; rfl)
          have Htk : Hid (rs.take (k + 1) = rs.take k ++ [⟨r, .slice aa r.args.length ca⟩]) := hid (by rw [List.take_add_one, hxk]; rfl)
          rw [← hTd] at HS HO
          obtain ⟨V, hV⟩ : ∃ V, V = wr.alloc (.cells #[.string r.kind, .int .i64 r.a, .int .i64 r.b, .int .i64 r.k, .slice aa r.args.length ca] 86) := ⟨_, rfl⟩
          have hxV : Ext wr V := by rw [hV]; exact (Ext.refl _).alloc _
          have HVe := hid hV
          have HxV := hid (Hx.out.trans hxV)
          have HU := hid (solverule_any P S T r aa ca V (fun b => b < n2) (fun b => b < n2) (n2 + 2) ad (HS.out.ext hxV) HO.out Hg.out Hc.out hrm (by omega) (IntsF.ofR (hT.1.old ((Hx12.out.trans HxV.out).old _)) fun b hb => by have := Hx12.out.size; rw [← Hn2.out] at this; exact Nat.lt_of_lt_of_le hb this))
          have HOk := hid (HO.out.add Hg.out Hc.out hrm (by omega))
          unfold RV.val at HU
          have hal : (r.args.length : Int) ≤ 9223372036854775807 := hT.1.len
          clear hrow hxk hT hrk hrm hTd hTr hV hxV hxk' hxr
          go_wp2_with fail
          rw [← HVe.out]
          refine HU.out.mono ?_
          intro z w8 hx
          obtain ⟨rfl, ⟨vr', hS8⟩, hK8⟩ := hx
          have HS8 := hid hS8
          have HX8 : Hid (Ext w2 w8) := hid (Keep.new HxV.out hK8 fun b hb => by rw [← Hn2.out]; exact Nat.le_of_not_lt hb)
          clear HU hS8 hK8 q0 q1 q2 q3 q4
          go_wp2
          go_roundw
          case rel =>
            refine ⟨k + 1, vr', by go_num, by omega, ?_, ?_, HX8.out⟩
            · rw [Hnx.out, Htk.out]; exact HS8.out
            · rw [Hnx.out]; exact HOk.out
          case measure => simp [intOf]; omega
        · obtain rfl : k = P.stmts.length := by omega
          rw [List.take_of_length_le (show P.rulesV.length ≤ P.stmts.length by rw [show P.rulesV.length = P.stmts.length from P.rulesUp_len _]; exact Nat.le_refl _)] at HS
          have Hlt : Hid (∀ b, b < w.heap.size → b < n2) := hid fun b hb => by
            have := HX2.out.size
            rw [Hn2.out]; omega
          have HXx := hid (HX2.out.trans Hx.out)
          go_wp2
          go_ret2
          exact ⟨n2 + 2, _, _, _, _, _, _, rfl, Hlt.out, HS.out, HXx.out⟩
end Go.Proofs.YtdppgcbekhabnaaGreatDoor



/- Are two lists of numbers one (slices.Equal); are two lists of lists (slices.EqualFunc, fix.same); two sets joined (fix.join). -/
namespace Go.Proofs.YtdppgcbekhabnaaGreatDoor
set_option linter.unusedSimpArgs false
set_option linter.unusedVariables false
open Go Go.RowKit

theorem ext_take {α : Type} {a b : List α} (hl : a.length = b.length) (h : ∀ j, j < a.length → a[j]? = b[j]?) : a = b :=
  List.ext_getElem? fun i => by
    by_cases hi : i < a.length
    · exact h i hi
    · rw [List.getElem?_eq_none (by omega), List.getElem?_eq_none (by omega)]
set_option maxRecDepth 100000 in
set_option maxHeartbeats 1600000 in
theorem equali_any (va vb : Value) (a b : List Int) (w : World) (n0 : Nat) (ha : IntsR w n0 va a) (hb : IntsR w n0 vb b) :
    Calls Tryz.prog 89 #[va, vb] w fun e w' => e = .returned (.bool (decide (a = b))) ∧ Ext w w' := by
  have hal := ha.len
  have hbl := hb.len
  have HA := hid ha
  have HB := hid hb
  obtain ⟨aa, ca, rfl, _⟩ := ha
  obtain ⟨ab, cb, rfl, _⟩ := hb
  by_cases hl : a.length = b.length
  · have Hl := hid hl
    have e0 : ((a.length : Int) != (b.length : Int)) = false := by rw [hl]; simp
    clear hl
    go_enter Tryz.func89, Tryz.ntmps89
    go_wp2
    clear e0
    go_loopw [13] (fun t13 wr => ∃ k : Nat, t13 = .int .i64 (k : Int) ∧ k ≤ a.length ∧ (∀ j, j < k → a[j]? = b[j]?) ∧ Ext w wr) (fun t13 _ => a.length - (intOf t13).toNat)
    case atStart => exact ⟨0, rfl, Nat.zero_le _, fun j h => by omega, Ext.refl _⟩
    case round =>
      obtain ⟨k, rfl, hk, hp, hx⟩ := hrel
      have Hp := hid hp
      have Hx := hid hx
      clear hp hx
      by_cases hlt : k < a.length
      · have hlt2 : k < b.length := by rw [← Hl.out]; exact hlt
        obtain ⟨ya, p, hya, hpk, hcp⟩ := (HA.out.old (Hx.out.old n0)).at hlt
        subst hya
        obtain ⟨yb, q, hyb, hqk, hcq⟩ := (HB.out.old (Hx.out.old n0)).at hlt2
        subst hyb
        have c0 : ∀ w1, Keep (fun _ => False) wr w1 → w1.cell? (ya.add k) = some (.int .i64 p) := fun w1 k => k.ext.cellx hcp
        have c1 : ∀ w1, Keep (fun _ => False) wr w1 → w1.cell? (yb.add k) = some (.int .i64 q) := fun w1 k => k.ext.cellx hcq
        have Hpk := hid hpk
        have Hqk := hid hqk
        clear hpk hqk hcp hcq
        by_cases hpq : p = q
        · subst hpq
          go_wp2
          refine wp_flowT (fun _ => False) (by kernel_rfl) (by kernel_rfl) ?_
          repeat (apply FlowT.d; (intro w1 hk; unfold does; go_simp; (try go_ints); (first | exact DetR.mk | (simp only [↓IntWalk.iteOmega, Oper.doesUpon_value]; exact DetR.mk) | (simp only [↓IntWalk.iteOmega]; go_simp; (try go_ints); exact DetR.mk))); simp only [Act.put, List.setIfInBounds_toArray, List.set_cons_zero, List.set_cons_succ])
          refine FlowT.fin fun w1 hx1 hk1 => ?_
          have Hx1 := hid (Hx.out.trans hx1)
          clear hx1 hk1 c0 c1
          go_wp2
          go_roundw
          case rel =>
            refine ⟨k + 1, by go_num, by omega, fun j hj => ?_, Hx1.out⟩
            by_cases hjk : j = k
            · subst hjk; exact Hpk.out.trans Hqk.out.symm
            · exact Hp.out j (by omega)
          case measure => simp [intOf]; omega
        · have hpq' : (p != q) = true := bne_iff_ne.2 hpq
          have Hne : Hid (decide (a = b) = false) := hid (decide_eq_false fun h => hpq (by
            have h1 := Hpk.out
            rw [h] at h1
            exact Option.some.inj (h1.symm.trans Hqk.out)))
          clear hpq
          go_wp2
          refine wp_flowT (fun _ => False) (by kernel_rfl) (by kernel_rfl) ?_
          repeat (apply FlowT.d; (intro w1 hk; unfold does; go_simp; (try go_ints); (first | exact DetR.mk | (simp only [↓IntWalk.iteOmega, Oper.doesUpon_value]; exact DetR.mk) | (simp only [↓IntWalk.iteOmega]; go_simp; (try go_ints); exact DetR.mk))); simp only [Act.put, List.setIfInBounds_toArray, List.set_cons_zero, List.set_cons_succ])
          refine FlowT.fin fun w1 hx1 hk1 => ?_
          have Hx1 := hid (Hx.out.trans hx1)
          clear hx1 hk1 c0 c1
          go_wp2
          go_ret
          exact ⟨by rw [Hne.out]; rfl, Hx1.out⟩
      · have Heq : Hid (decide (a = b) = true) := hid (decide_eq_true (ext_take Hl.out fun j hj => Hp.out j (by omega)))
        obtain rfl : k = a.length := by omega
        go_wp2
        go_ret
        exact ⟨by rw [Heq.out]; rfl, Hx.out⟩
  · have e0 : ((a.length : Int) != (b.length : Int)) = true := bne_iff_ne.2 (fun h => hl (Int.ofNat_inj.1 h))
    have Hne : Hid (decide (a = b) = false) := hid (decide_eq_false fun h => hl (by rw [h]))
    clear hl
    go_enter Tryz.func89, Tryz.ntmps89
    go_wp2
    go_ret
    exact ⟨by rw [Hne.out]; rfl, Ext.refl _⟩
set_option maxRecDepth 100000 in
set_option maxHeartbeats 1600000 in
theorem equalfs_any (va vb : Value) (A B : List (List Int)) (w : World) (n0 : Nat) (ha : SetsR w n0 va A) (hb : SetsR w n0 vb B) :
    Calls Tryz.prog 88 #[va, vb, .func (.func 89) #[] #[]] w fun e w' => e = .returned (.bool (decide (A = B))) ∧ Ext w w' := by
  have hal := ha.len
  have hbl := hb.len
  have HA := hid ha
  have HB := hid hb
  obtain ⟨aa, ca, rfl⟩ := ha.form
  obtain ⟨ab, cb, rfl⟩ := hb.form
  clear ha hb
  by_cases hl : A.length = B.length
  · have Hl := hid hl
    have e0 : ((A.length : Int) != (B.length : Int)) = false := by rw [hl]; simp
    clear hl
    go_enter Tryz.func88, Tryz.ntmps88
    go_wp2
    clear e0
    go_loopw [17] (fun t17 wr => ∃ k : Nat, t17 = .int .i64 (k : Int) ∧ k ≤ A.length ∧ (∀ j, j < k → A[j]? = B[j]?) ∧ Ext w wr) (fun t17 _ => A.length - (intOf t17).toNat)
    case atStart => exact ⟨0, rfl, Nat.zero_le _, fun j h => by omega, Ext.refl _⟩
    case round =>
      obtain ⟨k, rfl, hk, hp, hx⟩ := hrel
      have Hp := hid hp
      have Hx := hid hx
      clear hp hx
      by_cases hlt : k < A.length
      · have hlt2 : k < B.length := by rw [← Hl.out]; exact hlt
        obtain ⟨ya, l, bl, cl, hya, hpk, hcp, hI⟩ := (HA.out.ext Hx.out).at hlt
        subst hya
        obtain ⟨yb, m, bm, cm, hyb, hqk, hcq, hI'⟩ := (HB.out.ext Hx.out).at hlt2
        subst hyb
        have HC := hid (equali_any (.slice bl l.length cl) (.slice bm m.length cm) l m wr n0 hI hI')
        obtain ⟨d, hd⟩ : ∃ d, d = decide (l = m) := ⟨_, rfl⟩
        rw [← hd] at HC
        have Hd := hid hd
        have Hpk := hid hpk
        have Hqk := hid hqk
        clear hpk hqk hI hI' hd
        go_wp2_with fail
        refine HC.out.mono ?_
        intro e w1 hx
        obtain ⟨rfl, hx1⟩ := hx
        have Hx1 := hid (Hx.out.trans hx1)
        clear HC hx1 hcp hcq
        cases d with
        | true =>
          have He : Hid (l = m) := hid (of_decide_eq_true Hd.out.symm)
          go_wp2
          go_roundw
          case rel =>
            refine ⟨k + 1, by go_num, by omega, fun j hj => ?_, Hx1.out⟩
            by_cases hjk : j = k
            · subst hjk; rw [Hpk.out, Hqk.out, He.out]
            · exact Hp.out j (by omega)
          case measure => simp [intOf]; omega
        | false =>
          have Hne : Hid (decide (A = B) = false) := hid (decide_eq_false fun h => (of_decide_eq_false Hd.out.symm) (by
            have h1 := Hpk.out
            rw [h] at h1
            exact Option.some.inj (h1.symm.trans Hqk.out)))
          go_wp2
          go_ret
          exact ⟨by rw [Hne.out]; rfl, Hx1.out⟩
      · have Heq : Hid (decide (A = B) = true) := hid (decide_eq_true (ext_take Hl.out fun j hj => Hp.out j (by omega)))
        obtain rfl : k = A.length := by omega
        go_wp2
        go_ret
        exact ⟨by rw [Heq.out]; rfl, Hx.out⟩
  · have e0 : ((A.length : Int) != (B.length : Int)) = true := bne_iff_ne.2 (fun h => hl (Int.ofNat_inj.1 h))
    have Hne : Hid (decide (A = B) = false) := hid (decide_eq_false fun h => hl (by rw [h]))
    clear hl
    go_enter Tryz.func88, Tryz.ntmps88
    go_wp2
    go_ret
    exact ⟨by rw [Hne.out]; rfl, Ext.refl _⟩
theorem fixsame_any (va vb : Value) (A B : List (List Int)) (w : World) (n0 : Nat) (ha : SetsR w n0 va A) (hb : SetsR w n0 vb B) :
    Calls Tryz.prog 59 #[va, vb] w fun e w' => e = .returned (.bool (decide (A = B))) ∧ Ext w w' := by
  have HC := hid (equalfs_any va vb A B w n0 ha hb)
  obtain ⟨aa, ca, rfl⟩ := ha.form
  obtain ⟨ab, cb, rfl⟩ := hb.form
  generalize decide (A = B) = d at *
  clear ha hb
  go_enter Tryz.func59, Tryz.ntmps59
  go_wp2_with fail
  refine HC.out.mono ?_
  intro e w1 hx
  obtain ⟨rfl, hx1⟩ := hx
  have Hx1 := hid hx1
  clear HC hx1
  go_wp2
  go_ret
  exact ⟨rfl, Hx1.out⟩
set_option maxRecDepth 100000 in
set_option maxHeartbeats 800000 in
theorem fixjoin_any (va vb : Value) (a b : List Int) (w : World) (n0 : Nat) (ad : Nat → Addr) (hE : ErrS w ad) (ha : IntsR w n0 va a) (hb : IntsR w n0 vb b) (ka : chkE a = 0) (kb : chkE b = 0) :
    Calls Tryz.prog 87 #[va, vb] w fun e w' => ∃ v, e = .returned v ∧ (∃ x c, v = .slice x (sset (a ++ b)).length c) ∧ IntsT w' v (sset (a ++ b)) ∧ Ext w w' := by
  have HU := hid (setunion_any va vb a b w n0 ad hE ha hb (by have := srt_few ka; omega) (by have := srt_few kb; omega))
  have Hk := hid (bothE_zero.2 ⟨ka, kb⟩)
  obtain ⟨aa, ca, rfl, _⟩ := ha
  obtain ⟨ab, cb, rfl, _⟩ := hb
  obtain ⟨l, hl⟩ : ∃ l, l = sset (a ++ b) := ⟨_, rfl⟩
  rw [← hl] at HU ⊢
  clear hE ka kb hl
  go_enter Tryz.func87, Tryz.ntmps87
  go_wp2_with fail
  refine HU.out.mono ?_
  intro e w1 hx
  obtain ⟨t, rfl, ht, hx1⟩ := hx
  obtain ⟨v, rfl, hrow⟩ : ∃ v, t = .tuple #[v, .nilIface] ∧ IRow w.heap.size w1 v l := by
    rcases ht with ⟨_, v, h1, h2⟩ | ⟨h, _⟩
    · exact ⟨v, h1, h2⟩
    · exact absurd Hk.out h
  obtain ⟨av, cv, rfl⟩ := hrow.form
  have Hr := hid (IntsT.row hrow)
  have Hx1 := hid hx1
  clear HU ht hrow hx1
  go_wp2
  go_ret
  exact ⟨_, rfl, ⟨_, _, rfl⟩, Hr.out, Hx1.out⟩
end Go.Proofs.YtdppgcbekhabnaaGreatDoor

