/- Texts of one proof, put together: TA. -/
import Derived.Test.YtohfdecefikinaaGreatDoorZCT21

/- ConsTells: the law where the program is well. -/
namespace Go.Proofs.YtohfdecefikinaaGreatDoor
set_option linter.unusedSimpArgs false
set_option linter.unusedVariables false
open Go Go.RowKit

theorem getD_few {l : List Int} (h : ∀ x ∈ l, x ≤ 9223372036854775807) (i : Nat) : l.getD i 0 ≤ 9223372036854775807 := by
  rw [List.getD_eq_getElem?_getD]
  cases hx : l[i]? with
  | none => exact (by decide : (0 : Int) ≤ 9223372036854775807)
  | some x => exact h x (List.mem_of_getElem? hx)
theorem rule_args_few {P : PP} (hw : P.Well) {k : Nat} (hk : k < P.stmts.length) : ∀ x ∈ (P.ruleV k (P.stAt k)).args, x ≤ 9223372036854775807 := by
  have h0 := hw.2 k (P.stAt k) hk (stAt_some hk)
  have hg := PP.good h0
  have hf := hw.few
  have key : ∀ x ∈ (P.stAt k).args, x ≤ 9223372036854775807 := fun x hx => by have := hg.args x hx; omega
  unfold PP.ruleV
  cases (P.stAt k).isK kAddr
  · cases (P.stAt k).isK kNew
    · cases (P.stAt k).isK kFun
      · cases (P.stAt k).isK kCall
        · intro x hx; cases hx
        · exact key
      · intro x hx; cases hx
    · intro x hx; cases hx
  · intro x hx; cases hx
set_option maxRecDepth 100000 in
set_option maxHeartbeats 6400000 in
theorem constells_bad (a1 a2 a3 : Option Addr) (c1 c2 c3 : Nat) (P : PP) (hv : Value) (has : List (List Int)) (w : World) (ad : Nat → Addr) (hE : ErrsP w ad) (hA : AllErrs w ad) (hS : ErrS w ad) (hP : ProgR w w.heap.size (.slice a1 P.vars.length c1) (.slice a2 P.funs.length c2) (.slice a3 P.stmts.length c3) P) (hh : SetsR w w.heap.size hv has) (hw : P.Well) (hbad : ¬ (has.length = P.nodesV ∧ ∀ l ∈ has, P.setE l = 0)) :
    Calls Tryz.prog 3 #[pval a1 a2 a3 c1 c2 c3 P, hv] w fun e w' => e = .returned (.bool true) ∧ Ext w w' := by
  have Hbad := hid hbad
  clear hbad
  have Hw := hid hw
  clear hw
  have HAA := hid hA
  clear hA
  obtain ⟨ah, ch, rfl⟩ := hh.form
  have hhl := hh.len
  have HE := hid hE
  have HS := hid hS
  have HP := hid hP
  have HH := hid hh
  obtain ⟨W1, hW1⟩ : ∃ W1, W1 = w.alloc (.cells (pcells a1 a2 a3 c1 c2 c3 P) 26) := ⟨_, rfl⟩
  have HX1 : Hid (Ext w W1) := hid (by rw [hW1]; exact (Ext.refl _).alloc _)
  have HB1 : Hid (Blk W1 w.heap.size (pcells a1 a2 a3 c1 c2 c3 P) 26) := hid (by rw [hW1]; exact Blk.new _ _ _)
  have HR := hid (ruled_any W1 ad (hE.ext HX1.out) (hS.ext HX1.out))
  have HW1 : Hid (W1 = w.alloc (.cells #[.slice a1 P.vars.length c1, .slice a2 P.funs.length c2, .slice a3 P.stmts.length c3] 26)) := hid (by rw [hW1]; rfl)
  unfold pval
  clear hE hS hP hh hW1
  go_enter Tryz.func3, Tryz.ntmps3
  go_wp2_with fail
  rw [← HW1.out]
  refine HR.out.mono ?_
  intro e w1 hx
  obtain ⟨rfl, hx1⟩ := hx
  have HL := hid (large_any a1 a2 a3 c1 c2 c3 P w1 w.heap.size (HP.out.ext (HX1.out.trans hx1)))
  unfold pval at HL
  have HX1' := hid (HX1.out.trans hx1)
  have HBp1 := hid (HB1.out.ext hx1)
  have p0 := HBp1.out.av 0 rfl
  have p1 := HBp1.out.av 1 rfl
  have p2 := HBp1.out.av 2 rfl
  simp only [pcells, List.getElem_toArray, List.getElem_cons_zero, List.getElem_cons_succ] at p0 p1 p2
  clear HR hx1
  go_wp2_with fail
  refine HL.out.mono ?_
  intro e w2 hx
  obtain ⟨r, rfl, hr, hsm, hx2⟩ := hx
  have HX2 := hid (HX1'.out.trans hx2)
  have HBp := hid (HBp1.out.ext hx2)
  clear HL hx2 p0 p1 p2
  rcases (by omega : r = 1 ∨ r = 0) with rfl | rfl
  · clear hsm hr
    go_wp2
    go_ret
    exact ⟨rfl, HX2.out⟩
  have HSm := hid (hsm rfl)
  clear hsm hr
  have HL := hid (largesets_any (.slice ah has.length ch) has w2 w.heap.size (HH.out.ext HX2.out))
  go_wp2_with fail
  refine HL.out.mono ?_
  intro e w2' hx
  obtain ⟨r, rfl, hr, hsm, hx2⟩ := hx
  have HX2' := hid (HX2.out.trans hx2)
  have HBp' := hid (HBp.out.ext hx2)
  clear HL hx2
  rcases (by omega : r = 1 ∨ r = 0) with rfl | rfl
  · clear hsm hr
    go_wp2
    go_ret
    exact ⟨rfl, HX2'.out⟩
  have HFew := hid (hsm rfl)
  clear hsm hr
  have hz1 : ∀ s ∈ P.vars, s.size ≤ 1000000 := fun s hs => by have := HSm.out.vs s hs; omega
  have hz2 : ∀ s ∈ P.names, s.size ≤ 1000000 := fun s hs => by
    obtain ⟨f, hf, rfl⟩ := List.mem_map.1 hs
    have := (HSm.out.fs f hf).1
    omega
  have Hz1 := hid hz1
  have Hz2 := hid hz2
  have HPS := hid (show PS0 w2' w2'.heap.size ad a1 a2 a3 c1 c2 c3 P from ⟨HE.out.ext HX2'.out, (HP.out.ext HX2'.out).lift HX2'.out.size, Hz1.out, Hz2.out⟩)
  clear hz1 hz2
  have HX3p := hid HX2'.out
  have HQ := hid (ownprogram_any a1 a2 a3 c1 c2 c3 P w2' HPS.out.prog HSm.out)
  have p0 := HBp'.out.av 0 rfl
  have p1 := HBp'.out.av 1 rfl
  have p2 := HBp'.out.av 2 rfl
  simp only [pcells, List.getElem_toArray, List.getElem_cons_zero, List.getElem_cons_succ] at p0 p1 p2
  unfold pval at HQ
  go_wp2_with fail
  refine HQ.out.mono ?_
  intro e w3 hx
  obtain ⟨hx3, b1, b2, b3, d1, d2, d3, rfl, hq⟩ := hx
  have HX3 := hid (HX3p.out.trans hx3)
  have Hx3 := hid hx3
  have Hq3 := hid hq
  clear HQ hx3 hq p0 p1 p2
  obtain ⟨W9, hW9⟩ : ∃ W9, W9 = w3.alloc (.cells (pcells b1 b2 b3 d1 d2 d3 P) 26) := ⟨_, rfl⟩
  have hx9 : Ext w3 W9 := by rw [hW9]; exact (Ext.refl _).alloc _
  have HXw := hid (HX3.out.trans hx9)
  have Hw9 := hid (Hx3.out.trans hx9)
  have HB6 : Hid (Blk W9 w3.heap.size (pcells b1 b2 b3 d1 d2 d3 P) 26) := hid (by rw [hW9]; exact Blk.new _ _ _)
  have HW9 : Hid (W9 = w3.alloc (.cells #[.slice b1 P.vars.length d1, .slice b2 P.funs.length d2, .slice b3 P.stmts.length d3] 26)) := hid (by rw [hW9]; rfl)
  have HQ9 : PS0 W9 W9.heap.size ad b1 b2 b3 d1 d2 d3 P := ⟨HE.out.ext HXw.out, (Hq3.out.ext hx9).lift hx9.size, Hz1.out, Hz2.out⟩
  have HS9 := hid (HS.out.ext HXw.out)
  have HZ := hid (Ext.refl W9)
  have HOS := fun w1 (x : Ext W9 w1) => hid (ownsets_at (HH.out.ext HXw.out) HFew.out w1 x)
  clear hx9 hW9
  have HBp9 : Hid (Blk W9 w.heap.size (pcells a1 a2 a3 c1 c2 c3 P) 26) := hid (HBp'.out.ext Hw9.out)
  have HPP9 := hid (HPS.out.on (Nat.le_refl _) Hw9.out)
  have HA9 := hid (HAA.out.ext HXw.out)
  have HOw := HOS W9 (Ext.refl _)
  go_wp2_with fail
  rw [← HW9.out]
  refine HOw.out.mono ?_
  intro e w4 hx
  obtain ⟨ao, co, rfl, hso, hx4⟩ := hx
  have Hso := hid hso
  have HF := hid (rfprog_all a1 a2 a3 c1 c2 c3 P w4 (HPP9.out.on (Nat.le_refl _) hx4).prog Hz1.out Hz2.out)
  have Hx4 := hid hx4
  have p0 := (HBp9.out.ext hx4).av 0 rfl
  have p1 := (HBp9.out.ext hx4).av 1 rfl
  have p2 := (HBp9.out.ext hx4).av 2 rfl
  simp only [pcells, List.getElem_toArray, List.getElem_cons_zero, List.getElem_cons_succ] at p0 p1 p2
  unfold pval at HF
  clear HOw HOS hso hx4
  go_wp2_with fail
  refine HF.out.mono ?_
  intro e w5 hx
  obtain ⟨hx5, c, p, rfl, hfi⟩ := hx
  have Hfi := hid hfi
  obtain ⟨W6, hW6⟩ : ∃ W6, W6 = w5.alloc (.cells #[.int .i64 (c : Int), .int .i64 p] 34) := ⟨_, rfl⟩
  have hx6 : Ext w5 W6 := by rw [hW6]; exact (Ext.refl _).alloc _
  have HW6 := hid hW6
  have HX6 := hid ((Hx4.out.trans hx5).trans hx6)
  have Hx46 := hid (hx5.trans hx6)
  have Hx45 := hid hx5
  have HBf : Hid (Blk W6 w5.heap.size #[.int .i64 (c : Int), .int .i64 p] 34) := hid (by rw [hW6]; exact Blk.new _ _ _)
  have Hbf : Hid (W9.heap.size ≤ w5.heap.size) := hid (Hx4.out.trans hx5).size
  clear HF hfi hx5 hx6 hW6 p0 p1 p2
  obtain ⟨rfl, rfl⟩ := Hfi.out.uniq (show FaultIs P 0 (-1) from .inr (.inl ⟨Hw.out.1, Hw.out.2, rfl, rfl⟩))
  have HW6z : Hid (W6 = w5.alloc (.cells #[.int .i64 0, .int .i64 (-1)] 34)) := hid HW6.out
  have HBfz : Hid (Blk W6 w5.heap.size #[.int .i64 0, .int .i64 (-1)] 34) := hid HBf.out
  have HQ6 := HQ9.on (Nat.le_refl _) HX6.out
  have HO := hid (consof_yes b1 b2 b3 d1 d2 d3 P W6 W6.heap.size ad (HQ6.pw Hw.out))
  have hsl : P.stmts.length ≤ 81 := HSm.out.sl
  have HQ9h := hid HQ9
  have g0 := (HB6.out.ext HX6.out).av 0 rfl
  have g1 := (HB6.out.ext HX6.out).av 1 rfl
  have g2 := (HB6.out.ext HX6.out).av 2 rfl
  simp only [pcells, List.getElem_toArray, List.getElem_cons_zero, List.getElem_cons_succ] at g0 g1 g2
  rw [HW6z.out] at g0 g1 g2
  unfold pval at HO
  clear HQ6 HQ9 HW6 HBf
  go_wp2_with fail
  rw [← HW6z.out]
  refine HO.out.mono ?_
  intro e w7 hx
  obtain ⟨v, rs, rfl, hi, hx7⟩ := hx
  obtain ⟨av, cv, rfl⟩ := row_form hi.row
  rw [show P.rulesV.length = P.stmts.length from P.rulesUp_len _] at hi ⊢
  have HI := hid hi
  have HFa := hid (faulted1_any w7 .nilIface 0 (-1) fun w1 x => (code_nil w1).mono fun e w' ⟨h1, h2⟩ => ⟨h1, by rw [h2]; exact Ext.refl _⟩)
  have Hx7 := hid hx7
  have f0 := (HBfz.out.ext hx7).av 0 rfl
  have f1 := (HBfz.out.ext hx7).av 1 rfl
  simp only [List.getElem_toArray, List.getElem_cons_zero, List.getElem_cons_succ] at f0 f1
  clear HO hi hx7 g0 g1 g2
  go_wp2_with fail
  refine HFa.out.mono ?_
  intro e w8 hx
  obtain ⟨rfl, hx8⟩ := hx
  have Hx8 := hid (Hx7.out.trans hx8)
  have HI8 := hid (HI.out.ext hx8)
  clear HFa hx8 f0 f1 HI
  go_wp2
  go_loopw [11] (fun t11 wr => ∃ k : Nat, t11 = .int .i64 (k : Int) ∧ k ≤ P.stmts.length ∧ Ext w8 wr) (fun t11 _ => P.stmts.length - (intOf t11).toNat)
  case atStart => exact ⟨0, rfl, Nat.zero_le _, Ext.refl _⟩
  case round =>
    obtain ⟨k, rfl, hk, hx⟩ := hrel
    have Hx := hid hx
    have HxW := hid (Hx8.out.trans hx)
    have Hx96 := hid (HX6.out.trans (Hx8.out.trans hx))
    clear hx
    have p0 := (HBp9.out.ext Hx96.out).av 0 rfl
    have p1 := (HBp9.out.ext Hx96.out).av 1 rfl
    have p2 := (HBp9.out.ext Hx96.out).av 2 rfl
    simp only [pcells, List.getElem_toArray, List.getElem_cons_zero, List.getElem_cons_succ] at p0 p1 p2
    have f0 := (HBfz.out.ext HxW.out).av 0 rfl
    have f1 := (HBfz.out.ext HxW.out).av 1 rfl
    simp only [List.getElem_toArray, List.getElem_cons_zero, List.getElem_cons_succ] at f0 f1
    by_cases hlt : k < P.stmts.length
    · have HC := hid (rruleof_any a1 a2 a3 c1 c2 c3 P k _ (stAt_some hlt) wr wr.heap.size (HPP9.out.on (Nat.le_refl _) Hx96.out).prog Hw.out)
      obtain ⟨s1, s2, s3, s4, s5, s6⟩ := rule_same (Hw.out.2 k (P.stAt k) hlt (stAt_some hlt)) k
      have hfew := rule_args_few Hw.out hlt
      obtain ⟨x, hxk, hxr⟩ := rules_at HI8.out.eq hlt
      obtain ⟨g, cp, hge⟩ := own_some HI8.out.row (by rw [show P.rulesV.length = P.stmts.length from P.rulesUp_len _]; omega)
      simp only [Value.slice.injEq] at hge
      obtain ⟨rfl, -, rfl⟩ := hge
      have hrow := own_ext HI8.out.row Hx.out
      rw [show P.rulesV.length = P.stmts.length from P.rulesUp_len _] at hrow
      obtain ⟨q0, q1, q2, q3, q4⟩ := own_r hrow hxk
      have hT := HI8.out.args x (List.mem_of_getElem? hxk)
      obtain ⟨as_, cs, hav⟩ := hT.form
      obtain ⟨s, xv⟩ := x
      simp only at hav hxr q0 q1 q2 q3 q4 hT
      subst hav
      obtain ⟨r, hr⟩ : ∃ r, r = P.ruleR k (P.stAt k) := ⟨_, rfl⟩
      rw [← hr] at HC s1 s2 s3 s4 s6
      rw [← hxr] at s1 s2 s3 s5 s6 hfew
      have Hs1 := hid s1
      have Hs2 := hid s2
      have Hs3 := hid s3
      have Hs4 := hid s4
      have Hs5 := hid s5
      have Hs6 := hid s6
      have Hfew := hid hfew
      have HIs := hid (hT.1.old (Hx.out.old _))
      clear hr hxr hxk hrow hT s1 s2 s3 s4 s5 s6 hfew
      unfold pval at HC
      go_wp2_with fail
      refine HC.out.mono ?_
      intro e w2 hx
      obtain ⟨avr, rfl, hIr, hx2⟩ := hx
      obtain ⟨ar, cr, hav, _⟩ := id hIr
      subst hav
      unfold RV.val
      obtain ⟨V, hV⟩ : ∃ V, V = w2.alloc (.cells #[.string r.kind, .int .i64 r.a, .int .i64 r.b, .int .i64 r.k, .slice ar r.args.length cr] 44) := ⟨_, rfl⟩
      have hxV : Ext w2 V := by rw [hV]; exact (Ext.refl _).alloc _
      have HBr : Hid (Blk V w2.heap.size #[.string r.kind, .int .i64 r.a, .int .i64 r.b, .int .i64 r.k, .slice ar r.args.length cr] 44) := hid (by rw [hV]; exact Blk.new _ _ _)
      have HVe := hid hV
      have HrV := hid (hx2.trans hxV)
      have HxV := hid (Hx.out.trans (hx2.trans hxV))
      have m0 := HBr.out.kc (X := fun _ => False) (fun e => e) 0 rfl
      have m1 := HBr.out.kc (X := fun _ => False) (fun e => e) 1 rfl
      have m2 := HBr.out.kc (X := fun _ => False) (fun e => e) 2 rfl
      have m3 := HBr.out.kc (X := fun _ => False) (fun e => e) 3 rfl
      have m4 := HBr.out.kc (X := fun _ => False) (fun e => e) 4 rfl
      simp only [List.getElem_toArray, List.getElem_cons_zero, List.getElem_cons_succ] at m0 m1 m2 m3 m4
      rw [Hs2.out] at m1
      rw [Hs3.out] at m2
      have j0 : ∀ w1, Keep (fun _ => False) V w1 → w1.cell? ⟨g, k * 5, none⟩ = some (.string s.kind) := fun w1 k => (HrV.out.trans k.ext).cellx q0
      have j1 : ∀ w1, Keep (fun _ => False) V w1 → w1.cell? ⟨g, k * 5 + 1, none⟩ = some (.int .i64 s.a) := fun w1 k => (HrV.out.trans k.ext).cellx q1
      have j2 : ∀ w1, Keep (fun _ => False) V w1 → w1.cell? ⟨g, k * 5 + 2, none⟩ = some (.int .i64 s.b) := fun w1 k => (HrV.out.trans k.ext).cellx q2
      have j3 : ∀ w1, Keep (fun _ => False) V w1 → w1.cell? ⟨g, k * 5 + 3, none⟩ = some (.int .i64 s.k) := fun w1 k => (HrV.out.trans k.ext).cellx q3
      have j4 : ∀ w1, Keep (fun _ => False) V w1 → w1.cell? ⟨g, k * 5 + 4, none⟩ = some (.slice as_ s.args.length cs) := fun w1 k => (HrV.out.trans k.ext).cellx q4
      rw [Hs5.out] at j3
      have hkk : s.kind.toList = r.kind.toList := Hs1.out.symm
      have hsl2 : (s.args.length : Int) ≤ 9223372036854775807 := HIs.out.len
      have hrl2 : (r.args.length : Int) ≤ 9223372036854775807 := by rw [Hs6.out]; exact hsl2
      have HSa := fun w1 (x : Ext V w1) => hid (sameints_any as_ ar s.args.length r.args.length cs cr s.args r.args w1 (IntsR.ints (HIs.out.old ((HrV.out.trans x).old _)) (getD_few Hfew.out)) (IntsR.ints (hIr.old ((HrV.out.trans x).old _)) (getD_few (by rw [Hs6.out]; exact Hfew.out))) hsl2 hrl2)
      rw [decide_eq_true Hs6.out.symm] at HSa
      have p0 := (HBp9.out.ext (Hx96.out.trans HrV.out)).av 0 rfl
      have p1 := (HBp9.out.ext (Hx96.out.trans HrV.out)).av 1 rfl
      have p2 := (HBp9.out.ext (Hx96.out.trans HrV.out)).av 2 rfl
      simp only [pcells, List.getElem_toArray, List.getElem_cons_zero, List.getElem_cons_succ] at p0 p1 p2
      rw [HVe.out] at p0 p1 p2
      clear HC hIr hx2 hxV hV q0 q1 q2 q3 q4 f0 f1
      go_wp2
      rw [← HVe.out]
      refine wp_flowT (fun _ => False) (by kernel_rfl) (by kernel_rfl) ?_
      repeat (apply FlowT.d; (intro w1 hk; unfold does; go_simp; (try go_ints); (first | exact DetR.mk | (simp only [↓IntWalk.iteOmega, Oper.doesUpon_value]; exact DetR.mk) | (simp only [↓IntWalk.iteOmega]; go_simp; (try go_ints); exact DetR.mk))); simp only [Act.put, List.setIfInBounds_toArray, List.set_cons_zero, List.set_cons_succ])
      apply FlowT.d
      · intro w1 hk
        unfold does
        go_simp
        exact CallR.det ((HSa w1 hk.ext).out)
      simp only [Act.put, List.setIfInBounds_toArray, List.set_cons_zero, List.set_cons_succ]
      repeat (apply FlowT.d; (intro w1 hk; unfold does; go_simp; (try go_ints); (first | exact DetR.mk | (simp only [↓IntWalk.iteOmega, Oper.doesUpon_value]; exact DetR.mk) | (simp only [↓IntWalk.iteOmega]; go_simp; (try go_ints); exact DetR.mk))); simp only [Act.put, List.setIfInBounds_toArray, List.set_cons_zero, List.set_cons_succ])
      refine FlowT.fin fun w3 hx3 hk3 => ?_
      have Hx3 := hid (HxV.out.trans hx3)
      clear hx3 hk3 m0 m1 m2 m3 m4 j0 j1 j2 j3 j4 HSa p0 p1 p2 hkk
      go_wp2
      go_roundw
      case rel => exact ⟨k + 1, by go_num, by omega, Hx3.out⟩
      case measure => simp [intOf]; omega
    · obtain rfl : k = P.stmts.length := by omega
      have HSf := hid (rsetsfault_any a1 a2 a3 c1 c2 c3 P (.slice ah has.length ch) has wr wr.heap.size (HPP9.out.on (Nat.le_refl _) Hx96.out).prog Hw.out ((HH.out.ext (HXw.out.trans Hx96.out)).lift (HXw.out.trans Hx96.out).size))
      unfold pval at HSf
      go_wp2_with fail
      refine HSf.out.mono ?_
      intro e w9 hx
      obtain ⟨c, p, rfl, hfi, hx9⟩ := hx
      have Hfi2 := hid hfi
      have Hx49 := hid (Hx46.out.trans (HxW.out.trans hx9))
      have HxW9 := HxW.out.trans hx9
      have z0 := (HBfz.out.ext HxW9).av 0 rfl
      have z1 := (HBfz.out.ext HxW9).av 1 rfl
      have y0 := (HBfz.out.ext HxW9).free 0
      have y1 := (HBfz.out.ext HxW9).free 1
      simp only [List.getElem_toArray, List.getElem_cons_zero, List.getElem_cons_succ] at z0 z1
      obtain ⟨wS, hwS⟩ : ∃ wS, wS = (w9.setCell ⟨w5.heap.size, 0, none⟩ (.int .i64 (c : Int))).setCell ⟨w5.heap.size, 1, none⟩ (.int .i64 p) := ⟨_, rfl⟩
      have HBf : Hid (Blk wS w5.heap.size #[.int .i64 (c : Int), .int .i64 p] 34) := hid (by rw [hwS]; exact two (HBfz.out.ext HxW9))
      have Hx4S : Hid (Ext w4 wS) := hid (by rw [hwS]; exact Keep.new Hx49.out (two_keep w9 w5.heap.size (.int .i64 (c : Int)) (.int .i64 p)) fun q e => by rw [e]; exact Hx45.out.size)
      have HwS := hid hwS
      have HX6' := hid (Hx4.out.trans Hx4S.out)
      have HSo := hid (Hso.out.ext Hx4S.out)
      clear HSf hfi hx9 HxW9 hwS f0 f1 p0 p1 p2 HX6 HI8 Hx8
      have HX6 := HX6'
      clear HX6'
      have Hfi := Hfi2
      have HQS := HQ9h.out.on (Nat.le_refl _) HX6.out
      have hSS := HS9.out.ext HX6.out
      have HE1 := hid (consedges_bad b1 b2 b3 d1 d2 d3 P (.slice ao has.length co) has wS wS.heap.size ad (HQS.pw Hw.out) hSS (HSo.out.lift Hx4S.out.size) Hbad.out)
      have HCl := fun w1 (x : Ext wS w1) => hid (consclosed_bad b1 b2 b3 d1 d2 d3 P ao co has w1 w1.heap.size ad ((HQS.on (Nat.le_refl _) x).pw Hw.out) (hSS.ext x) ((HSo.out.ext x).lift (Hx4S.out.trans x).size) Hbad.out)
      have Hx := hid (Ext.refl wS)
      have hcn : c ≠ 0 := fun e => by
        rcases Hfi.out with ⟨h1, h2, _⟩ | ⟨h1, h2, _⟩ | ⟨_, i, l, _, h3, _, h5, _⟩
        · omega
        · exact Hbad.out ⟨h1, h2⟩
        · omega
      have c00 : ((c : Int) == 0) = false := beq_eq_false_iff_ne.2 (by omega)
      have c01 : 0 < (c : Int) := by omega
      have g0 := (HB6.out.ext HX6.out).av 0 rfl
      have g1 := (HB6.out.ext HX6.out).av 1 rfl
      have g2 := (HB6.out.ext HX6.out).av 2 rfl
      simp only [pcells, List.getElem_toArray, List.getElem_cons_zero, List.getElem_cons_succ] at g0 g1 g2
      rw [HwS.out] at g0 g1 g2
      unfold pval at HE1 HCl
      clear HQS hSS hcn hlt hk
      go_wp2_with fail
      rw [← HwS.out]
      clear z0 z1 y0 y1
      refine HE1.out.mono ?_
      intro e w10 hx
      obtain ⟨t2, x2, rfl, hei, hx10⟩ := hx
      obtain ⟨c', p', hf', _, hcode2⟩ := code_sets hei Hbad.out
      obtain ⟨rfl, rfl⟩ := Hfi.out.uniq hf'
      have Hcode2 := hid hcode2
      have Hx10 := hid (Hx.out.trans hx10)
      have HC1 := HCl w10 Hx10.out
      clear HE1 hei hf' hcode2 hx10 HCl g0 g1 g2
      have g0 := (HB6.out.ext (HX6.out.trans Hx10.out)).av 0 rfl
      have g1 := (HB6.out.ext (HX6.out.trans Hx10.out)).av 1 rfl
      have g2 := (HB6.out.ext (HX6.out.trans Hx10.out)).av 2 rfl
      simp only [pcells, List.getElem_toArray, List.getElem_cons_zero, List.getElem_cons_succ] at g0 g1 g2
      go_wp2_with fail
      refine HC1.out.mono ?_
      intro e w11 hx
      obtain ⟨t3, x3, rfl, hei, hx11⟩ := hx
      obtain ⟨c', p', hf', _, hcode3⟩ := code_sets hei Hbad.out
      obtain ⟨rfl, rfl⟩ := Hfi.out.uniq hf'
      have Hcode3 := hid hcode3
      have Hx11 := hid (Hx10.out.trans hx11)
      have HFa := hid (faulted_at (w := w11) (HA9.out.ext (HX6.out.trans Hx11.out)) fun w1 x hA => Hcode2.out w1 (hx11.trans x) hA)
      clear HC1 hei hf' hcode3 hx11 g0 g1 g2
      have f0 := (HBf.out.ext Hx11.out).av 0 rfl
      have f1 := (HBf.out.ext Hx11.out).av 1 rfl
      simp only [List.getElem_toArray, List.getElem_cons_zero, List.getElem_cons_succ] at f0 f1
      go_wp2_with fail
      refine HFa.out.mono ?_
      intro e w12 hx
      obtain ⟨rfl, hx12⟩ := hx
      have Hx12 := hid (Hx11.out.trans hx12)
      have HFb := hid (faulted_at (w := w12) (HA9.out.ext (HX6.out.trans Hx12.out)) fun w1 x hA => Hcode3.out w1 (hx12.trans x) hA)
      clear HFa hx12 f0 f1
      have f0 := (HBf.out.ext Hx12.out).av 0 rfl
      have f1 := (HBf.out.ext Hx12.out).av 1 rfl
      simp only [List.getElem_toArray, List.getElem_cons_zero, List.getElem_cons_succ] at f0 f1
      go_wp2_with fail
      refine HFb.out.mono ?_
      intro e w13 hx
      obtain ⟨rfl, hx13⟩ := hx
      have Hx13 := hid (Hx12.out.trans hx13)
      clear HFb hx13 f0 f1
      go_wp2
      go_ret
      exact ⟨rfl, HXw.out.trans (HX6.out.trans Hx13.out)⟩
end Go.Proofs.YtohfdecefikinaaGreatDoor
