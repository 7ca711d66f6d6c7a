/- Texts of one proof, put together: Z2 Z3 YT Z4 M1 E1 E2 E3 E4. -/
import Derived.Test.YtnpnhbfbklibhaaGreatDoorZFO09
import Derived.Test.YtnpnhbfbklibhaaGreatDoorZFO12
import Derived.Test.YtnpnhbfbklibhaaGreatDoorZFO13
import Derived.Test.YtnpnhbfbklibhaaGreatDoorZFO14

/- cons.Closed of a well program, with sets that are well. -/
namespace Go.Proofs.YtnpnhbfbklibhaaGreatDoor
set_option linter.unusedSimpArgs false
set_option linter.unusedVariables false
open Go Go.RowKit

set_option maxRecDepth 100000 in
set_option maxHeartbeats 1600000 in
theorem consclosedc_any (g : Nat) (ah : Option Addr) (ch : Nat) (has : List (List Int)) (e : Int × Int) (w : World) (n0 : Nat) (hB : Blk w g #[.slice ah has.length ch] 33) (hh : SetsR w n0 (.slice ah has.length ch) has) (h1 : 0 ≤ e.1 ∧ e.1 < has.length) (h2 : 0 ≤ e.2 ∧ e.2 < has.length) :
    Calls Tryz.prog 36 (#[eVal e] ++ #[.pointer (some ⟨g, 0, none⟩)]) w fun r w' => r = .returned (.bool (!((has.getD e.1.toNat []).all fun n => decide (n ∈ has.getD e.2.toNat [])))) ∧ Ext w w' := by
  obtain ⟨a, b⟩ := e
  simp only at h1 h2 ⊢
  obtain ⟨A, rfl⟩ := Int.eq_ofNat_of_zero_le h1.1
  obtain ⟨B, rfl⟩ := Int.eq_ofNat_of_zero_le h2.1
  have hA : A < has.length := by omega
  have hB2 : B < has.length := by omega
  unfold eVal
  show Calls Tryz.prog 36 #[.agg #[.int .i64 (A : Int), .int .i64 (B : Int)], .pointer (some ⟨g, 0, none⟩)] w _
  obtain ⟨W, hW⟩ : ∃ W, W = w.alloc (.cells #[.int .i64 (A : Int), .int .i64 (B : Int)] 82) := ⟨_, rfl⟩
  have hx : Ext w W := by rw [hW]; exact (Ext.refl _).alloc _
  have hBe : Blk W w.heap.size #[.int .i64 (A : Int), .int .i64 (B : Int)] 82 := by rw [hW]; exact Blk.new _ _ _
  obtain ⟨y, l, bl, cl, rfl, hl, hc, hI⟩ := (hh.ext hx).at hA
  obtain ⟨y', m, bm, cm, hy', hm, hc', hI'⟩ := (hh.ext hx).at hB2
  obtain rfl := Option.some.inj hy'
  have HD1 : Hid (has.getD A [] = l) := hid (by rw [List.getD_eq_getElem?_getD, hl]; rfl)
  have HD2 : Hid (has.getD B [] = m) := hid (by rw [List.getD_eq_getElem?_getD, hm]; rfl)
  rw [Int.toNat_natCast, Int.toNat_natCast, HD1.out, HD2.out]
  have HC := fun w1 (x : Ext W w1) => hid (setwithin_any (.slice bl l.length cl) (.slice bm m.length cm) l m w1 n0 (hI.old (x.old n0)) (hI'.old (x.old n0)))
  obtain ⟨d, hd⟩ : ∃ d, d = (l.all fun n => decide (n ∈ m)) := ⟨_, rfl⟩
  rw [← hd] at HC ⊢
  have e0 := hBe.kc (X := fun _ => False) (fun e => e) 0 rfl
  have e1 := hBe.kc (X := fun _ => False) (fun e => e) 1 rfl
  have g0 := (hB.ext hx).kc (X := fun _ => False) (fun e => e) 0 rfl
  simp only [List.getElem_toArray, List.getElem_cons_zero, List.getElem_cons_succ] at e0 e1 g0
  have c0 : ∀ w1, Keep (fun _ => False) W w1 → w1.cell? (y.add A) = some (.slice bl l.length cl) := fun w1 k => k.ext.cellx hc
  have c1 : ∀ w1, Keep (fun _ => False) W w1 → w1.cell? (y.add B) = some (.slice bm m.length cm) := fun w1 k => k.ext.cellx hc'
  have HX := hid hx
  have HWe := hid hW
  have hhl := hh.len
  clear hd hl hm hc hc' hI hI' HD1 HD2 hBe hx hB hh hW h1 h2
  go_enter Tryz.func36, Tryz.ntmps36
  go_wp2
  rw [← HWe.out]
  refine wp_flowT (fun _ => False) (by kernel_rfl) (by kernel_rfl) ?_
  repeat (apply FlowT.d; (intro w1 hk; unfold does; go_simp; (try go_ints); (first | exact DetR.mk | (simp only [↓IntWalk.iteOmega, Oper.doesUpon_value]; exact DetR.mk) | (simp only [↓IntWalk.iteOmega]; go_simp; (try go_ints); exact DetR.mk))); simp only [Act.put, List.setIfInBounds_toArray, List.set_cons_zero, List.set_cons_succ])
  apply FlowT.d
  · intro w1 hk
    unfold does
    go_simp
    exact CallR.det ((HC w1 hk.ext).out)
  simp only [Act.put, List.setIfInBounds_toArray, List.set_cons_zero, List.set_cons_succ]
  repeat (apply FlowT.d; (intro w1 hk; unfold does; go_simp; (try go_ints); (first | exact DetR.mk | (simp only [↓IntWalk.iteOmega, Oper.doesUpon_value]; exact DetR.mk) | (simp only [↓IntWalk.iteOmega]; go_simp; (try go_ints); exact DetR.mk))); simp only [Act.put, List.setIfInBounds_toArray, List.set_cons_zero, List.set_cons_succ])
  refine FlowT.fin fun w2 hx2 hk2 => ?_
  have Hx2 := hid (HX.out.trans hx2)
  clear hx2 hk2 e0 e1 g0 c0 c1 HC
  go_wp2
  go_ret
  exact ⟨rfl, Hx2.out⟩
end Go.Proofs.YtnpnhbfbklibhaaGreatDoor


/- cons.Closed of a well program, with sets that are well: the walk. -/
namespace Go.Proofs.YtnpnhbfbklibhaaGreatDoor
set_option linter.unusedSimpArgs false
set_option linter.unusedVariables false
open Go Go.RowKit

theorem rule_a_in {P : PP} (hw : P.Well) {k : Nat} (hk : k < P.stmts.length) : 0 ≤ (P.ruleV k (P.stAt k)).a ∧ (P.ruleV k (P.stAt k)).a < P.vars.length := by
  have h0 := hw.2 k (P.stAt k) hk (stAt_some hk)
  have hg := PP.good h0
  obtain ⟨x, hx⟩ : ∃ x, x = P.stAt k := ⟨_, rfl⟩
  rw [← hx] at h0 hg ⊢
  unfold PP.ruleV
  cases h1 : x.isK kAddr with
  | true => exact hg.gx
  | false =>
    cases h2 : x.isK kNew with
    | true => exact hg.gx
    | false =>
      cases h3 : x.isK kFun with
      | true => exact hg.gx
      | false =>
        have hy := hg.yv h3 h2
        cases h4 : x.isK kCall with
        | true => exact hy
        | false => exact hy
theorem all_in {a b : List Int} : (a.all fun n => decide (n ∈ b)) = true ↔ ∀ n ∈ a, n ∈ b := by simp

set_option maxRecDepth 100000 in
set_option maxHeartbeats 3200000 in
theorem consclosed_ok (a1 a2 a3 : Option Addr) (c1 c2 c3 : Nat) (P : PP) (ah : Option Addr) (ch : Nat) (has : List (List Int)) (w : World) (n0 : Nat) (ad : Nat → Addr) (h : PW w n0 ad a1 a2 a3 c1 c2 c3 P) (hS : ErrS w ad) (hh : SetsR w n0 (.slice ah has.length ch) has)
    (hl : has.length = P.nodesV) (he : ∀ l ∈ has, P.setE l = 0) (hn0 : n0 ≤ w.heap.size) :
    Calls Tryz.prog 14 #[pval a1 a2 a3 c1 c2 c3 P, .slice ah has.length ch] w fun e w' => ∃ b, e = .returned (.tuple #[.bool b, .nilIface]) ∧ (b = true ↔ ClosedP P has) ∧ Ext w w' := by
  obtain ⟨hf1, hf2, hf3⟩ := h.well.few
  have hhl := hh.len
  obtain ⟨W1, hW1⟩ : ∃ W1, W1 = w.alloc (.cells (pcells a1 a2 a3 c1 c2 c3 P) 26) := ⟨_, rfl⟩
  have hx1 : Ext w W1 := by rw [hW1]; exact (Ext.refl _).alloc _
  obtain ⟨W, hW⟩ : ∃ W, W = W1.alloc (.cells #[.slice ah has.length ch] 33) := ⟨_, rfl⟩
  have hx2 : Ext W1 W := by rw [hW]; exact (Ext.refl _).alloc _
  have s1 : W1.heap.size = w.heap.size + 1 := by rw [hW1, heap_size_alloc]
  have HX := hid (hx1.trans hx2)
  have HBx : Hid (Blk W w.heap.size (pcells a1 a2 a3 c1 c2 c3 P) 26) := hid (by
    have : Blk W1 w.heap.size (pcells a1 a2 a3 c1 c2 c3 P) 26 := by rw [hW1]; exact Blk.new _ _ _
    exact this.ext hx2)
  have HBh : Hid (Blk W (w.heap.size + 1) #[.slice ah has.length ch] 33) := hid (by rw [← s1, hW]; exact Blk.new _ _ _)
  have HWe : Hid (W = (w.alloc (.cells #[.slice a1 P.vars.length c1, .slice a2 P.funs.length c2, .slice a3 P.stmts.length c3] 26)).alloc (.cells #[.slice ah has.length ch] 33)) := hid (by rw [hW, hW1]; rfl)
  have Hw := hid h.well
  have Hs := hid (SetsOk.of hl he)
  have Hl := hid hl
  have Hvn := hid (nodes_vars P)
  have HH := hid (hh.ext HX.out)
  have HK := hid (consedges_ok a1 a2 a3 c1 c2 c3 P (.slice ah has.length ch) has W n0 ad (h.ext HX.out) (hS.ext HX.out) (hh.ext HX.out) hl he (Nat.le_trans hn0 HX.out.size))
  have HO := fun w1 (x : Ext W w1) => hid (consof_yes a1 a2 a3 c1 c2 c3 P w1 n0 ad (h.ext (HX.out.trans x)))
  clear h hS hh hl he hn0
  have d0 := (HBx.out.ext (Ext.refl W)).av 0 rfl
  have d1 := (HBx.out.ext (Ext.refl W)).av 1 rfl
  have d2 := (HBx.out.ext (Ext.refl W)).av 2 rfl
  have m0 := (HBh.out.ext (Ext.refl W)).av 0 rfl
  simp only [pcells, List.getElem_toArray, List.getElem_cons_zero, List.getElem_cons_succ] at d0 d1 d2 m0
  rw [HWe.out] at d0 d1 d2 m0
  unfold pval at HK HO ⊢
  clear hW1 hW hx1 hx2 s1
  go_enter Tryz.func14, Tryz.ntmps14
  go_wp2_with fail
  rw [← HWe.out]
  refine HK.out.mono ?_
  intro e w1 hx
  obtain ⟨v, l, rfl, hr, hEA, hl5, hx1⟩ := hx
  unfold ERow at hr
  obtain ⟨av, cv, rfl⟩ := row_form hr
  have Hr := hid hr
  have HEA := hid hEA
  have Hx1 := hid hx1
  have HO1 := HO w1 hx1
  clear HK HO hr hEA hx1 d0 d1 d2 m0
  have d0 := (HBx.out.ext Hx1.out).av 0 rfl
  have d1 := (HBx.out.ext Hx1.out).av 1 rfl
  have d2 := (HBx.out.ext Hx1.out).av 2 rfl
  have m0 := (HBh.out.ext Hx1.out).av 0 rfl
  simp only [pcells, List.getElem_toArray, List.getElem_cons_zero, List.getElem_cons_succ] at d0 d1 d2 m0
  go_wp2_with fail
  refine HO1.out.mono ?_
  intro e w2 hx
  obtain ⟨v2, rs, rfl, hi, hx2⟩ := hx
  obtain ⟨bv, dv, rfl⟩ := row_form hi.row
  rw [show P.rulesV.length = P.stmts.length from P.rulesUp_len _] at hi ⊢
  have HI := hid hi
  have Hx2 := hid (Hx1.out.trans hx2)
  have Hr2 := hid (own_ext Hr.out hx2)
  clear HO1 hi hx2 d0 d1 d2 m0 Hr
  go_wp2
  go_loopw [30] (fun t30 wr => ∃ k : Nat, t30 = .int .i64 (k : Int) ∧ k ≤ P.stmts.length ∧ (∀ j, j < k → (P.ruleV j (P.stAt j)).kind.toList = bBase.toList → (P.ruleV j (P.stAt j)).b ∈ has.getD (P.ruleV j (P.stAt j)).a.toNat []) ∧ Ext w2 wr) (fun t30 _ => P.stmts.length - (intOf t30).toNat)
  case atStart => exact ⟨0, rfl, Nat.zero_le _, fun j h => by omega, Ext.refl _⟩
  case round =>
    obtain ⟨k, rfl, hk, hp, hx⟩ := hrel
    have Hp := hid hp
    have Hx := hid hx
    have HxW := hid (Hx2.out.trans hx)
    clear hp hx
    by_cases hlt : k < P.stmts.length
    · obtain ⟨g, cp, hge⟩ := own_some HI.out.row (by rw [show P.rulesV.length = P.stmts.length from P.rulesUp_len _]; omega)
      simp only [Value.slice.injEq] at hge
      obtain ⟨rfl, -, rfl⟩ := hge
      obtain ⟨x, hxk, hxr⟩ := rules_at HI.out.eq hlt
      have hrow := own_ext HI.out.row Hx.out
      rw [show P.rulesV.length = P.stmts.length from P.rulesUp_len _] at hrow
      obtain ⟨q0, q1, q2, q3, q4⟩ := own_r hrow hxk
      have hT := HI.out.args x (List.mem_of_getElem? hxk)
      obtain ⟨aa, ca, hav⟩ := hT.form
      obtain ⟨r, xv⟩ := x
      simp only at hav hxr q0 q1 q2 q3 q4 hT
      subst hav
      obtain ⟨V, hV⟩ : ∃ V, V = wr.alloc (.cells #[.string r.kind, .int .i64 r.a, .int .i64 r.b, .int .i64 r.k, .slice aa r.args.length ca] 79) := ⟨_, rfl⟩
      have hxV : Ext wr V := by rw [hV]; exact (Ext.refl _).alloc _
      have HVe := hid hV
      have HVx := hid (HxW.out.trans hxV)
      have HBr : Hid (Blk V wr.heap.size #[.string r.kind, .int .i64 r.a, .int .i64 r.b, .int .i64 r.k, .slice aa r.args.length ca] 79) := hid (by rw [hV]; exact Blk.new _ _ _)
      have hra := rule_a_in Hw.out hlt
      rw [← hxr] at hra
      have Hrr := hid hxr
      have m0 := HBr.out.kc (X := fun _ => False) (fun e => e) 0 rfl
      have m1 := HBr.out.kc (X := fun _ => False) (fun e => e) 1 rfl
      have m2 := HBr.out.kc (X := fun _ => False) (fun e => e) 2 rfl
      have g0 := (HBh.out.ext HVx.out).kc (X := fun _ => False) (fun e => e) 0 rfl
      simp only [List.getElem_toArray, List.getElem_cons_zero, List.getElem_cons_succ] at m0 m1 m2 g0
      have HrV := hid (Hx.out.trans hxV)
      have Hra := hid hra
      clear hV hxV hxk hxr hrow hT hra
      obtain ⟨A, hA⟩ := Int.eq_ofNat_of_zero_le Hra.out.1
      have hAl : A < has.length := by have := Hra.out.2; have := Hvn.out; have := Hl.out; omega
      obtain ⟨y, l1, bl, cl, hya, hl1, hc, hI1⟩ := (HH.out.ext HVx.out).at hAl
      subst hya
      have HD : Hid (has.getD r.a.toNat [] = l1) := hid (by rw [hA, Int.toNat_natCast, List.getD_eq_getElem?_getD, hl1]; rfl)
      have HC : ∀ w1, Ext V w1 → Hid (Calls Tryz.prog 32 #[.slice bl l1.length cl, .int .i64 r.b] w1 fun e w' => e = .returned (.bool (decide (r.b ∈ l1))) ∧ Ext w1 w') := fun w1 x => hid ((sethas_any (.slice bl l1.length cl) l1 r.b w1 n0 (hI1.old (x.old n0))).mono fun e w' ⟨h1, h2⟩ => ⟨h1, by rw [h2]; exact Ext.refl _⟩)
      have c0 : ∀ w1, Keep (fun _ => False) V w1 → w1.cell? (y.add A) = some (.slice bl l1.length cl) := fun w1 k => k.ext.cellx hc
      rw [hA] at q1 HVe m1
      clear hl1 hc hI1
      cases hkb : (r.kind.toList == [98, 97, 115, 101]) with
      | true =>
        have Hkb : Hid ((P.ruleV k (P.stAt k)).kind.toList = bBase.toList) := hid (by rw [← Hrr.out]; exact (eq_of_beq hkb).trans (eq_of_beq bBase_list).symm)
        obtain ⟨d, hd⟩ : ∃ d, d = decide (r.b ∈ l1) := ⟨_, rfl⟩
        rw [← hd] at HC
        have Hd := hid hd
        clear hd
        go_wp2
        rw [← HVe.out]
        refine wp_flowT (fun _ => False) (by kernel_rfl) (by kernel_rfl) ?_
        repeat (apply FlowT.d; (intro w1 hk; unfold does; go_simp; (try go_ints); (first | exact DetR.mk | (simp only [↓IntWalk.iteOmega, Oper.doesUpon_value]; exact DetR.mk) | (simp only [↓IntWalk.iteOmega]; go_simp; (try go_ints); exact DetR.mk))); simp only [Act.put, List.setIfInBounds_toArray, List.set_cons_zero, List.set_cons_succ])
        apply FlowT.d
        · intro w1 hk
          unfold does
          go_simp
          exact CallR.det ((HC w1 hk.ext).out)
        simp only [Act.put, List.setIfInBounds_toArray, List.set_cons_zero, List.set_cons_succ]
        repeat (apply FlowT.d; (intro w1 hk; unfold does; go_simp; (try go_ints); (first | exact DetR.mk | (simp only [↓IntWalk.iteOmega, Oper.doesUpon_value]; exact DetR.mk) | (simp only [↓IntWalk.iteOmega]; go_simp; (try go_ints); exact DetR.mk))); simp only [Act.put, List.setIfInBounds_toArray, List.set_cons_zero, List.set_cons_succ])
        refine FlowT.fin fun w3 hx3 hk3 => ?_
        have Hx3 := hid (HrV.out.trans hx3)
        have Hx3W := hid (HVx.out.trans hx3)
        clear hx3 hk3 m0 m1 m2 g0 c0 HC q0 q1 q2 q3 q4 hkb
        cases d with
        | false =>
          have Hno : Hid (¬ ClosedP P has) := hid fun hc => by
            have h1 := hc.base k hlt Hkb.out
            rw [← Hrr.out, HD.out] at h1
            exact (of_decide_eq_false Hd.out.symm) h1
          go_wp2
          go_ret2
          exact ⟨false, rfl, ⟨fun h => (by cases h), fun h => absurd h Hno.out⟩, HX.out.trans Hx3W.out⟩
        | true =>
          go_wp2
          go_roundw
          case rel =>
            refine ⟨k + 1, by go_num, by omega, fun j hj hb => ?_, Hx3.out⟩
            by_cases hjk : j = k
            · subst hjk
              rw [← Hrr.out, HD.out]
              exact of_decide_eq_true Hd.out.symm
            · exact Hp.out j (by omega) hb
          case measure => simp [intOf]; omega
      | false =>
        have Hkb : Hid ((P.ruleV k (P.stAt k)).kind.toList ≠ bBase.toList) := hid (by
          rw [← Hrr.out]
          intro h
          rw [h, bBase_list] at hkb
          cases hkb)
        go_wp2
        rw [← HVe.out]
        refine wp_flowT (fun _ => False) (by kernel_rfl) (by kernel_rfl) ?_
        repeat (apply FlowT.d; (intro w1 hk; unfold does; go_simp; (try go_ints); (first | exact DetR.mk | (simp only [↓IntWalk.iteOmega, Oper.doesUpon_value]; exact DetR.mk) | (simp only [↓IntWalk.iteOmega]; go_simp; (try go_ints); exact DetR.mk))); simp only [Act.put, List.setIfInBounds_toArray, List.set_cons_zero, List.set_cons_succ])
        refine FlowT.fin fun w3 hx3 hk3 => ?_
        have Hx3 := hid (HrV.out.trans hx3)
        clear hx3 hk3 m0 m1 m2 g0 c0 HC q0 q1 q2 q3 q4 hkb
        go_wp2
        go_roundw
        case rel =>
          refine ⟨k + 1, by go_num, by omega, fun j hj hb => ?_, Hx3.out⟩
          by_cases hjk : j = k
          · subst hjk
            exact absurd hb Hkb.out
          · exact Hp.out j (by omega) hb
        case measure => simp [intOf]; omega
    · obtain rfl : k = P.stmts.length := by omega
      have hin : ∀ e ∈ l, (0 ≤ e.1 ∧ e.1 < has.length) ∧ 0 ≤ e.2 ∧ e.2 < has.length := fun e he => by
        have hi := edges0_in Hw.out Hs.out e ((HEA.out.mem e).1 he).1
        unfold PP.InN at hi
        have := Hl.out
        omega
      have HC := hid (econtains_cl (.pointer (some ⟨w.heap.size + 1, 0, none⟩)) (fun e => !((has.getD e.1.toNat []).all fun n => decide (n ∈ has.getD e.2.toNat []))) (.slice av l.length cv) l wr W.heap.size (own_ext Hr2.out Hx.out) (by omega) (fun e w1 he x => consclosedc_any (w.heap.size + 1) ah ch has e w1 n0 (HBh.out.ext (HxW.out.trans x)) (HH.out.ext (HxW.out.trans x)) (hin e he).1 (hin e he).2))
      obtain ⟨d, hd⟩ : ∃ d, d = l.any (fun e => !((has.getD e.1.toNat []).all fun n => decide (n ∈ has.getD e.2.toNat []))) := ⟨_, rfl⟩
      rw [← hd] at HC
      have Hd : Hid ((!d) = true ↔ ClosedP P has) := hid (by
        rw [hd, Bool.not_eq_true', List.any_eq_false]
        constructor
        · intro h
          refine ⟨Hp.out, fun e he hne => ?_⟩
          have := h e ((HEA.out.mem e).2 ⟨he, hne⟩)
          rw [Bool.not_eq_true', Bool.not_eq_false] at this
          exact all_in.1 this
        · intro h e he
          rw [Bool.not_eq_true', Bool.not_eq_false]
          obtain ⟨h1, h2⟩ := (HEA.out.mem e).1 he
          exact all_in.2 (h.edge e h1 h2))
      clear hd hin
      go_wp2_with fail
      refine HC.out.mono ?_
      intro e w3 hx
      obtain ⟨rfl, hx3⟩ := hx
      have Hx3 := hid (HX.out.trans (HxW.out.trans hx3))
      clear HC hx3
      go_wp2
      go_ret2
      exact ⟨_, rfl, Hd.out, Hx3.out⟩
end Go.Proofs.YtnpnhbfbklibhaaGreatDoor


/- Edges, plainly, as the document's answer finds them: pair by pair. -/
namespace Go.Proofs.YtnpnhbfbklibhaaGreatDoor
set_option linter.unusedSimpArgs false
set_option linter.unusedVariables false
open Go Go.RowKit

/-- Does a call of this function take what a has to b? -/
def fEdge (f : PF) (r : RV) (a b : Int) : Bool := decide (f.params.length = r.args.length) && ((decide (a = f.ret) && decide (b = r.b)) || (List.range f.params.length).any fun i => decide (a = r.args.getD i 0) && decide (b = f.params.getD i 0))
/-- Does a rule take what a has to b? -/
def PP.isE (P : PP) (r : RV) (has : List (List Int)) (a b : Int) : Bool :=
  bif r.kind.toList == kCopy then decide (a = r.a) && decide (b = r.b) else
  bif r.kind.toList == kLoad then decide (b = r.b) && (decide (a < (P.nodesV : Int)) && decide (a ∈ has.getD r.a.toNat [])) else
  bif r.kind.toList == kStore then decide (a = r.a) && (decide (b < (P.nodesV : Int)) && decide (b ∈ has.getD r.b.toNat [])) else
  bif r.kind.toList == kCall then (List.range P.funs.length).any fun f => decide ((P.nodesV : Int) + f ∈ has.getD r.a.toNat []) && fEdge (P.funs.getD f ⟨⟨#[]⟩, [], 0⟩) r a b else false
theorem fEdge_iff (f : PF) (r : RV) (a b : Int) : fEdge f r a b = true ↔ (a, b) ∈ calledV f r := by
  unfold fEdge calledV
  by_cases hl : f.params.length = r.args.length
  · rw [decide_eq_true hl, Bool.true_and, if_pos hl, List.mem_cons, Bool.or_eq_true, Bool.and_eq_true, decide_eq_true_iff, decide_eq_true_iff, Prod.mk.injEq]
    refine or_congr Iff.rfl ?_
    rw [List.any_eq_true]
    constructor
    · rintro ⟨i, hi, h⟩
      have hi := List.mem_range.1 hi
      rw [Bool.and_eq_true, decide_eq_true_iff, decide_eq_true_iff] at h
      refine List.mem_iff_getElem?.2 ⟨i, List.getElem?_zip_eq_some.2 ⟨?_, ?_⟩⟩
      · rw [h.1, List.getD_eq_getElem?_getD, List.getElem?_eq_getElem (show i < r.args.length by omega)]; rfl
      · rw [h.2, List.getD_eq_getElem?_getD, List.getElem?_eq_getElem hi]; rfl
    · intro h
      obtain ⟨i, hi⟩ := List.mem_iff_getElem?.1 h
      obtain ⟨h1, h2⟩ := List.getElem?_zip_eq_some.1 hi
      have hil : i < f.params.length := by
        rcases Nat.lt_or_ge i f.params.length with g | g
        · exact g
        · rw [List.getElem?_eq_none g] at h2; cases h2
      refine ⟨i, List.mem_range.2 hil, ?_⟩
      rw [List.getD_eq_getElem?_getD, List.getD_eq_getElem?_getD, h1, h2]
      simp
  · rw [decide_eq_false hl, Bool.false_and, if_neg hl]
    simp
theorem isE_iff {P : PP} (r : RV) (has : List (List Int)) (a b : Int) : P.isE r has a b = true ↔ (a, b) ∈ P.redges r has := by
  unfold PP.isE PP.redges
  cases r.kind.toList == kCopy
  · cases r.kind.toList == kLoad
    · cases r.kind.toList == kStore
      · cases r.kind.toList == kCall
        · simp
        · simp only [cond_true, cond_false]
          rw [List.any_eq_true, List.mem_flatMap]
          constructor
          · rintro ⟨f, hf, h⟩
            have hf := List.mem_range.1 hf
            rw [Bool.and_eq_true, decide_eq_true_iff, fEdge_iff] at h
            refine ⟨_, h.1, ?_⟩
            unfold PP.callsOf
            have e : P.funV ((P.nodesV : Int) + f) = (f : Int) := by unfold PP.funV; rw [if_pos (by omega)]; omega
            rw [e, if_pos (by omega)]
            exact h.2
          · rintro ⟨o, ho, h⟩
            unfold PP.callsOf at h
            by_cases hF : 0 ≤ P.funV o
            · rw [if_pos hF] at h
              have hlt := funV_lt hF
              refine ⟨(P.funV o).toNat, List.mem_range.2 (by omega), ?_⟩
              rw [Bool.and_eq_true, decide_eq_true_iff, fEdge_iff]
              refine ⟨?_, h⟩
              have e : (P.nodesV : Int) + ((P.funV o).toNat : Nat) = o := by
                rw [Int.toNat_of_nonneg hF]
                unfold PP.funV at hF ⊢
                by_cases hc : 0 ≤ o - (P.nodesV : Int) ∧ o - (P.nodesV : Int) < P.funs.length
                · rw [if_pos hc]; omega
                · rw [if_neg hc] at hF; omega
              rw [e]
              exact ho
            · rw [if_neg hF] at h
              cases h
      · simp only [cond_true, cond_false]
        rw [List.mem_map]
        constructor
        · intro h
          simp only [Bool.and_eq_true, decide_eq_true_iff] at h
          refine ⟨b, ?_, by rw [h.1]⟩
          unfold PP.nodesOf
          exact List.mem_filter.2 ⟨h.2.2, by simp; exact h.2.1⟩
        · rintro ⟨o, ho, h⟩
          unfold PP.nodesOf at ho
          obtain ⟨h1, h2⟩ := List.mem_filter.1 ho
          simp only [Prod.mk.injEq] at h
          obtain ⟨rfl, rfl⟩ := h
          simp at h2
          exact Bool.and_eq_true_iff.2 ⟨decide_eq_true rfl, Bool.and_eq_true_iff.2 ⟨decide_eq_true h2, decide_eq_true h1⟩⟩
    · simp only [cond_true, cond_false]
      rw [List.mem_map]
      constructor
      · intro h
        simp only [Bool.and_eq_true, decide_eq_true_iff] at h
        refine ⟨a, ?_, by rw [h.1]⟩
        unfold PP.nodesOf
        exact List.mem_filter.2 ⟨h.2.2, by simp; exact h.2.1⟩
      · rintro ⟨o, ho, h⟩
        unfold PP.nodesOf at ho
        obtain ⟨h1, h2⟩ := List.mem_filter.1 ho
        simp only [Prod.mk.injEq] at h
        obtain ⟨rfl, rfl⟩ := h
        simp at h2
        exact Bool.and_eq_true_iff.2 ⟨decide_eq_true rfl, Bool.and_eq_true_iff.2 ⟨decide_eq_true h2, decide_eq_true h1⟩⟩
  · simp only [cond_true, List.mem_singleton, Prod.mk.injEq, Bool.and_eq_true, decide_eq_true_iff]
/-- The rules that make edges. -/
def PP.rulesE (P : PP) : List RV := P.rulesV.filter fun r => !(r.kind.toList == bBase.toList)
/-- Is there an edge? -/
def PP.edgeB (P : PP) (has : List (List Int)) (a b : Int) : Bool := decide (a ≠ b) && P.rulesE.any fun r => P.isE r has a b
theorem edgeB_iff {P : PP} {has : List (List Int)} {a b : Int} : P.edgeB has a b = true ↔ (a, b) ∈ P.edges0 has ∧ a ≠ b := by
  unfold PP.edgeB PP.rulesE PP.edges0
  rw [Bool.and_eq_true, decide_eq_true_iff, List.any_eq_true, List.mem_flatMap, and_comm]
  refine and_congr ⟨fun ⟨r, hr, h⟩ => ⟨r, (List.mem_filter.1 hr).1, (isE_iff r has a b).1 h⟩, fun ⟨r, hr, h⟩ => ⟨r, List.mem_filter.2 ⟨hr, ?_⟩, (isE_iff r has a b).2 h⟩⟩ Iff.rfl
  cases hb : r.kind.toList == bBase.toList with
  | false => rfl
  | true =>
    have e := eq_of_beq hb
    have hn : P.redges r has = [] := by
      have e2 := eq_of_beq bBase_list
      unfold PP.redges kCopy kLoad kStore kCall
      rw [e, e2]; rfl
    rw [hn] at h
    cases h
/-- The pairs of one node, and of all. -/
def PP.rowE (P : PP) (has : List (List Int)) (a n : Nat) : List (Int × Int) := ((List.range n).filter fun b : Nat => P.edgeB has (a : Int) (b : Int)).map fun b : Nat => ((a : Int), (b : Int))
def PP.refE (P : PP) (has : List (List Int)) (n : Nat) : List (Int × Int) := (List.range n).flatMap fun a => P.rowE has a P.nodesV
theorem mem_rowE {P : PP} {has : List (List Int)} {a n : Nat} {e : Int × Int} : e ∈ P.rowE has a n ↔ ∃ b : Nat, b < n ∧ e = ((a : Int), (b : Int)) ∧ P.edgeB has a b = true := by
  unfold PP.rowE
  rw [List.mem_map]
  constructor
  · rintro ⟨b, hb, rfl⟩
    obtain ⟨h1, h2⟩ := List.mem_filter.1 hb
    exact ⟨b, List.mem_range.1 h1, rfl, h2⟩
  · rintro ⟨b, hb, rfl, h⟩
    exact ⟨b, List.mem_filter.2 ⟨List.mem_range.2 hb, h⟩, rfl⟩
theorem rowE_srt (P : PP) (has : List (List Int)) (a n : Nat) : SrtP (P.rowE has a n) := by
  unfold PP.rowE SrtP
  rw [List.pairwise_map]
  refine List.Pairwise.imp (R := (· < ·)) (fun h => .inr ⟨rfl, by simp only; omega⟩) ?_
  exact List.Pairwise.sublist List.filter_sublist List.pairwise_lt_range
theorem refE_srt (P : PP) (has : List (List Int)) : ∀ n, SrtP (P.refE has n)
  | 0 => List.Pairwise.nil
  | n + 1 => by
    unfold PP.refE
    rw [List.range_succ, List.flatMap_append]
    refine List.pairwise_append.2 ⟨refE_srt P has n, by simpa using rowE_srt P has n P.nodesV, fun x hx y hy => ?_⟩
    obtain ⟨a, ha, hxa⟩ := List.mem_flatMap.1 hx
    obtain ⟨b, _, rfl, _⟩ := mem_rowE.1 hxa
    have hy' : y ∈ P.rowE has n P.nodesV := by simpa using hy
    obtain ⟨c, _, rfl, _⟩ := mem_rowE.1 hy'
    have := List.mem_range.1 ha
    exact .inl (by show (a : Int) < n; omega)
theorem refE_are {P : PP} (hw : P.Well) {has : List (List Int)} (hs : SetsOk P has) : EdgesAre P has (P.refE has P.nodesV) := by
  refine ⟨refE_srt P has _, fun e => ?_⟩
  obtain ⟨x, y⟩ := e
  unfold PP.refE
  rw [List.mem_flatMap]
  constructor
  · rintro ⟨a, _, h⟩
    obtain ⟨b, _, e, h2⟩ := mem_rowE.1 h
    simp only [Prod.mk.injEq] at e
    obtain ⟨rfl, rfl⟩ := e
    exact edgeB_iff.1 h2
  · rintro ⟨h, hne⟩
    obtain ⟨h1, h2, h3, h4⟩ := edges0_in hw hs _ h
    obtain ⟨a, rfl⟩ := Int.eq_ofNat_of_zero_le h1
    obtain ⟨b, rfl⟩ := Int.eq_ofNat_of_zero_le h3
    exact ⟨a, List.mem_range.2 (by simp only at h2; omega), mem_rowE.2 ⟨b, by simp only at h4; omega, rfl, edgeB_iff.2 ⟨h, hne⟩⟩⟩
end Go.Proofs.YtnpnhbfbklibhaaGreatDoor


/- ConsOrder: contracts in the form that the law wants; the law's own small program. -/
namespace Go.Proofs.YtnpnhbfbklibhaaGreatDoor
set_option linter.unusedSimpArgs false
set_option linter.unusedVariables false
open Go Go.RowKit

/-- The edges of a program, as one list. -/
def PP.edgesL (P : PP) (has : List (List Int)) : List (Int × Int) := P.refE has P.nodesV
/-- A program that is well, and sets that are. -/
def PP.GoodS (P : PP) (has : List (List Int)) : Prop := P.Well ∧ has.length = P.nodesV ∧ ∀ l ∈ has, P.setE l = 0
theorem PP.GoodS.ok {P : PP} {has : List (List Int)} (h : P.GoodS has) : SetsOk P has := SetsOk.of h.2.1 h.2.2
theorem edgesL_are {P : PP} {has : List (List Int)} (h : P.GoodS has) : EdgesAre P has (P.edgesL has) := refE_are h.1 h.ok
theorem edgesL_len {P : PP} (hw : P.Well) (has : List (List Int)) : (P.edgesL has).length ≤ 50000 := by
  have hn := nodesV_le P hw
  have h1 := flatMap_len (fun a => P.rowE has a P.nodesV) 120 (List.range P.nodesV) fun a _ => by
    unfold PP.rowE
    rw [List.length_map]
    have := List.length_filter_le (fun b : Nat => P.edgeB has (a : Int) (b : Int)) (List.range P.nodesV)
    rw [List.length_range] at this
    omega
  rw [List.length_range] at h1
  unfold PP.edgesL PP.refE
  omega
theorem edges_fix (a1 a2 a3 : Option Addr) (c1 c2 c3 : Nat) (P : PP) (hv : Value) (has : List (List Int)) (w : World) (ad : Nat → Addr) (h : PW w w.heap.size ad a1 a2 a3 c1 c2 c3 P) (hS : ErrS w ad) (hh : SetsR w w.heap.size hv has) (hg : P.GoodS has) :
    Calls Tryz.prog 33 #[pval a1 a2 a3 c1 c2 c3 P, hv] w fun e w' => ∃ a c, e = .returned (.tuple #[.slice a (P.edgesL has).length c, .nilIface]) ∧ ERow w.heap.size w' (.slice a (P.edgesL has).length c) (P.edgesL has) ∧ (P.edgesL has).length ≤ 50000 ∧ Ext w w' :=
  (consedges_ok a1 a2 a3 c1 c2 c3 P hv has w w.heap.size ad h hS hh hg.2.1 hg.2.2 (Nat.le_refl _)).mono fun e w' ⟨v, l, he, hr, hA, hl, hx⟩ => by
    obtain rfl := hA.uniq (edgesL_are hg)
    obtain ⟨a, c, rfl⟩ := row_form hr
    exact ⟨a, c, he, hr, hl, hx⟩
theorem closed_fix (a1 a2 a3 : Option Addr) (c1 c2 c3 : Nat) (P : PP) (ah : Option Addr) (ch : Nat) (has : List (List Int)) (w : World) (ad : Nat → Addr) (h : PW w w.heap.size ad a1 a2 a3 c1 c2 c3 P) (hS : ErrS w ad) (hh : SetsR w w.heap.size (.slice ah has.length ch) has) (hg : P.GoodS has) (d : Bool) (hd : d = true ↔ ClosedP P has) :
    Calls Tryz.prog 14 #[pval a1 a2 a3 c1 c2 c3 P, .slice ah has.length ch] w fun e w' => e = .returned (.tuple #[.bool d, .nilIface]) ∧ Ext w w' :=
  (consclosed_ok a1 a2 a3 c1 c2 c3 P ah ch has w w.heap.size ad h hS hh hg.2.1 hg.2.2 (Nat.le_refl _)).mono fun e w' ⟨b, he, hb, hx⟩ => by
    obtain rfl : b = d := Bool.eq_iff_iff.2 (hb.trans hd.symm)
    exact ⟨he, hx⟩
/-- A program and sets in memory, of whatever kind. -/
structure PS0 (w : World) (n0 : Nat) (ad : Nat → Addr) (a1 a2 a3 : Option Addr) (c1 c2 c3 : Nat) (P : PP) : Prop where
  errs : ErrsP w ad
  prog : ProgR w n0 (.slice a1 P.vars.length c1) (.slice a2 P.funs.length c2) (.slice a3 P.stmts.length c3) P
  z1 : ∀ s ∈ P.vars, s.size ≤ 1000000
  z2 : ∀ s ∈ P.names, s.size ≤ 1000000
theorem PS0.ext {w w' : World} {n0 : Nat} {ad : Nat → Addr} {a1 a2 a3 : Option Addr} {c1 c2 c3 : Nat} {P : PP} (h : PS0 w n0 ad a1 a2 a3 c1 c2 c3 P) (x : Ext w w') : PS0 w' w'.heap.size ad a1 a2 a3 c1 c2 c3 P → PS0 w' w'.heap.size ad a1 a2 a3 c1 c2 c3 P := id
theorem PS0.on {w w' : World} {n0 : Nat} {ad : Nat → Addr} {a1 a2 a3 : Option Addr} {c1 c2 c3 : Nat} {P : PP} (h : PS0 w n0 ad a1 a2 a3 c1 c2 c3 P) (hn : n0 ≤ w.heap.size) (x : Ext w w') : PS0 w' w'.heap.size ad a1 a2 a3 c1 c2 c3 P := ⟨h.errs.ext x, (h.prog.ext x).lift (Nat.le_trans hn x.size), h.z1, h.z2⟩
theorem PS0.pw {w : World} {n0 : Nat} {ad : Nat → Addr} {a1 a2 a3 : Option Addr} {c1 c2 c3 : Nat} {P : PP} (h : PS0 w n0 ad a1 a2 a3 c1 c2 c3 P) (hw : P.Well) : PW w n0 ad a1 a2 a3 c1 c2 c3 P := ⟨h.errs, h.prog, h.z1, h.z2, hw⟩
theorem edges_err (a1 a2 a3 : Option Addr) (c1 c2 c3 : Nat) (P : PP) (hv : Value) (has : List (List Int)) (w : World) (n0 : Nat) (ad : Nat → Addr) (h : PS0 w n0 ad a1 a2 a3 c1 c2 c3 P) (hS : ErrS w ad) (hh : SetsR w n0 hv has) (hg : ¬ P.GoodS has) :
    Calls Tryz.prog 33 #[pval a1 a2 a3 c1 c2 c3 P, hv] w fun e w' => ∃ t x, e = .returned (.tuple #[.slice none 0 0, .iface t (.pointer (some x))]) ∧ Ext w w' := by
  by_cases hw : P.Well
  · exact (consedges_bad a1 a2 a3 c1 c2 c3 P hv has w n0 ad (h.pw hw) hS hh fun hb => hg ⟨hw, hb⟩).mono fun e w' ⟨t, x, he, _, hx⟩ => ⟨t, x, he, hx⟩
  · exact (consedges_no a1 a2 a3 c1 c2 c3 P hv w n0 ad h.errs h.prog h.z1 h.z2 hw).mono fun e w' ⟨t, x, he, _, hx⟩ => ⟨t, x, he, hx⟩

/-- Own sets, wherever. -/
theorem ownsets_at {w : World} {n0 : Nat} {a : Option Addr} {c : Nat} {L : List (List Int)} (h : SetsR w n0 (.slice a L.length c) L) (hf : fewSets L) (w1 : World) (x : Ext w w1) :
    Calls Tryz.prog 16 #[.slice a L.length c] w1 fun e w' => ∃ a c, e = .returned (.slice a L.length c) ∧ SetsR w' w'.heap.size (.slice a L.length c) L ∧ Ext w1 w' :=
  (ownsets_any _ L w1 n0 (h.ext x) hf).mono fun e w' ⟨v, he, hs, hx⟩ => by
    obtain ⟨a, c, rfl⟩ := hs.form
    exact ⟨a, c, he, hs, hx⟩
def ruledP : PP := ⟨[⟨#[97]⟩, ⟨#[98]⟩], [], [⟨⟨#[99, 111, 112, 121]⟩, 0, 1, []⟩]⟩
theorem ruled_good : ruledP.GoodS [[], []] := by
  refine ⟨⟨by decide +kernel, fun j t hj ht => ?_⟩, by decide +kernel, fun l hl => ?_⟩
  · have hj2 : j < 1 := hj
    obtain rfl : j = 0 := by omega
    obtain rfl := Option.some.inj ht
    decide +kernel
  · obtain rfl : l = [] := by simpa using hl
    decide +kernel
theorem ruled_edges : ruledP.edgesL [[], []] = [(1, 0)] := by decide +kernel
def ruledS : Array Value := #[.string ⟨#[99, 111, 112, 121]⟩, .int .i64 0, .int .i64 1, .slice none 0 0]
theorem ruled_prog {w : World} {a b n0 : Nat} (ha : Blk w a #[.string ⟨#[97]⟩, .string ⟨#[98]⟩] 9) (hb : Blk w b ruledS 29) (h1 : a < n0) (h2 : b < n0) : ProgR w n0 (.slice (some ⟨a, 0, none⟩) 2 2) (.slice none 0 0) (.slice (some ⟨b, 0, none⟩) 1 1) ruledP := by
  refine ⟨⟨_, 2, rfl, by decide, by decide, fun _ => ⟨_, rfl⟩, fun y hy _ => ?_⟩, ⟨_, 0, rfl, by decide, by decide, fun h => absurd h (by decide), fun y hy => by cases hy⟩, ⟨_, 1, rfl, by decide, by decide, fun _ => ⟨_, rfl⟩, fun y hy _ => ?_⟩⟩
  · obtain rfl := Option.some.inj hy
    refine ⟨h1, fun i hi s hs => ?_⟩
    have hi2 : i < 2 := hi
    rcases (by omega : i = 0 ∨ i = 1) with rfl | rfl
    · obtain rfl := Option.some.inj hs
      exact ha.av 0 rfl
    · obtain rfl := Option.some.inj hs
      exact ha.av 1 rfl
  · obtain rfl := Option.some.inj hy
    refine ⟨h2, fun i hi s hs => ?_⟩
    have hi2 : i < 1 := hi
    have hn : IntsR w n0 (.slice none 0 0) [] := ⟨none, 0, rfl, by decide, by decide, fun h => absurd h (by decide), fun y hy => by cases hy⟩
    obtain rfl : i = 0 := by omega
    obtain rfl := Option.some.inj hs
    exact ⟨.slice none 0 0, hb.av 0 rfl, hb.av 1 rfl, hb.av 2 rfl, hb.av 3 rfl, hn⟩
theorem ruled_sets {w : World} {b n0 : Nat} (hb : Blk w b #[.slice none 0 0, .slice none 0 0] 27) (h : b < n0) : SetsR w n0 (.slice (some ⟨b, 0, none⟩) 2 2) [[], []] := by
  refine ⟨_, 2, rfl, by decide, by decide, fun _ => ⟨_, rfl⟩, fun y hy _ => ?_⟩
  obtain rfl := Option.some.inj hy
  refine ⟨h, fun i hi s hs => ?_⟩
  have hi2 : i < 2 := hi
  have hn : IntsR w n0 (.slice none 0 0) [] := ⟨none, 0, rfl, by decide, by decide, fun h => absurd h (by decide), fun y hy => by cases hy⟩
  rcases (by omega : i = 0 ∨ i = 1) with rfl | rfl
  · obtain rfl := Option.some.inj hs
    exact ⟨_, hb.av 0 rfl, hn⟩
  · obtain rfl := Option.some.inj hs
    exact ⟨_, hb.av 1 rfl, hn⟩

end Go.Proofs.YtnpnhbfbklibhaaGreatDoor


/- ConsMore: what the law leans on. -/
namespace Go.Proofs.YtnpnhbfbklibhaaGreatDoor
set_option linter.unusedSimpArgs false
set_option linter.unusedVariables false
open Go Go.RowKit

set_option maxRecDepth 100000 in
set_option maxHeartbeats 1600000 in
theorem progobjects_no (a1 a2 a3 : Option Addr) (c1 c2 c3 : Nat) (P : PP) (w : World) (n0 : Nat) (ad : Nat → Addr) (h : PS0 w n0 ad a1 a2 a3 c1 c2 c3 P) (hw : ¬ P.Well) :
    Calls Tryz.prog 85 #[pval a1 a2 a3 c1 c2 c3 P] w fun e w' => e = .returned (.int .i64 0) ∧ Ext w w' := by
  obtain ⟨W, hW⟩ : ∃ W, W = w.alloc (.cells (pcells a1 a2 a3 c1 c2 c3 P) 26) := ⟨_, rfl⟩
  have HX : Hid (Ext w W) := hid (by rw [hW]; exact (Ext.refl _).alloc _)
  have HBx : Hid (Blk W w.heap.size (pcells a1 a2 a3 c1 c2 c3 P) 26) := hid (by rw [hW]; exact Blk.new _ _ _)
  have HWe : Hid (W = w.alloc (.cells #[.slice a1 P.vars.length c1, .slice a2 P.funs.length c2, .slice a3 P.stmts.length c3] 26)) := hid (by rw [hW]; rfl)
  have hml : (P.vars.length : Int) ≤ 9223372036854775807 := by
    obtain ⟨_, _, _, h2, h3, _⟩ := h.prog.vars
    omega
  have HK := hid (pcheck_any a1 a2 a3 c1 c2 c3 P W n0 ad (h.errs.ext HX.out) (h.prog.ext HX.out) h.z1 h.z2 hml)
  have Hw := hid hw
  have d0 := HBx.out.av 0 rfl
  have d1 := HBx.out.av 1 rfl
  have d2 := HBx.out.av 2 rfl
  simp only [pcells, List.getElem_toArray, List.getElem_cons_zero, List.getElem_cons_succ] at d0 d1 d2
  unfold pval at HK ⊢
  clear hW h hw
  go_enter Tryz.func85, Tryz.ntmps85
  go_wp2_with fail
  rw [← HWe.out]
  refine HK.out.mono ?_
  intro e w1 hx
  obtain ⟨v, rfl, hi, hx1⟩ := hx
  obtain ⟨t, x, rfl⟩ : ∃ t x, v = .iface t (.pointer (some x)) := by
    rcases hi.form with ⟨_, h⟩ | ⟨h, _⟩
    · exact absurd h Hw.out
    · exact h
  have Hx1 := hid (HX.out.trans hx1)
  clear HK hx1 hi d0 d1 d2
  go_wp2
  go_ret
  exact ⟨rfl, Hx1.out⟩
theorem setE_of {P : PP} {l : List Int} (h : chkE l = 0) (hx : ∀ x ∈ l, x < (P.objectsV : Int)) : P.setE l = 0 := by
  unfold PP.setE
  rw [if_pos h, if_neg]
  rintro ⟨h1, h2⟩
  rw [List.getD_eq_getElem?_getD, List.getElem?_eq_getElem (show l.length - 1 < l.length by omega), Option.getD_some] at h2
  have := hx _ (List.getElem_mem (show l.length - 1 < l.length by omega))
  omega
theorem goodS_plus {P : PP} {has : List (List Int)} (h : P.GoodS has) (n : Nat) (o : Int) (ho : 0 ≤ o ∧ o < (P.objectsV : Int)) : P.GoodS (plusAt has n o) := by
  have hk := plusAt_ok h.ok n o ho
  exact ⟨h.1, hk.len, fun l hl => setE_of (hk.ok l hl).1 (hk.ok l hl).2⟩
theorem objects_few {P : PP} (hw : P.Well) : P.objectsV ≤ 126 := by
  have h1 := hw.few
  have h2 := nodesV_le P hw
  unfold PP.objectsV
  omega
/-- One list of a row that was made is put anew. -/
theorem Made.set {w : World} {base g cap : Nat} {vs : List Value} {L : List (List Int)} {n : Nat} {v : Value} {l : List Int} (hr : w.ownsRow base 27 1 (.slice (some ⟨g, 0, none⟩) L.length cap) L.length vs) (hm : Made w vs L) (hv : IntsT w v l) (hn : n < L.length) :
    SetsR (w.setCell ⟨g, n, none⟩ v) (w.setCell ⟨g, n, none⟩ v).heap.size (.slice (some ⟨g, 0, none⟩) (L.set n l).length cap) (L.set n l) := by
  have k : Keep (fun q => q = g) w (w.setCell ⟨g, n, none⟩ v) := Keep.set (X := fun q => q = g) (Keep.refl _ _) rfl _
  have hni : ∀ b, b = g → ¬ IsInt w b := fun b e => by
    subst e
    obtain ⟨c, hc⟩ := own_ty hr (k := b) rfl
    exact notInt hc (by decide)
  have hvs := hm.1
  have h2 := own_set hr n (by omega) v
  rw [show L.length = (L.set n l).length from List.length_set.symm] at h2
  refine SetsR.made h2 ⟨by rw [List.length_set, List.length_set]; exact hvs, fun i u m hu hl => ?_⟩
  by_cases hi : n = i
  · subst hi
    rw [List.getElem?_set_self (by omega)] at hu hl
    obtain rfl := Option.some.inj hu
    obtain rfl := Option.some.inj hl
    exact hv.keep k hni
  · rw [List.getElem?_set_ne hi] at hu hl
    exact (hm.2 i u m hu hl).keep k hni
theorem IntsT.row {w : World} {base : Nat} {v : Value} {l : List Int} (h : IRow base w v l) : IntsT w v l := IntsT.of_row h
/-- Where what is sought stands: here or behind. -/
def Ahead (a b : List (Int × Int)) (i k : Nat) : Prop := ∀ x, a[i]? = some x → ∃ j, k ≤ j ∧ b[j]? = some x
theorem Ahead.zero {a b : List (Int × Int)} (h : ∀ e, e ∈ a → e ∈ b) : Ahead a b 0 0 := fun x hx => by
  obtain ⟨j, hj⟩ := List.mem_iff_getElem?.1 (h x (List.mem_of_getElem? hx))
  exact ⟨j, Nat.zero_le _, hj⟩
theorem Ahead.skip {a b : List (Int × Int)} {i k : Nat} {x y : Int × Int} (h : Ahead a b i k) (hx : a[i]? = some x) (hy : b[k]? = some y) (hne : y ≠ x) : Ahead a b i (k + 1) := fun z hz => by
  obtain rfl := Option.some.inj (hx.symm.trans hz)
  obtain ⟨j, hj, hb⟩ := h x hx
  refine ⟨j, ?_, hb⟩
  rcases Nat.lt_or_ge k j with g | g
  · exact g
  · obtain rfl : j = k := by omega
    exact absurd (Option.some.inj (hy.symm.trans hb)) hne
theorem Ahead.next {a b : List (Int × Int)} (ha : SrtP a) (hb : SrtP b) (hs : ∀ e, e ∈ a → e ∈ b) {i k : Nat} {x : Int × Int} (hx : a[i]? = some x) (hy : b[k]? = some x) : Ahead a b (i + 1) k := fun z hz => by
  obtain ⟨j, hj⟩ := List.mem_iff_getElem?.1 (hs z (List.mem_of_getElem? hz))
  exact ⟨j, Nat.le_of_lt (srtP_idx hb hy hj (srtP_next ha hx hz)), hj⟩
theorem Ahead.found {a b : List (Int × Int)} {i k : Nat} {x : Int × Int} (h : Ahead a b i k) (hx : a[i]? = some x) : k < b.length := by
  obtain ⟨j, hj, hb⟩ := h x hx
  rcases Nat.lt_or_ge j b.length with g | g
  · omega
  · rw [List.getElem?_eq_none g] at hb; cases hb
end Go.Proofs.YtnpnhbfbklibhaaGreatDoor


/- The least answer, plainly: rounds of rules, and where they end. -/
namespace Go.Proofs.YtnpnhbfbklibhaaGreatDoor
set_option linter.unusedSimpArgs false
set_option linter.unusedVariables false
open Go Go.RowKit

/-- Does a rule put an object into a node? -/
def PP.baseAt (P : PP) (j : Nat) (n : Nat) (x : Int) : Prop := (P.ruleV j (P.stAt j)).kind.toList = bBase.toList ∧ (P.ruleV j (P.stAt j)).a = (n : Int) ∧ (P.ruleV j (P.stAt j)).b = x
/-- Where a round stands: so many rules, and so many edges, are done. -/
structure RoundAt (P : PP) (has : List (List Int)) (EL : List (Int × Int)) (k m : Nat) (S : List (List Int)) : Prop where
  len : S.length = has.length
  ok : ∀ l ∈ S, chkE l = 0
  mem : ∀ n x, n < has.length → (x ∈ S.getD n [] ↔ x ∈ has.getD n [] ∨ (∃ j, j < k ∧ P.baseAt j n x) ∨ ∃ (i : Nat) (e : Int × Int), i < m ∧ EL[i]? = some e ∧ e.2 = (n : Int) ∧ x ∈ has.getD e.1.toNat [])
theorem getD_mem {S : List (List Int)} {n : Nat} (hn : n < S.length) : S.getD n [] ∈ S := by
  rw [List.getD_eq_getElem?_getD, List.getElem?_eq_getElem hn]
  exact List.getElem_mem hn
theorem RoundAt.start {P : PP} {has : List (List Int)} (hg : P.GoodS has) (EL : List (Int × Int)) : RoundAt P has EL 0 0 has :=
  ⟨rfl, fun l hl => (hg.ok.ok l hl).1, fun n x _ => ⟨.inl, fun h => by
    rcases h with h | ⟨j, hj, _⟩ | ⟨i, e, hi, _⟩
    · exact h
    · omega
    · omega⟩⟩
theorem RoundAt.uniq {P : PP} {has : List (List Int)} {EL : List (Int × Int)} {k m : Nat} {S T : List (List Int)} (h : RoundAt P has EL k m S) (g : RoundAt P has EL k m T) : S = T := by
  refine List.ext_getElem? fun n => ?_
  by_cases hn : n < has.length
  · have hs : n < S.length := by rw [h.len]; exact hn
    have ht : n < T.length := by rw [g.len]; exact hn
    have e : S.getD n [] = T.getD n [] := srt_uniq (chkE_zero.1 (h.ok _ (getD_mem hs))).2 (chkE_zero.1 (g.ok _ (getD_mem ht))).2 fun x => (h.mem n x hn).trans (g.mem n x hn).symm
    rw [List.getD_eq_getElem?_getD, List.getD_eq_getElem?_getD, List.getElem?_eq_getElem hs, List.getElem?_eq_getElem ht] at e
    rw [List.getElem?_eq_getElem hs, List.getElem?_eq_getElem ht]
    exact congrArg some e
  · rw [List.getElem?_eq_none (by rw [h.len]; omega), List.getElem?_eq_none (by rw [g.len]; omega)]
theorem set_getD {S : List (List Int)} {a n : Nat} {l : List Int} (ha : a < S.length) : (S.set a l).getD n [] = if a = n then l else S.getD n [] := by
  rw [List.getD_eq_getElem?_getD, List.getElem?_set]
  by_cases h : a = n
  · subst h; rw [if_pos rfl, if_pos ha, if_pos rfl]; rfl
  · rw [if_neg h, if_neg h, List.getD_eq_getElem?_getD]
theorem set_ok {S : List (List Int)} {a : Nat} {l : List Int} (h : ∀ m ∈ S, chkE m = 0) (hl : chkE l = 0) : ∀ m ∈ S.set a l, chkE m = 0 := fun m hm => by
  rcases List.mem_or_eq_of_mem_set hm with h1 | h1
  · exact h m h1
  · rw [h1]; exact hl
/-- One base rule more. -/
theorem RoundAt.base {P : PP} {has : List (List Int)} {EL : List (Int × Int)} {k : Nat} {S : List (List Int)} (h : RoundAt P has EL k 0 S) (hb : (P.ruleV k (P.stAt k)).kind.toList = bBase.toList) {a : Nat} {b : Int} (ha : (P.ruleV k (P.stAt k)).a = (a : Int)) (hbb : (P.ruleV k (P.stAt k)).b = b) (hb1 : 0 ≤ b ∧ b < 1000) (hal : a < has.length) :
    RoundAt P has EL (k + 1) 0 (S.set a (sset (S.getD a [] ++ [b]))) := by
  have has' : a < S.length := by rw [h.len]; exact hal
  have hin : InR (S.getD a [] ++ [b]) := (chkE_zero.1 (h.ok _ (getD_mem has'))).1.app fun x hx => by obtain rfl := List.mem_singleton.1 hx; exact hb1
  refine ⟨by rw [List.length_set]; exact h.len, set_ok h.ok (chkE_sset _), fun n x hn => ?_⟩
  rw [set_getD has']
  by_cases han : a = n
  · subst han
    rw [if_pos rfl, mem_sset hin, List.mem_append, h.mem a x hn, List.mem_singleton]
    constructor
    · rintro ((h1 | ⟨j, hj, h1⟩ | ⟨i, e, hi, _⟩) | rfl)
      · exact .inl h1
      · exact .inr (.inl ⟨j, by omega, h1⟩)
      · omega
      · exact .inr (.inl ⟨k, by omega, hb, ha, hbb⟩)
    · rintro (h1 | ⟨j, hj, h1⟩ | ⟨i, e, hi, _⟩)
      · exact .inl (.inl h1)
      · by_cases hjk : j = k
        · subst hjk
          exact .inr (h1.2.2.symm.trans hbb)
        · exact .inl (.inr (.inl ⟨j, by omega, h1⟩))
      · omega
  · rw [if_neg han, h.mem n x hn]
    refine or_congr Iff.rfl (or_congr ⟨fun ⟨j, hj, h1⟩ => ⟨j, by omega, h1⟩, fun ⟨j, hj, h1⟩ => ⟨j, ?_, h1⟩⟩ Iff.rfl)
    by_cases hjk : j = k
    · subst hjk
      have := h1.2.1
      omega
    · omega
theorem RoundAt.skip {P : PP} {has : List (List Int)} {EL : List (Int × Int)} {k : Nat} {S : List (List Int)} (h : RoundAt P has EL k 0 S) (hb : (P.ruleV k (P.stAt k)).kind.toList ≠ bBase.toList) : RoundAt P has EL (k + 1) 0 S :=
  ⟨h.len, h.ok, fun n x hn => (h.mem n x hn).trans (or_congr Iff.rfl (or_congr ⟨fun ⟨j, hj, h1⟩ => ⟨j, by omega, h1⟩, fun ⟨j, hj, h1⟩ => ⟨j, by
    by_cases hjk : j = k
    · subst hjk; exact absurd h1.1 hb
    · omega, h1⟩⟩ Iff.rfl))⟩
/-- One edge more. -/
theorem RoundAt.edge {P : PP} {has : List (List Int)} {EL : List (Int × Int)} {k m : Nat} {S : List (List Int)} (h : RoundAt P has EL k m S) {a b : Nat} (he : EL[m]? = some ((a : Int), (b : Int))) (hok : ∀ l ∈ has, chkE l = 0) (hal : a < has.length) (hbl : b < has.length) :
    RoundAt P has EL k (m + 1) (S.set b (sset (S.getD b [] ++ has.getD a []))) := by
  have hbs : b < S.length := by rw [h.len]; exact hbl
  have hin : InR (S.getD b [] ++ has.getD a []) := (chkE_zero.1 (h.ok _ (getD_mem hbs))).1.app (chkE_zero.1 (hok _ (getD_mem hal))).1
  refine ⟨by rw [List.length_set]; exact h.len, set_ok h.ok (chkE_sset _), fun n x hn => ?_⟩
  rw [set_getD hbs]
  by_cases hbn : b = n
  · subst hbn
    rw [if_pos rfl, mem_sset hin, List.mem_append, h.mem b x hn]
    constructor
    · rintro ((h1 | h1 | ⟨i, e, hi, h1⟩) | h1)
      · exact .inl h1
      · exact .inr (.inl h1)
      · exact .inr (.inr ⟨i, e, by omega, h1⟩)
      · exact .inr (.inr ⟨m, _, by omega, he, rfl, h1⟩)
    · rintro (h1 | h1 | ⟨i, e, hi, h1, h2, h3⟩)
      · exact .inl (.inl h1)
      · exact .inl (.inr (.inl h1))
      · by_cases him : i = m
        · subst him
          obtain rfl := Option.some.inj (he.symm.trans h1)
          exact .inr h3
        · exact .inl (.inr (.inr ⟨i, e, by omega, h1, h2, h3⟩))
  · rw [if_neg hbn, h.mem n x hn]
    refine or_congr Iff.rfl (or_congr Iff.rfl ⟨fun ⟨i, e, hi, h1⟩ => ⟨i, e, by omega, h1⟩, fun ⟨i, e, hi, h1, h2, h3⟩ => ⟨i, e, ?_, h1, h2, h3⟩⟩)
    by_cases him : i = m
    · subst him
      obtain rfl := Option.some.inj (he.symm.trans h1)
      exact absurd (Int.ofNat_inj.1 h2) hbn
    · omega
/-- What base rules put into a node, and what comes along edges. -/
def PP.basesOf (P : PP) (n : Nat) : List Int := (P.rulesV.filter fun r => decide (r.kind.toList = bBase.toList) && decide (r.a = (n : Int))).map RV.b
def PP.comesTo (P : PP) (has : List (List Int)) (n : Nat) : List Int := ((P.edgesL has).filter fun e => decide (e.2 = (n : Int))).flatMap fun e => has.getD e.1.toNat []
/-- A round of rules. -/
def PP.roundV (P : PP) (has : List (List Int)) : List (List Int) := (List.range has.length).map fun n => sset (has.getD n [] ++ (P.basesOf n ++ P.comesTo has n))
theorem mem_rulesV {P : PP} {r : RV} : r ∈ P.rulesV ↔ ∃ j, j < P.stmts.length ∧ r = P.ruleV j (P.stAt j) := by
  unfold PP.rulesV PP.rulesUp
  rw [List.mem_map]
  exact ⟨fun ⟨j, hj, e⟩ => ⟨j, List.mem_range.1 hj, e.symm⟩, fun ⟨j, hj, e⟩ => ⟨j, List.mem_range.2 hj, e.symm⟩⟩
theorem placeV_in {P : PP} {k : Nat} (hk : k < P.stmts.length) (hn : P.isNew k = true) : 0 ≤ P.placeV (k : Int) ∧ P.placeV (k : Int) < (P.nodesV : Int) := by
  have h1 : P.newsN (k + 1) = P.newsN k + 1 := by rw [PP.newsN_succ, hn]; rfl
  have h2 : ∀ d, P.newsN (k + 1) ≤ P.newsN (k + 1 + d) := fun d => by
    induction d with
    | zero => exact Nat.le_refl _
    | succ d ih =>
      have h5 := P.newsN_succ (k + 1 + d)
      rw [show k + 1 + (d + 1) = (k + 1 + d) + 1 from rfl]
      split at h5 <;> omega
  have h3 := h2 (P.stmts.length - (k + 1))
  rw [show k + 1 + (P.stmts.length - (k + 1)) = P.stmts.length by omega] at h3
  unfold PP.placeV PP.nodesV
  rw [if_pos ⟨by omega, by omega, by rw [Int.toNat_natCast]; exact hn⟩, Int.toNat_natCast]
  omega
/-- What a base rule puts is an object. -/
theorem base_b_in {P : PP} (hw : P.Well) {k : Nat} (hk : k < P.stmts.length) (hb : (P.ruleV k (P.stAt k)).kind.toList = bBase.toList) : 0 ≤ (P.ruleV k (P.stAt k)).b ∧ (P.ruleV k (P.stAt k)).b < (P.objectsV : Int) := by
  have h0 := hw.2 k (P.stAt k) hk (stAt_some hk)
  have hg := PP.good h0
  have hnv := nodes_vars P
  have hob : P.objectsV = P.nodesV + P.funs.length := rfl
  have hnew : (P.stAt k).isK kNew = true → P.isNew k = true := fun h => by unfold PP.isNew; rw [stAt_some hk]; exact h
  obtain ⟨x, hx⟩ : ∃ x, x = P.stAt k := ⟨_, rfl⟩
  rw [← hx] at h0 hg hb hnew ⊢
  have hbl := eq_of_beq bBase_list
  rcases kind_cases h0 with g | g | g | g | g | g | g
  · have e : P.ruleV k x = ⟨bBase, x.x, x.y, k, []⟩ := by unfold PP.ruleV; rw [g]; rfl
    have hy := hg.yv (isK_ne g (k' := kFun) rfl) (isK_ne g (k' := kNew) rfl)
    rw [e]
    exact ⟨hy.1, by show x.y < _; omega⟩
  · have e : P.ruleV k x = ⟨x.kind, x.y, x.x, k, []⟩ := by unfold PP.ruleV; rw [isK_ne g (k' := kAddr) rfl, isK_ne g (k' := kNew) rfl, isK_ne g (k' := kFun) rfl, isK_ne g (k' := kCall) rfl]; rfl
    rw [e, hbl] at hb
    have hk' : x.kind.toList = kCopy := eq_of_beq g
    rw [show x.kind.toList = [98, 97, 115, 101] from hb] at hk'
    exact absurd hk' (by decide)
  · have e : P.ruleV k x = ⟨x.kind, x.y, x.x, k, []⟩ := by unfold PP.ruleV; rw [isK_ne g (k' := kAddr) rfl, isK_ne g (k' := kNew) rfl, isK_ne g (k' := kFun) rfl, isK_ne g (k' := kCall) rfl]; rfl
    rw [e, hbl] at hb
    have hk' : x.kind.toList = kLoad := eq_of_beq g
    rw [show x.kind.toList = [98, 97, 115, 101] from hb] at hk'
    exact absurd hk' (by decide)
  · have e : P.ruleV k x = ⟨x.kind, x.y, x.x, k, []⟩ := by unfold PP.ruleV; rw [isK_ne g (k' := kAddr) rfl, isK_ne g (k' := kNew) rfl, isK_ne g (k' := kFun) rfl, isK_ne g (k' := kCall) rfl]; rfl
    rw [e, hbl] at hb
    have hk' : x.kind.toList = kStore := eq_of_beq g
    rw [show x.kind.toList = [98, 97, 115, 101] from hb] at hk'
    exact absurd hk' (by decide)
  · have e : P.ruleV k x = ⟨bBase, x.x, P.placeV k, k, []⟩ := by unfold PP.ruleV; rw [isK_ne g (k' := kAddr) rfl, g]; rfl
    have hp := placeV_in hk (hnew g)
    rw [e]
    exact ⟨hp.1, by show P.placeV k < _; omega⟩
  · have e : P.ruleV k x = ⟨bBase, x.x, (P.nodesV : Int) + x.y, k, []⟩ := by unfold PP.ruleV; rw [isK_ne g (k' := kAddr) rfl, isK_ne g (k' := kNew) rfl, g]; rfl
    have hy := hg.yf g
    rw [e]
    exact ⟨by show 0 ≤ (P.nodesV : Int) + x.y; omega, by show (P.nodesV : Int) + x.y < _; omega⟩
  · have e : P.ruleV k x = ⟨bCall, x.y, x.x, k, x.args⟩ := by unfold PP.ruleV; rw [isK_ne g (k' := kAddr) rfl, isK_ne g (k' := kNew) rfl, isK_ne g (k' := kFun) rfl, g]; rfl
    rw [e, hbl, show (RV.mk bCall x.y x.x k x.args).kind.toList = [99, 97, 108, 108] from eq_of_beq bCall_list] at hb
    exact absurd hb (by decide)
theorem mem_basesOf {P : PP} {n : Nat} {x : Int} : x ∈ P.basesOf n ↔ ∃ j, j < P.stmts.length ∧ P.baseAt j n x := by
  unfold PP.basesOf
  rw [List.mem_map]
  constructor
  · rintro ⟨r, hr, rfl⟩
    obtain ⟨h1, h2⟩ := List.mem_filter.1 hr
    obtain ⟨j, hj, rfl⟩ := mem_rulesV.1 h1
    rw [Bool.and_eq_true, decide_eq_true_iff, decide_eq_true_iff] at h2
    exact ⟨j, hj, h2.1, h2.2, rfl⟩
  · rintro ⟨j, hj, h1, h2, h3⟩
    exact ⟨_, List.mem_filter.2 ⟨mem_rulesV.2 ⟨j, hj, rfl⟩, by rw [Bool.and_eq_true, decide_eq_true_iff, decide_eq_true_iff]; exact ⟨h1, h2⟩⟩, h3⟩
theorem mem_comesTo {P : PP} {has : List (List Int)} {n : Nat} {x : Int} : x ∈ P.comesTo has n ↔ ∃ (i : Nat) (e : Int × Int), i < (P.edgesL has).length ∧ (P.edgesL has)[i]? = some e ∧ e.2 = (n : Int) ∧ x ∈ has.getD e.1.toNat [] := by
  unfold PP.comesTo
  rw [List.mem_flatMap]
  constructor
  · rintro ⟨e, he, hx⟩
    obtain ⟨h1, h2⟩ := List.mem_filter.1 he
    obtain ⟨i, hi⟩ := List.mem_iff_getElem?.1 h1
    have hil : i < (P.edgesL has).length := by
      rcases Nat.lt_or_ge i (P.edgesL has).length with h | h
      · exact h
      · rw [List.getElem?_eq_none h] at hi; cases hi
    exact ⟨i, e, hil, hi, of_decide_eq_true h2, hx⟩
  · rintro ⟨i, e, _, hi, h2, hx⟩
    exact ⟨e, List.mem_filter.2 ⟨List.mem_of_getElem? hi, decide_eq_true h2⟩, hx⟩
theorem getD_in {P : PP} {has : List (List Int)} (hs : SetsOk P has) (i : Nat) (x : Int) (hx : x ∈ has.getD i []) : 0 ≤ x ∧ x < (P.objectsV : Int) := by
  rw [List.getD_eq_getElem?_getD] at hx
  cases he : has[i]? with
  | none => rw [he] at hx; cases hx
  | some l =>
    rw [he] at hx
    have hm := List.mem_of_getElem? he
    exact ⟨(hs.inr l hm x hx).1, (hs.ok l hm).2 x hx⟩
theorem round_all_in {P : PP} {has : List (List Int)} (hg : P.GoodS has) (n : Nat) : ∀ x ∈ has.getD n [] ++ (P.basesOf n ++ P.comesTo has n), 0 ≤ x ∧ x < (P.objectsV : Int) := fun x hx => by
  rcases List.mem_append.1 hx with h | h
  · exact getD_in hg.ok n x h
  · rcases List.mem_append.1 h with h | h
    · obtain ⟨j, hj, h1, _, h3⟩ := mem_basesOf.1 h
      have := base_b_in hg.1 hj h1
      rw [h3] at this
      exact this
    · obtain ⟨_, e, _, _, _, h4⟩ := mem_comesTo.1 h
      exact getD_in hg.ok _ x h4
theorem round_in {P : PP} {has : List (List Int)} (hg : P.GoodS has) (n : Nat) : InR (has.getD n [] ++ (P.basesOf n ++ P.comesTo has n)) := fun x hx => by
  have h1 := round_all_in hg n x hx
  have h2 := objects_few hg.1
  omega
theorem roundV_getD {P : PP} {has : List (List Int)} {n : Nat} (hn : n < has.length) : (P.roundV has).getD n [] = sset (has.getD n [] ++ (P.basesOf n ++ P.comesTo has n)) := by
  unfold PP.roundV
  rw [List.getD_eq_getElem?_getD, List.getElem?_map, List.getElem?_range hn, Option.map_some, Option.getD_some]
theorem roundV_len (P : PP) (has : List (List Int)) : (P.roundV has).length = has.length := by unfold PP.roundV; rw [List.length_map, List.length_range]
theorem mem_roundV {P : PP} {has : List (List Int)} (hg : P.GoodS has) {n : Nat} (hn : n < has.length) {x : Int} : x ∈ (P.roundV has).getD n [] ↔ x ∈ has.getD n [] ∨ (∃ j, j < P.stmts.length ∧ P.baseAt j n x) ∨ ∃ (i : Nat) (e : Int × Int), i < (P.edgesL has).length ∧ (P.edgesL has)[i]? = some e ∧ e.2 = (n : Int) ∧ x ∈ has.getD e.1.toNat [] := by
  rw [roundV_getD hn, mem_sset (round_in hg n), List.mem_append, List.mem_append, mem_basesOf, mem_comesTo]
theorem roundV_at {P : PP} {has : List (List Int)} (hg : P.GoodS has) : RoundAt P has (P.edgesL has) P.stmts.length (P.edgesL has).length (P.roundV has) := by
  refine ⟨roundV_len P has, fun l hl => ?_, fun n x hn => mem_roundV hg hn⟩
  unfold PP.roundV at hl
  obtain ⟨n, _, e⟩ := List.mem_map.1 hl
  rw [← e]
  exact chkE_sset _
/-- A round of sets that are well is well. -/
theorem roundV_good {P : PP} {has : List (List Int)} (hg : P.GoodS has) : P.GoodS (P.roundV has) := by
  refine ⟨hg.1, by rw [roundV_len]; exact hg.2.1, fun l hl => ?_⟩
  unfold PP.roundV at hl
  obtain ⟨n, _, e⟩ := List.mem_map.1 hl
  rw [← e]
  exact setE_of (chkE_sset _) fun x hx => (round_all_in hg n x (mem_sset0.1 hx).1).2
end Go.Proofs.YtnpnhbfbklibhaaGreatDoor


/- The least answer, plainly: it is closed, and within each that is closed. -/
namespace Go.Proofs.YtnpnhbfbklibhaaGreatDoor
set_option linter.unusedSimpArgs false
set_option linter.unusedVariables false
open Go Go.RowKit

/-- So many rounds, from nothing. -/
def PP.iterV (P : PP) : Nat → List (List Int)
  | 0 => List.replicate P.nodesV []
  | n + 1 => P.roundV (P.iterV n)
theorem iterV_good {P : PP} (hw : P.Well) : ∀ n, P.GoodS (P.iterV n)
  | 0 => ⟨hw, by simp [PP.iterV], fun l hl => by
    obtain rfl := List.eq_of_mem_replicate hl
    exact setE_of (by decide) fun x hx => by cases hx⟩
  | n + 1 => roundV_good (iterV_good hw n)
theorem roundV_sub {P : PP} {has : List (List Int)} (hg : P.GoodS has) : Sub has (P.roundV has) := fun i x hx => by
  by_cases hi : i < has.length
  · exact (mem_roundV hg hi).2 (.inl hx)
  · rw [List.getD_eq_getElem?_getD, List.getElem?_eq_none (by omega)] at hx
    cases hx
/-- What a round does not change is an answer. -/
theorem closed_of_round {P : PP} {has : List (List Int)} (hg : P.GoodS has) (h : P.roundV has = has) : ClosedP P has := by
  refine ⟨fun k hk hb => ?_, fun e he hne n hn => ?_⟩
  · have ha := rule_a_in hg.1 hk
    have hnv := nodes_vars P
    have hl := hg.2.1
    have hm : (P.ruleV k (P.stAt k)).b ∈ (P.roundV has).getD (P.ruleV k (P.stAt k)).a.toNat [] := (mem_roundV hg (by omega)).2 (.inr (.inl ⟨k, hk, hb, by omega, rfl⟩))
    rwa [h] at hm
  · obtain ⟨h1, h2, h3, h4⟩ := edges0_in hg.1 hg.ok e he
    have hl := hg.2.1
    obtain ⟨i, hi⟩ := List.mem_iff_getElem?.1 (((edgesL_are hg).mem e).2 ⟨he, hne⟩)
    have hil : i < (P.edgesL has).length := by
      rcases Nat.lt_or_ge i (P.edgesL has).length with g | g
      · exact g
      · rw [List.getElem?_eq_none g] at hi; cases hi
    have hm : n ∈ (P.roundV has).getD e.2.toNat [] := (mem_roundV hg (by omega)).2 (.inr (.inr ⟨i, e, hil, hi, by omega, hn⟩))
    rwa [h] at hm
/-- A round of what lies within an answer lies within it. -/
theorem round_within {P : PP} {has ans : List (List Int)} (hg : P.GoodS has) (ga : P.GoodS ans) (hc : ClosedP P ans) (hs : Sub has ans) : Sub (P.roundV has) ans := fun i x hx => by
  by_cases hi : i < has.length
  · rcases (mem_roundV hg hi).1 hx with h | ⟨j, hj, h1, h2, h3⟩ | ⟨q, e, _, he, h2, h3⟩
    · exact hs i x h
    · have := hc.base j hj h1
      rw [h2, h3, Int.toNat_natCast] at this
      exact this
    · have h0 := ((edgesL_are hg).mem e).1 (List.mem_of_getElem? he)
      have h5 := hc.edge e (edges0_mono hs e h0.1) h0.2 x (hs _ _ h3)
      rw [h2, Int.toNat_natCast] at h5
      exact h5
  · rw [List.getD_eq_getElem?_getD, List.getElem?_eq_none (by rw [roundV_len]; omega)] at hx
    cases hx
theorem iter_within {P : PP} {ans : List (List Int)} (ga : P.GoodS ans) (hc : ClosedP P ans) : ∀ n, Sub (P.iterV n) ans
  | 0 => fun i x hx => by
    rw [List.getD_eq_getElem?_getD] at hx
    unfold PP.iterV at hx
    rw [List.getElem?_replicate] at hx
    split at hx <;> cases hx
  | n + 1 => round_within (iterV_good ga.1 n) ga hc (iter_within ga hc n)
/-- How many objects there are. -/
def total (S : List (List Int)) : Nat := (S.map List.length).sum
theorem srt_len : ∀ {a b : List Int}, Srt a → Srt b → (∀ x, x ∈ a → x ∈ b) → a.length ≤ b.length ∧ (a.length = b.length → a = b)
  | [], b, _, _, _ => ⟨Nat.zero_le _, fun h => (List.eq_nil_of_length_eq_zero h.symm).symm⟩
  | x :: a, b, ha, hb, h => by
    obtain ⟨s, t, rfl⟩ := List.append_of_mem (h x List.mem_cons_self)
    have hb' := List.pairwise_append.1 hb
    have hbt := List.pairwise_cons.1 hb'.2.1
    have ih := srt_len ha.tail hbt.2 fun e he => by
      have hlt := ha.head e he
      rcases List.mem_append.1 (h e (List.mem_cons_of_mem _ he)) with g | g
      · have := hb'.2.2 e g x List.mem_cons_self
        omega
      · rcases List.mem_cons.1 g with g | g
        · omega
        · exact g
    rw [List.length_append, List.length_cons, List.length_cons]
    refine ⟨by omega, fun hl => ?_⟩
    have hs : s = [] := List.eq_nil_of_length_eq_zero (by omega)
    subst hs
    rw [List.nil_append, ih.2 (by simp at hl; omega)]
theorem total_sub : ∀ {S T : List (List Int)}, S.length = T.length → (∀ l ∈ S, Srt l) → (∀ l ∈ T, Srt l) → (∀ i x, x ∈ S.getD i [] → x ∈ T.getD i []) → total S ≤ total T ∧ (total S = total T → S = T)
  | [], [], _, _, _, _ => ⟨Nat.le_refl _, fun _ => rfl⟩
  | [], _ :: _, h, _, _, _ => by simp at h
  | _ :: _, [], h, _, _, _ => by simp at h
  | a :: S, b :: T, h, hs, ht, hm => by
    have h1 := srt_len (hs a List.mem_cons_self) (ht b List.mem_cons_self) fun x hx => by simpa using hm 0 x (by simpa using hx)
    have h2 := total_sub (S := S) (T := T) (by simpa using h) (fun l hl => hs l (List.mem_cons_of_mem _ hl)) (fun l hl => ht l (List.mem_cons_of_mem _ hl)) fun i x hx => by simpa using hm (i + 1) x (by simpa using hx)
    have e1 : total (a :: S) = a.length + total S := by unfold total; simp
    have e2 : total (b :: T) = b.length + total T := by unfold total; simp
    rw [e1, e2]
    refine ⟨by omega, fun he => ?_⟩
    rw [h1.2 (by omega), h2.2 (by omega)]
theorem total_few : ∀ {S : List (List Int)}, (∀ l ∈ S, l.length ≤ 1000) → total S ≤ S.length * 1000
  | [], _ => Nat.le_refl _
  | a :: S, h => by
    have h1 := h a List.mem_cons_self
    have h2 := total_few (S := S) fun l hl => h l (List.mem_cons_of_mem _ hl)
    have e1 : total (a :: S) = a.length + total S := by unfold total; simp
    rw [e1, List.length_cons]
    omega
theorem good_srt {P : PP} {has : List (List Int)} (hg : P.GoodS has) : ∀ l ∈ has, Srt l := fun l hl => (chkE_zero.1 (hg.ok.ok l hl).1).2
theorem iter_grows {P : PP} (hw : P.Well) (n : Nat) (h : P.iterV (n + 1) ≠ P.iterV n) : total (P.iterV n) + 1 ≤ total (P.iterV (n + 1)) := by
  have hg := iterV_good hw n
  have hg' := iterV_good hw (n + 1)
  have h1 := total_sub (S := P.iterV n) (T := P.iterV (n + 1)) (roundV_len P _).symm (good_srt hg) (good_srt hg') (roundV_sub hg)
  rcases Nat.lt_or_ge (total (P.iterV n)) (total (P.iterV (n + 1))) with g | g
  · exact g
  · exact absurd (h1.2 (by omega)).symm h
theorem iter_few {P : PP} (hw : P.Well) (n : Nat) : total (P.iterV n) ≤ 120000 := by
  have hg := iterV_good hw n
  have h1 := total_few (S := P.iterV n) fun l hl => srt_few (hg.ok.ok l hl).1
  have h2 := hg.2.1
  have h3 := nodesV_le P hw
  omega
/-- The least answer is after n rounds. -/
structure LeastAt (P : PP) (n : Nat) (S : List (List Int)) : Prop where
  eq : S = P.iterV n
  fix : P.roundV S = S
  first : ∀ m, m < n → P.roundV (P.iterV m) ≠ P.iterV m
theorem LeastAt.uniq {P : PP} {n m : Nat} {S T : List (List Int)} (h : LeastAt P n S) (g : LeastAt P m T) : n = m ∧ S = T := by
  have hnm : n = m := by
    rcases Nat.lt_trichotomy n m with k | k | k
    · exact absurd (by rw [← h.eq]; exact h.fix) (g.first n k)
    · exact k
    · exact absurd (by rw [← g.eq]; exact g.fix) (h.first m k)
  subst hnm
  exact ⟨rfl, h.eq.trans g.eq.symm⟩
theorem LeastAt.good {P : PP} (hw : P.Well) {n : Nat} {S : List (List Int)} (h : LeastAt P n S) : P.GoodS S := by rw [h.eq]; exact iterV_good hw n
theorem LeastAt.closed {P : PP} (hw : P.Well) {n : Nat} {S : List (List Int)} (h : LeastAt P n S) : ClosedP P S := closed_of_round (h.good hw) h.fix
theorem LeastAt.within {P : PP} {n : Nat} {S ans : List (List Int)} (h : LeastAt P n S) (ga : P.GoodS ans) (hc : ClosedP P ans) : Sub S ans := by rw [h.eq]; exact iter_within ga hc n
end Go.Proofs.YtnpnhbfbklibhaaGreatDoor


/- Are two lists of numbers one (slices.Equal); are two lists of lists (slices.EqualFunc, fix.same); two sets joined (fix.join). -/
namespace Go.Proofs.YtnpnhbfbklibhaaGreatDoor
set_option linter.unusedSimpArgs false
set_option linter.unusedVariables false
open Go Go.RowKit

theorem ext_take {α : Type} {a b : List α} (hl : a.length = b.length) (h : ∀ j, j < a.length → a[j]? = b[j]?) : a = b :=
  List.ext_getElem? fun i => by
    by_cases hi : i < a.length
    · exact h i hi
    · rw [List.getElem?_eq_none (by omega), List.getElem?_eq_none (by omega)]
set_option maxRecDepth 100000 in
set_option maxHeartbeats 1600000 in
theorem equali_any (va vb : Value) (a b : List Int) (w : World) (n0 : Nat) (ha : IntsR w n0 va a) (hb : IntsR w n0 vb b) :
    Calls Tryz.prog 54 #[va, vb] w fun e w' => e = .returned (.bool (decide (a = b))) ∧ Ext w w' := by
  have hal := ha.len
  have hbl := hb.len
  have HA := hid ha
  have HB := hid hb
  obtain ⟨aa, ca, rfl, _⟩ := ha
  obtain ⟨ab, cb, rfl, _⟩ := hb
  by_cases hl : a.length = b.length
  · have Hl := hid hl
    have e0 : ((a.length : Int) != (b.length : Int)) = false := by rw [hl]; simp
    clear hl
    go_enter Tryz.func54, Tryz.ntmps54
    go_wp2
    clear e0
    go_loopw [13] (fun t13 wr => ∃ k : Nat, t13 = .int .i64 (k : Int) ∧ k ≤ a.length ∧ (∀ j, j < k → a[j]? = b[j]?) ∧ Ext w wr) (fun t13 _ => a.length - (intOf t13).toNat)
    case atStart => exact ⟨0, rfl, Nat.zero_le _, fun j h => by omega, Ext.refl _⟩
    case round =>
      obtain ⟨k, rfl, hk, hp, hx⟩ := hrel
      have Hp := hid hp
      have Hx := hid hx
      clear hp hx
      by_cases hlt : k < a.length
      · have hlt2 : k < b.length := by rw [← Hl.out]; exact hlt
        obtain ⟨ya, p, hya, hpk, hcp⟩ := (HA.out.old (Hx.out.old n0)).at hlt
        subst hya
        obtain ⟨yb, q, hyb, hqk, hcq⟩ := (HB.out.old (Hx.out.old n0)).at hlt2
        subst hyb
        have c0 : ∀ w1, Keep (fun _ => False) wr w1 → w1.cell? (ya.add k) = some (.int .i64 p) := fun w1 k => k.ext.cellx hcp
        have c1 : ∀ w1, Keep (fun _ => False) wr w1 → w1.cell? (yb.add k) = some (.int .i64 q) := fun w1 k => k.ext.cellx hcq
        have Hpk := hid hpk
        have Hqk := hid hqk
        clear hpk hqk hcp hcq
        by_cases hpq : p = q
        · subst hpq
          go_wp2
          refine wp_flowT (fun _ => False) (by kernel_rfl) (by kernel_rfl) ?_
          repeat (apply FlowT.d; (intro w1 hk; unfold does; go_simp; (try go_ints); (first | exact DetR.mk | (simp only [↓IntWalk.iteOmega, Oper.doesUpon_value]; exact DetR.mk) | (simp only [↓IntWalk.iteOmega]; go_simp; (try go_ints); exact DetR.mk))); simp only [Act.put, List.setIfInBounds_toArray, List.set_cons_zero, List.set_cons_succ])
          refine FlowT.fin fun w1 hx1 hk1 => ?_
          have Hx1 := hid (Hx.out.trans hx1)
          clear hx1 hk1 c0 c1
          go_wp2
          go_roundw
          case rel =>
            refine ⟨k + 1, by go_num, by omega, fun j hj => ?_, Hx1.out⟩
            by_cases hjk : j = k
            · subst hjk; exact Hpk.out.trans Hqk.out.symm
            · exact Hp.out j (by omega)
          case measure => simp [intOf]; omega
        · have hpq' : (p != q) = true := bne_iff_ne.2 hpq
          have Hne : Hid (decide (a = b) = false) := hid (decide_eq_false fun h => hpq (by
            have h1 := Hpk.out
            rw [h] at h1
            exact Option.some.inj (h1.symm.trans Hqk.out)))
          clear hpq
          go_wp2
          refine wp_flowT (fun _ => False) (by kernel_rfl) (by kernel_rfl) ?_
          repeat (apply FlowT.d; (intro w1 hk; unfold does; go_simp; (try go_ints); (first | exact DetR.mk | (simp only [↓IntWalk.iteOmega, Oper.doesUpon_value]; exact DetR.mk) | (simp only [↓IntWalk.iteOmega]; go_simp; (try go_ints); exact DetR.mk))); simp only [Act.put, List.setIfInBounds_toArray, List.set_cons_zero, List.set_cons_succ])
          refine FlowT.fin fun w1 hx1 hk1 => ?_
          have Hx1 := hid (Hx.out.trans hx1)
          clear hx1 hk1 c0 c1
          go_wp2
          go_ret
          exact ⟨by rw [Hne.out]; rfl, Hx1.out⟩
      · have Heq : Hid (decide (a = b) = true) := hid (decide_eq_true (ext_take Hl.out fun j hj => Hp.out j (by omega)))
        obtain rfl : k = a.length := by omega
        go_wp2
        go_ret
        exact ⟨by rw [Heq.out]; rfl, Hx.out⟩
  · have e0 : ((a.length : Int) != (b.length : Int)) = true := bne_iff_ne.2 (fun h => hl (Int.ofNat_inj.1 h))
    have Hne : Hid (decide (a = b) = false) := hid (decide_eq_false fun h => hl (by rw [h]))
    clear hl
    go_enter Tryz.func54, Tryz.ntmps54
    go_wp2
    go_ret
    exact ⟨by rw [Hne.out]; rfl, Ext.refl _⟩
set_option maxRecDepth 100000 in
set_option maxHeartbeats 1600000 in
theorem equalfs_any (va vb : Value) (A B : List (List Int)) (w : World) (n0 : Nat) (ha : SetsR w n0 va A) (hb : SetsR w n0 vb B) :
    Calls Tryz.prog 53 #[va, vb, .func (.func 54) #[] #[]] w fun e w' => e = .returned (.bool (decide (A = B))) ∧ Ext w w' := by
  have hal := ha.len
  have hbl := hb.len
  have HA := hid ha
  have HB := hid hb
  obtain ⟨aa, ca, rfl⟩ := ha.form
  obtain ⟨ab, cb, rfl⟩ := hb.form
  clear ha hb
  by_cases hl : A.length = B.length
  · have Hl := hid hl
    have e0 : ((A.length : Int) != (B.length : Int)) = false := by rw [hl]; simp
    clear hl
    go_enter Tryz.func53, Tryz.ntmps53
    go_wp2
    clear e0
    go_loopw [17] (fun t17 wr => ∃ k : Nat, t17 = .int .i64 (k : Int) ∧ k ≤ A.length ∧ (∀ j, j < k → A[j]? = B[j]?) ∧ Ext w wr) (fun t17 _ => A.length - (intOf t17).toNat)
    case atStart => exact ⟨0, rfl, Nat.zero_le _, fun j h => by omega, Ext.refl _⟩
    case round =>
      obtain ⟨k, rfl, hk, hp, hx⟩ := hrel
      have Hp := hid hp
      have Hx := hid hx
      clear hp hx
      by_cases hlt : k < A.length
      · have hlt2 : k < B.length := by rw [← Hl.out]; exact hlt
        obtain ⟨ya, l, bl, cl, hya, hpk, hcp, hI⟩ := (HA.out.ext Hx.out).at hlt
        subst hya
        obtain ⟨yb, m, bm, cm, hyb, hqk, hcq, hI'⟩ := (HB.out.ext Hx.out).at hlt2
        subst hyb
        have HC := hid (equali_any (.slice bl l.length cl) (.slice bm m.length cm) l m wr n0 hI hI')
        obtain ⟨d, hd⟩ : ∃ d, d = decide (l = m) := ⟨_, rfl⟩
        rw [← hd] at HC
        have Hd := hid hd
        have Hpk := hid hpk
        have Hqk := hid hqk
        clear hpk hqk hI hI' hd
        go_wp2_with fail
        refine HC.out.mono ?_
        intro e w1 hx
        obtain ⟨rfl, hx1⟩ := hx
        have Hx1 := hid (Hx.out.trans hx1)
        clear HC hx1 hcp hcq
        cases d with
        | true =>
          have He : Hid (l = m) := hid (of_decide_eq_true Hd.out.symm)
          go_wp2
          go_roundw
          case rel =>
            refine ⟨k + 1, by go_num, by omega, fun j hj => ?_, Hx1.out⟩
            by_cases hjk : j = k
            · subst hjk; rw [Hpk.out, Hqk.out, He.out]
            · exact Hp.out j (by omega)
          case measure => simp [intOf]; omega
        | false =>
          have Hne : Hid (decide (A = B) = false) := hid (decide_eq_false fun h => (of_decide_eq_false Hd.out.symm) (by
            have h1 := Hpk.out
            rw [h] at h1
            exact Option.some.inj (h1.symm.trans Hqk.out)))
          go_wp2
          go_ret
          exact ⟨by rw [Hne.out]; rfl, Hx1.out⟩
      · have Heq : Hid (decide (A = B) = true) := hid (decide_eq_true (ext_take Hl.out fun j hj => Hp.out j (by omega)))
        obtain rfl : k = A.length := by omega
        go_wp2
        go_ret
        exact ⟨by rw [Heq.out]; rfl, Hx.out⟩
  · have e0 : ((A.length : Int) != (B.length : Int)) = true := bne_iff_ne.2 (fun h => hl (Int.ofNat_inj.1 h))
    have Hne : Hid (decide (A = B) = false) := hid (decide_eq_false fun h => hl (by rw [h]))
    clear hl
    go_enter Tryz.func53, Tryz.ntmps53
    go_wp2
    go_ret
    exact ⟨by rw [Hne.out]; rfl, Ext.refl _⟩
theorem fixsame_any (va vb : Value) (A B : List (List Int)) (w : World) (n0 : Nat) (ha : SetsR w n0 va A) (hb : SetsR w n0 vb B) :
    Calls Tryz.prog 25 #[va, vb] w fun e w' => e = .returned (.bool (decide (A = B))) ∧ Ext w w' := by
  have HC := hid (equalfs_any va vb A B w n0 ha hb)
  obtain ⟨aa, ca, rfl⟩ := ha.form
  obtain ⟨ab, cb, rfl⟩ := hb.form
  generalize decide (A = B) = d at *
  clear ha hb
  go_enter Tryz.func25, Tryz.ntmps25
  go_wp2_with fail
  refine HC.out.mono ?_
  intro e w1 hx
  obtain ⟨rfl, hx1⟩ := hx
  have Hx1 := hid hx1
  clear HC hx1
  go_wp2
  go_ret
  exact ⟨rfl, Hx1.out⟩
set_option maxRecDepth 100000 in
set_option maxHeartbeats 800000 in
theorem fixjoin_any (va vb : Value) (a b : List Int) (w : World) (n0 : Nat) (ad : Nat → Addr) (hE : ErrS w ad) (ha : IntsR w n0 va a) (hb : IntsR w n0 vb b) (ka : chkE a = 0) (kb : chkE b = 0) :
    Calls Tryz.prog 38 #[va, vb] w fun e w' => ∃ v, e = .returned v ∧ (∃ x c, v = .slice x (sset (a ++ b)).length c) ∧ IntsT w' v (sset (a ++ b)) ∧ Ext w w' := by
  have HU := hid (setunion_any va vb a b w n0 ad hE ha hb (by have := srt_few ka; omega) (by have := srt_few kb; omega))
  have Hk := hid (bothE_zero.2 ⟨ka, kb⟩)
  obtain ⟨aa, ca, rfl, _⟩ := ha
  obtain ⟨ab, cb, rfl, _⟩ := hb
  obtain ⟨l, hl⟩ : ∃ l, l = sset (a ++ b) := ⟨_, rfl⟩
  rw [← hl] at HU ⊢
  clear hE ka kb hl
  go_enter Tryz.func38, Tryz.ntmps38
  go_wp2_with fail
  refine HU.out.mono ?_
  intro e w1 hx
  obtain ⟨t, rfl, ht, hx1⟩ := hx
  obtain ⟨v, rfl, hrow⟩ : ∃ v, t = .tuple #[v, .nilIface] ∧ IRow w.heap.size w1 v l := by
    rcases ht with ⟨_, v, h1, h2⟩ | ⟨h, _⟩
    · exact ⟨v, h1, h2⟩
    · exact absurd Hk.out h
  obtain ⟨av, cv, rfl⟩ := hrow.form
  have Hr := hid (IntsT.row hrow)
  have Hx1 := hid hx1
  clear HU ht hrow hx1
  go_wp2
  go_ret
  exact ⟨_, rfl, ⟨_, _, rfl⟩, Hr.out, Hx1.out⟩
end Go.Proofs.YtnpnhbfbklibhaaGreatDoor


/- A round of rules (fix.Round), of a well program and sets that are well. -/
namespace Go.Proofs.YtnpnhbfbklibhaaGreatDoor
set_option linter.unusedSimpArgs false
set_option linter.unusedVariables false
open Go Go.RowKit

theorem Made.put {w : World} {base g cap N : Nat} {vs : List Value} {L : List (List Int)} {n : Nat} {v : Value} {l : List Int} (hr : w.ownsRow base 27 1 (.slice (some ⟨g, 0, none⟩) N cap) N vs) (hm : Made w vs L) (hL : L.length = N) (hv : IntsT w v l) (hn : n < N) :
    (w.setCell ⟨g, n, none⟩ v).ownsRow base 27 1 (.slice (some ⟨g, 0, none⟩) N cap) N (vs.set n v) ∧ Made (w.setCell ⟨g, n, none⟩ v) (vs.set n v) (L.set n l) ∧ Keep (fun q => q = g) w (w.setCell ⟨g, n, none⟩ v) := by
  have k : Keep (fun q => q = g) w (w.setCell ⟨g, n, none⟩ v) := Keep.set (X := fun q => q = g) (Keep.refl _ _) rfl _
  have hni : ∀ b, b = g → ¬ IsInt w b := fun b e => by
    subst e
    obtain ⟨c, hc⟩ := own_ty hr (k := b) rfl
    exact notInt hc (by decide)
  have hvs := hm.1
  refine ⟨own_set hr n (by omega) v, ⟨by rw [List.length_set, List.length_set]; exact hvs, fun i u m hu hl => ?_⟩, k⟩
  by_cases hi : n = i
  · subst hi
    rw [List.getElem?_set_self (by omega)] at hu hl
    obtain rfl := Option.some.inj hu
    obtain rfl := Option.some.inj hl
    exact hv.keep k hni
  · rw [List.getElem?_set_ne hi] at hu hl
    exact (hm.2 i u m hu hl).keep k hni
/-- One of the lists of a row that was made. -/
theorem Made.one {w : World} {base g cap N : Nat} {vs : List Value} {S : List (List Int)} (hr : w.ownsRow base 27 1 (.slice (some ⟨g, 0, none⟩) N cap) N vs) (hm : Made w vs S) (hL : S.length = N) {n : Nat} (hn : n < N) : ∃ a c, w.cell? ⟨g, n, none⟩ = some (.slice a (S.getD n []).length c) ∧ IntsR w w.heap.size (.slice a (S.getD n []).length c) (S.getD n []) := by
  have hvs := hm.1
  have h1 : vs[n]? = some (vs[n]'(by omega)) := List.getElem?_eq_getElem (by omega)
  have h2 : S[n]? = some (S[n]'(by omega)) := List.getElem?_eq_getElem (by omega)
  have hT := hm.2 n _ _ h1 h2
  obtain ⟨a, c, ha⟩ := hT.form
  have e : S.getD n [] = S[n]'(by omega) := by rw [List.getD_eq_getElem?_getD, h2]; rfl
  rw [e]
  rw [ha] at h1
  exact ⟨a, c, own_get hr n h1, by rw [← ha]; exact hT.1⟩

set_option maxRecDepth 100000 in
set_option maxHeartbeats 6400000 in
theorem fixround_ok (a1 a2 a3 : Option Addr) (c1 c2 c3 : Nat) (P : PP) (hv : Value) (has : List (List Int)) (w : World) (ad : Nat → Addr) (h : PW w w.heap.size ad a1 a2 a3 c1 c2 c3 P) (hS : ErrS w ad) (hh : SetsR w w.heap.size hv has) (hg : P.GoodS has) :
    Calls Tryz.prog 15 #[pval a1 a2 a3 c1 c2 c3 P, hv] w fun e w' => ∃ a c, e = .returned (.tuple #[.slice a has.length c, .nilIface]) ∧ SetsR w' w'.heap.size (.slice a has.length c) (P.roundV has) ∧ Ext w w' := by
  obtain ⟨ah, ch, rfl⟩ := hh.form
  have hhl := hh.len
  have Hg := hid hg
  obtain ⟨hf1, hf2, hf3⟩ := hg.1.few
  have hN6 : has.length ≤ 120 := by have := nodesV_le P hg.1; have := hg.2.1; omega
  obtain ⟨W, hW⟩ : ∃ W, W = w.alloc (.cells (pcells a1 a2 a3 c1 c2 c3 P) 26) := ⟨_, rfl⟩
  have HX : Hid (Ext w W) := hid (by rw [hW]; exact (Ext.refl _).alloc _)
  have HBx : Hid (Blk W w.heap.size (pcells a1 a2 a3 c1 c2 c3 P) 26) := hid (by rw [hW]; exact Blk.new _ _ _)
  have HWe : Hid (W = w.alloc (.cells #[.slice a1 P.vars.length c1, .slice a2 P.funs.length c2, .slice a3 P.stmts.length c3] 26)) := hid (by rw [hW]; rfl)
  have HE1 := hid (edges_fix a1 a2 a3 c1 c2 c3 P (.slice ah has.length ch) has W ad ((h.ext HX.out).lift HX.out.size) (hS.ext HX.out) ((hh.ext HX.out).lift HX.out.size) hg)
  have HO := fun w1 (x : Ext W w1) => hid (consof_yes a1 a2 a3 c1 c2 c3 P w1 w1.heap.size ad ((h.ext (HX.out.trans x)).lift (HX.out.trans x).size))
  have HH := hid (hh.ext HX.out)
  have HS := hid (hS.ext HX.out)
  have hEl := edgesL_len hg.1 has
  have HRA := hid (roundV_at hg)
  have HA := hid (edgesL_are hg)
  obtain ⟨EL, hEL⟩ : ∃ EL, EL = P.edgesL has := ⟨_, rfl⟩
  rw [← hEL] at HE1 hEl HRA HA
  have d0 := HBx.out.av 0 rfl
  have d1 := HBx.out.av 1 rfl
  have d2 := HBx.out.av 2 rfl
  simp only [pcells, List.getElem_toArray, List.getElem_cons_zero, List.getElem_cons_succ] at d0 d1 d2
  rw [HWe.out] at d0 d1 d2
  unfold pval at HE1 HO ⊢
  clear hW h hS hh hg hEL
  go_enter Tryz.func15, Tryz.ntmps15
  go_wp2_with fail
  rw [← HWe.out]
  refine HE1.out.mono ?_
  intro e w1 hx
  obtain ⟨ae, ce, rfl, hr, _, hx1⟩ := hx
  have Hr1 := hid hr
  have Hx1 := hid hx1
  have HO1 := HO w1 hx1
  clear HE1 HO hr hx1 d0 d1 d2
  have d0 := (HBx.out.ext Hx1.out).av 0 rfl
  have d1 := (HBx.out.ext Hx1.out).av 1 rfl
  have d2 := (HBx.out.ext Hx1.out).av 2 rfl
  simp only [pcells, List.getElem_toArray, List.getElem_cons_zero, List.getElem_cons_succ] at d0 d1 d2
  go_wp2_with fail
  refine HO1.out.mono ?_
  intro e w2 hx
  obtain ⟨v2, rs, rfl, hi, hx2⟩ := hx
  obtain ⟨bv, dv, rfl⟩ := row_form hi.row
  rw [show P.rulesV.length = P.stmts.length from P.rulesUp_len _] at hi ⊢
  have HI := hid hi
  have Hx2 := hid (Hx1.out.trans hx2)
  have HrE := hid (Hr1.out.ext hx2)
  have HH2 := hid (HH.out.ext Hx2.out)
  have HS2 := hid (HS.out.ext Hx2.out)
  have Hxw2 := hid (HX.out.trans Hx2.out)
  have Hlw : Hid (w.heap.size ≤ w2.heap.size) := hid Hxw2.out.size
  clear HO1 hi hx2 d0 d1 d2 Hr1 HH HS
  go_wp2
  go_loopw [9, 35] (fun t9 t35 wr => ∃ (k : Nat) (vs : List Value), t35 = .int .i64 (k : Int) ∧ k ≤ has.length ∧ wr.ownsRow w2.heap.size 27 1 t9 k vs ∧ Made wr vs (has.take k) ∧ Ext w2 wr) (fun _ t35 _ => has.length - (intOf t35).toNat)
  case atStart => exact ⟨0, [], rfl, Nat.zero_le _, World.ownsRow_nil _ _ _ _, ⟨rfl, fun i v l h => by cases h⟩, Ext.refl _⟩
  case round =>
    obtain ⟨k, vs, rfl, hk, hr, hm, hx⟩ := hrel
    obtain ⟨a9, c9, rfl⟩ := row_form hr
    have Hr := hid hr
    have Hm := hid hm
    have Hx := hid hx
    clear hr hm hx
    by_cases hlt : k < has.length
    · obtain ⟨y, l, b, c, hya, hl, hc, hI⟩ := (HH2.out.ext Hx.out).at hlt
      subst hya
      have hll := srt_few (Hg.out.ok.ok l (List.mem_of_getElem? hl)).1
      have HC := hid (clone_big (.slice b l.length c) l wr w.heap.size hI (by omega))
      have Hl := hid hl
      clear hl hI
      go_wp2_with fail
      refine HC.out.mono ?_
      intro e w3 hx
      obtain ⟨v3, rfl, hx3, hr3⟩ := hx
      have HT := hid (IntsT.row hr3)
      obtain ⟨a3', c3', rfl⟩ := hr3.form
      have Hx3 := hid hx3
      clear HC hr3 hx3 hc
      have hxa : Hid (Ext w2 (w3.alloc (.cells #[.slice a3' l.length c3'] 27))) := hid ((Hx.out.trans Hx3.out).alloc _)
      have hx3a : Hid (Ext wr (w3.alloc (.cells #[.slice a3' l.length c3'] 27))) := hid (Hx3.out.alloc _)
      have Hra := hid (own_ext Hr.out hx3a.out)
      have Hma := hid ((Hm.out.ext hx3a.out).snoc (HT.out.ext ((Ext.refl w3).alloc (.cells #[.slice a3' l.length c3'] 27))))
      go_wp2_with (at_builtin; refine wpList_append_el w2.heap.size hxa.out.size 33 27 (.slice none 0 0) 1 24 Tryz.underlying33 rows_info rfl (by omega) (by omega) rfl _ _ rfl (.slice a9 k c9) k vs rfl Hra.out w3.heap.size [.slice a3' l.length c3'] rfl (by simp [Value.oneCell']) rfl (Blk.new _ _ _) (by omega) ?_; intro v' w' h1 h2 h4; obtain ⟨a', c', rfl⟩ := row_form h1; have h3 := hid (Keep.new hxa.out h2 (fun k hk => (World.ownsRow.lt Hra.out k hk).1)); have hm5 := hid (Hma.out.keep h2 (fun b e => by obtain ⟨c, hc⟩ := own_ty Hra.out e; exact IsInt.not hc (by decide))); have h1 := hid h1; clear h2 h4)
      go_roundw
      case rel =>
        refine ⟨k + 1, _, by go_num, by omega, h1.out, ?_, h3.out⟩
        rw [List.take_add_one, Hl.out]
        exact hm5.out
      case measure => simp [intOf]; omega
    · obtain rfl : k = has.length := by omega
      rw [List.take_of_length_le (Nat.le_refl _)] at Hm
      obtain ⟨V, hV⟩ : ∃ V, V = wr := ⟨_, rfl⟩
      subst hV
      clear hlt hk
      go_wp2
      go_loopw [47] (fun t47 wr => ∃ (k : Nat) (vs : List Value) (S : List (List Int)), t47 = .int .i64 (k : Int) ∧ k ≤ P.stmts.length ∧ RoundAt P has EL k 0 S ∧ wr.ownsRow w2.heap.size 27 1 (.slice a9 has.length c9) has.length vs ∧ Made wr vs S ∧ Ext w2 wr) (fun t47 _ => P.stmts.length - (intOf t47).toNat)
      case atStart => exact ⟨0, vs, has, rfl, Nat.zero_le _, RoundAt.start Hg.out EL, Hr.out, Hm.out, Hx.out⟩
      case round =>
        clear Hr Hm Hx
        obtain ⟨k, vs, S, rfl, hk, hra, hr, hm, hx⟩ := hrel
        have HRd := hid hra
        have Hrow := hid hr
        have Hmd := hid hm
        have Hx := hid hx
        have HSl := hid hra.len
        clear hra hr hm hx
        by_cases hlt : k < P.stmts.length
        · obtain ⟨g, cp, hge⟩ := own_some HI.out.row (by rw [show P.rulesV.length = P.stmts.length from P.rulesUp_len _]; omega)
          simp only [Value.slice.injEq] at hge
          obtain ⟨rfl, -, rfl⟩ := hge
          obtain ⟨x, hxk, hxr⟩ := rules_at HI.out.eq hlt
          have hrow := own_ext HI.out.row Hx.out
          rw [show P.rulesV.length = P.stmts.length from P.rulesUp_len _] at hrow
          obtain ⟨q0, q1, q2, q3, q4⟩ := own_r hrow hxk
          have hT := HI.out.args x (List.mem_of_getElem? hxk)
          obtain ⟨aa, ca, hav⟩ := hT.form
          obtain ⟨r, xv⟩ := x
          simp only at hav hxr q0 q1 q2 q3 q4
          subst hav
          obtain ⟨wA, hwA⟩ : ∃ wA, wA = wr.alloc (.cells #[.string r.kind, .int .i64 r.a, .int .i64 r.b, .int .i64 r.k, .slice aa r.args.length ca] 79) := ⟨_, rfl⟩
          have hxA : Ext wr wA := by rw [hwA]; exact (Ext.refl _).alloc _
          have HwAe := hid hwA
          have HwA := hid hxA
          have HBr : Hid (Blk wA wr.heap.size #[.string r.kind, .int .i64 r.a, .int .i64 r.b, .int .i64 r.k, .slice aa r.args.length ca] 79) := hid (by rw [hwA]; exact Blk.new _ _ _)
          have hra := rule_a_in Hg.out.1 hlt
          rw [← hxr] at hra
          have hrb := fun hb => base_b_in Hg.out.1 hlt hb
          rw [← hxr] at hrb
          have hob := objects_few Hg.out.1
          have Hrr := hid hxr
          have hnv := nodes_vars P
          have hlen := Hg.out.2.1
          obtain ⟨A, hA⟩ := Int.eq_ofNat_of_zero_le hra.1
          have hAl : A < has.length := by omega
          have m0 := HBr.out.kc (X := fun _ => False) (fun e => e) 0 rfl
          have m1 := HBr.out.kc (X := fun _ => False) (fun e => e) 1 rfl
          have m2 := HBr.out.kc (X := fun _ => False) (fun e => e) 2 rfl
          simp only [List.getElem_toArray, List.getElem_cons_zero, List.getElem_cons_succ] at m0 m1 m2
          cases hkb : (r.kind.toList == [98, 97, 115, 101]) with
          | true =>
            have hkl : r.kind.toList = bBase.toList := (eq_of_beq hkb).trans (eq_of_beq bBase_list).symm
            have Hkb : Hid ((P.ruleV k (P.stAt k)).kind.toList = bBase.toList) := hid (by rw [← Hrr.out]; exact hkl)
            have hb := hrb hkl
            have Hb : Hid (0 ≤ r.b ∧ r.b < 1000) := hid (by omega)
            obtain ⟨g9, cp9, hge⟩ := own_some Hrow.out (by omega)
            simp only [Value.slice.injEq] at hge
            obtain ⟨rfl, -, rfl⟩ := hge
            obtain ⟨al, cl, hcl, hIl⟩ := Made.one Hrow.out Hmd.out HSl.out hAl
            have Hidx : Hid (A < has.length) := hid hAl
            have hlk : chkE (S.getD A []) = 0 := HRd.out.ok _ (getD_mem (by rw [HSl.out]; exact hAl))
            obtain ⟨la, hla⟩ : ∃ la, la = S.getD A [] := ⟨_, rfl⟩
            rw [← hla] at hcl hIl hlk
            obtain ⟨lj, hlj⟩ : ∃ lj, lj = sset (la ++ [r.b]) := ⟨_, rfl⟩
            have Hst := hid (RoundAt.base HRd.out Hkb.out (by rw [← Hrr.out]; exact hA) (by rw [← Hrr.out]) Hb.out hAl)
            rw [← hla, ← hlj] at Hst
            have hbk : chkE [r.b] = 0 := chkE_zero.2 ⟨fun z hz => by obtain rfl := List.mem_singleton.1 hz; exact Hb.out, List.pairwise_singleton _ _⟩
            have HJ := fun bq wa (y : Ext wA wa) (hB : Blk wa bq #[.int .i64 r.b] 3) => hid (fixjoin_any (.slice al la.length cl) (.slice (some ⟨bq, 0, none⟩) 1 1) la [r.b] wa wa.heap.size ad (HS2.out.ext (Hx.out.trans (HwA.out.trans y))) (ElR.lift (hIl.old ((HwA.out.trans y).old _)) (HwA.out.trans y).size) (IntsR.blk (l := [r.b]) hB rfl (by simp)) hlk hbk)
            rw [← hlj] at HJ
            have c0 : ∀ w1, Keep (fun _ => False) wA w1 → w1.cell? ⟨g9, A, none⟩ = some (.slice al la.length cl) := fun w1 k => (HwA.out.trans k.ext).cellx hcl
            have hll : (la.length : Int) ≤ 9223372036854775807 := by have := srt_few hlk; omega
            rw [hA] at m1
            clear hcl hIl hlk hla hlj hbk hrb hb hkl hwA hxA hxk hxr hrow hT hra hnv hlen hA
            go_wp2
            rw [← HwAe.out]
            refine wp_flowT (fun _ => False) (by kernel_rfl) (by kernel_rfl) ?_
            repeat (apply FlowT.d; (intro w1 hk; unfold does; go_simp; (try go_ints); (first | exact DetR.mk | (simp only [↓IntWalk.iteOmega, Oper.doesUpon_value]; exact DetR.mk) | (simp only [↓IntWalk.iteOmega]; go_simp; (try go_ints); exact DetR.mk))); simp only [Act.put, List.setIfInBounds_toArray, List.set_cons_zero, List.set_cons_succ])
            refine FlowT.s (fun v w' => (∃ b, v = .slice (some ⟨b, 0, none⟩) 1 1) ∧ (∀ b, v = .slice (some ⟨b, 0, none⟩) 1 1 → Blk w' b #[.int .i64 r.b] 3) ∧ Ext wA w') 10 rfl (by kernel_rfl) (fun _ _ _ ⟨h1, h2, h3⟩ y => ⟨h1, fun b e => (h2 b e).ext y, h3.trans y⟩) (fun wa hC hk2 => ?_) ?_
            · unfold does
              go_simp
              exact ⟨hk2.alloc _, ⟨_, rfl⟩, fun b e => by
                obtain rfl : wa.heap.size = b := by simpa using e
                exact Blk.new _ _ _, hC.alloc _⟩
            rintro _ ⟨_, ⟨bq, rfl⟩, _, _⟩
            simp only [Act.put, List.setIfInBounds_toArray, List.set_cons_zero, List.set_cons_succ]
            repeat (apply FlowT.d; (intro w1 hk; unfold does; go_simp; (try go_ints); (first | exact DetR.mk | (simp only [↓IntWalk.iteOmega, Oper.doesUpon_value]; exact DetR.mk) | (simp only [↓IntWalk.iteOmega]; go_simp; (try go_ints); exact DetR.mk))); simp only [Act.put, List.setIfInBounds_toArray, List.set_cons_zero, List.set_cons_succ])
            refine FlowT.s (fun v w' => (∃ x c, v = .slice x lj.length c) ∧ (∀ x c, v = .slice x lj.length c → IntsT w' (.slice x lj.length c) lj) ∧ Ext wA w') 11 rfl (by kernel_rfl) (fun _ _ _ ⟨h1, h2, h3⟩ y => ⟨h1, fun x c e => (h2 x c e).ext y, h3.trans y⟩) (fun wa hC hk2 => ?_) ?_
            · obtain ⟨_, hB, hxa⟩ := hC
              have HJa := HJ bq wa hxa (hB _ rfl)
              unfold does
              go_simp
              refine CallR.act (HJa.out.mono ?_)
              rintro e wb ⟨v, rfl, ⟨x, c, rfl⟩, hT, hx⟩
              refine ⟨_, rfl, hk2.trans (hx.keep _), ⟨x, c, rfl⟩, fun x' c' e => ?_, hxa.trans hx⟩
              rw [← e]
              exact hT
            rintro _ ⟨_, ⟨xj, cj, rfl⟩, _, _⟩
            simp only [Act.put, List.setIfInBounds_toArray, List.set_cons_zero, List.set_cons_succ]
            repeat (apply FlowT.d; (intro w1 hk; unfold does; go_simp; (try go_ints); (first | exact DetR.mk | (simp only [↓IntWalk.iteOmega, Oper.doesUpon_value]; exact DetR.mk) | (simp only [↓IntWalk.iteOmega]; go_simp; (try go_ints); exact DetR.mk))); simp only [Act.put, List.setIfInBounds_toArray, List.set_cons_zero, List.set_cons_succ])
            refine FlowT.last (fun _ w' => w'.ownsRow w2.heap.size 27 1 (.slice (some ⟨g9, 0, none⟩) has.length c9) has.length (vs.set A (.slice xj lj.length cj)) ∧ Made w' (vs.set A (.slice xj lj.length cj)) (S.set A lj) ∧ Ext w2 w') 13 rfl (by kernel_rfl) (by kernel_rfl) (fun wa hC hk2 => ?_) (fun _ w6 hR => ?_)
            · obtain ⟨_, hT, hxa⟩ := hC
              have hT := hT _ _ rfl
              have hrw := own_ext Hrow.out (HwA.out.trans hxa)
              have hmw := Hmd.out.ext (HwA.out.trans hxa)
              obtain ⟨p1, p2, p3⟩ := Made.put hrw hmw HSl.out hT Hidx.out
              obtain ⟨u, hu⟩ : ∃ u, vs[A]? = some u := ⟨_, List.getElem?_eq_getElem (by rw [Hmd.out.1, HSl.out]; exact Hidx.out)⟩
              have z0 := own_get hrw A hu
              have y0 := own_free hrw A
              have hbase := (own_blk hrw).choose_spec.2.1
              have hxx := Keep.new (Hx.out.trans (HwA.out.trans hxa)) p3 fun b e => by rw [e]; exact hbase
              clear hrw hmw hbase
              unfold does
              go_simp
              try exact ⟨p1, p2, hxx⟩
            obtain ⟨h1, h2, h3⟩ := hR
            simp only [Act.put, List.setIfInBounds_toArray, List.set_cons_zero, List.set_cons_succ]
            have Hn1 := hid h1
            have Hn2 := hid h2
            have Hn3 := hid h3
            clear h1 h2 h3
            clear m0 m1 m2 c0 HJ hkb
            go_wp2
            go_roundw
            case rel => exact ⟨k + 1, _, _, by go_num, by omega, Hst.out, Hn1.out, Hn2.out, Hn3.out⟩
            case measure => simp [intOf]; omega
          | false =>
            have Hkb : Hid ((P.ruleV k (P.stAt k)).kind.toList ≠ bBase.toList) := hid (by
              rw [← Hrr.out]
              intro h
              rw [h, bBase_list] at hkb
              cases hkb)
            have HxA := hid (Hx.out.trans HwA.out)
            have Hr2 := hid (own_ext Hrow.out HwA.out)
            have Hm2 := hid (Hmd.out.ext HwA.out)
            have m0' := HBr.out.av 0 rfl
            simp only [List.getElem_toArray, List.getElem_cons_zero, List.getElem_cons_succ] at m0'
            rw [HwAe.out] at m0'
            clear hrb hwA hxA hxk hxr hrow hT hra hnv hlen hA m0 m1 m2
            go_wp2
            rw [← HwAe.out]
            go_roundw
            case rel => exact ⟨k + 1, vs, S, by go_num, by omega, HRd.out.skip Hkb.out, Hr2.out, Hm2.out, HxA.out⟩
            case measure => simp [intOf]; omega
        · obtain rfl : k = P.stmts.length := by omega
          obtain ⟨U, hU⟩ : ∃ U, U = wr := ⟨_, rfl⟩
          subst hU
          clear hlt hk
          go_wp2
          go_loopw [70] (fun t70 wr => ∃ (m : Nat) (vs : List Value) (S : List (List Int)), t70 = .int .i64 (m : Int) ∧ m ≤ EL.length ∧ RoundAt P has EL P.stmts.length m S ∧ wr.ownsRow w2.heap.size 27 1 (.slice a9 has.length c9) has.length vs ∧ Made wr vs S ∧ Ext w2 wr) (fun t70 _ => EL.length - (intOf t70).toNat)
          case atStart => exact ⟨0, vs, S, rfl, Nat.zero_le _, HRd.out, Hrow.out, Hmd.out, Hx.out⟩
          case round =>
            clear HRd Hrow Hmd Hx HSl
            obtain ⟨m, vs, S, rfl, hm1, hra, hr, hm, hx⟩ := hrel
            have HRd := hid hra
            have Hrow := hid hr
            have Hmd := hid hm
            have Hx := hid hx
            have HSl := hid hra.len
            clear hra hr hm hx
            by_cases hlt : m < EL.length
            · obtain ⟨ge, cp, hge⟩ := own_some HrE.out (by omega)
              simp only [Value.slice.injEq] at hge
              obtain ⟨rfl, -, rfl⟩ := hge
              obtain ⟨⟨x, z⟩, hxk⟩ : ∃ x, EL[m]? = some x := ⟨_, List.getElem?_eq_getElem hlt⟩
              obtain ⟨q0, q1⟩ := own_e (own_ext HrE.out Hx.out) hxk
              have hin := edges0_in Hg.out.1 Hg.out.ok _ ((HA.out.mem _).1 (List.mem_of_getElem? hxk)).1
              unfold PP.InN at hin
              obtain ⟨i1, i2, i3, i4⟩ := hin
              simp only at i1 i2 i3 i4
              have hlen := Hg.out.2.1
              obtain ⟨A, rfl⟩ := Int.eq_ofNat_of_zero_le i1
              obtain ⟨B, rfl⟩ := Int.eq_ofNat_of_zero_le i3
              have hAl : A < has.length := by omega
              have hBl : B < has.length := by omega
              obtain ⟨wA, hwA⟩ : ∃ wA, wA = wr.alloc (.cells #[.int .i64 (A : Int), .int .i64 (B : Int)] 82) := ⟨_, rfl⟩
              have hxA : Ext wr wA := by rw [hwA]; exact (Ext.refl _).alloc _
              have HwAe := hid hwA
              have HwA := hid hxA
              have HBe : Hid (Blk wA wr.heap.size #[.int .i64 (A : Int), .int .i64 (B : Int)] 82) := hid (by rw [hwA]; exact Blk.new _ _ _)
              have m0 := HBe.out.kc (X := fun _ => False) (fun e => e) 0 rfl
              have m1 := HBe.out.kc (X := fun _ => False) (fun e => e) 1 rfl
              simp only [List.getElem_toArray, List.getElem_cons_zero, List.getElem_cons_succ] at m0 m1
              obtain ⟨y, l, bl, cl', hya, hl, hc, hI⟩ := (HH2.out.ext Hx.out).at hAl
              subst hya
              have hDl : has.getD A [] = l := by rw [List.getD_eq_getElem?_getD, hl]; rfl
              have hlk' : chkE l = 0 := (Hg.out.ok.ok l (List.mem_of_getElem? hl)).1
              obtain ⟨g9, cp9, hge⟩ := own_some Hrow.out (by omega)
              simp only [Value.slice.injEq] at hge
              obtain ⟨rfl, -, rfl⟩ := hge
              obtain ⟨al, cl, hcl, hIl⟩ := Made.one Hrow.out Hmd.out HSl.out hBl
              have Hidx : Hid (B < has.length) := hid hBl
              have hlk : chkE (S.getD B []) = 0 := HRd.out.ok _ (getD_mem (by rw [HSl.out]; exact hBl))
              obtain ⟨la, hla⟩ : ∃ la, la = S.getD B [] := ⟨_, rfl⟩
              rw [← hla] at hcl hIl hlk
              obtain ⟨lj, hlj⟩ : ∃ lj, lj = sset (la ++ l) := ⟨_, rfl⟩
              have Hst := hid (RoundAt.edge HRd.out hxk (fun l hl => (Hg.out.ok.ok l hl).1) hAl hBl)
              rw [← hla, hDl, ← hlj] at Hst
              have HJ := fun wa (y : Ext wA wa) => hid (fixjoin_any (.slice al la.length cl) (.slice bl l.length cl') la l wa wa.heap.size ad (HS2.out.ext (Hx.out.trans (HwA.out.trans y))) (ElR.lift (hIl.old ((HwA.out.trans y).old _)) (HwA.out.trans y).size) (ElR.lift (hI.old ((HwA.out.trans y).old _)) (Nat.le_trans Hlw.out (Hx.out.trans (HwA.out.trans y)).size)) hlk hlk')
              rw [← hlj] at HJ
              have c0 : ∀ w1, Keep (fun _ => False) wA w1 → w1.cell? ⟨g9, B, none⟩ = some (.slice al la.length cl) := fun w1 k => (HwA.out.trans k.ext).cellx hcl
              have c1' : ∀ w1, Keep (fun _ => False) wA w1 → w1.cell? (y.add A) = some (.slice bl l.length cl') := fun w1 k => (HwA.out.trans k.ext).cellx hc
              have hll : (la.length : Int) ≤ 9223372036854775807 := by have := srt_few hlk; omega
              have hll2 : (l.length : Int) ≤ 9223372036854775807 := by have := srt_few hlk'; omega
              clear hcl hIl hlk hla hlj hwA hxA hxk hlen hl hc hI hDl hlk' i1 i2 i3 i4
              go_wp2
              rw [← HwAe.out]
              clear q0 q1
              refine wp_flowT (fun _ => False) (by kernel_rfl) (by kernel_rfl) ?_
              repeat (apply FlowT.d; (intro w1 hk; unfold does; go_simp; (try go_ints); (first | exact DetR.mk | (simp only [↓IntWalk.iteOmega, Oper.doesUpon_value]; exact DetR.mk) | (simp only [↓IntWalk.iteOmega]; go_simp; (try go_ints); exact DetR.mk))); simp only [Act.put, List.setIfInBounds_toArray, List.set_cons_zero, List.set_cons_succ])
              refine FlowT.s (fun v w' => (∃ x c, v = .slice x lj.length c) ∧ (∀ x c, v = .slice x lj.length c → IntsT w' (.slice x lj.length c) lj) ∧ Ext wA w') 13 rfl (by kernel_rfl) (fun _ _ _ ⟨h1, h2, h3⟩ y => ⟨h1, fun x c e => (h2 x c e).ext y, h3.trans y⟩) (fun wa hC hk2 => ?_) ?_
              · have hxa : Ext wA wa := hC
                have HJa := HJ wa hxa
                unfold does
                go_simp
                refine CallR.act (HJa.out.mono ?_)
                rintro e wb ⟨v, rfl, ⟨x, c, rfl⟩, hT, hx⟩
                refine ⟨_, rfl, hk2.trans (hx.keep _), ⟨x, c, rfl⟩, fun x' c' e => ?_, hxa.trans hx⟩
                rw [← e]
                exact hT
              rintro _ ⟨_, ⟨xj, cj, rfl⟩, _, _⟩
              simp only [Act.put, List.setIfInBounds_toArray, List.set_cons_zero, List.set_cons_succ]
              repeat (apply FlowT.d; (intro w1 hk; unfold does; go_simp; (try go_ints); (first | exact DetR.mk | (simp only [↓IntWalk.iteOmega, Oper.doesUpon_value]; exact DetR.mk) | (simp only [↓IntWalk.iteOmega]; go_simp; (try go_ints); exact DetR.mk))); simp only [Act.put, List.setIfInBounds_toArray, List.set_cons_zero, List.set_cons_succ])
              refine FlowT.last (fun _ w' => w'.ownsRow w2.heap.size 27 1 (.slice (some ⟨g9, 0, none⟩) has.length c9) has.length (vs.set B (.slice xj lj.length cj)) ∧ Made w' (vs.set B (.slice xj lj.length cj)) (S.set B lj) ∧ Ext w2 w') 15 rfl (by kernel_rfl) (by kernel_rfl) (fun wa hC hk2 => ?_) (fun _ w6 hR => ?_)
              · obtain ⟨_, hT, hxa⟩ := hC
                have hT := hT _ _ rfl
                have hrw := own_ext Hrow.out (HwA.out.trans hxa)
                have hmw := Hmd.out.ext (HwA.out.trans hxa)
                obtain ⟨p1, p2, p3⟩ := Made.put hrw hmw HSl.out hT Hidx.out
                obtain ⟨u, hu⟩ : ∃ u, vs[B]? = some u := ⟨_, List.getElem?_eq_getElem (by rw [Hmd.out.1, HSl.out]; exact Hidx.out)⟩
                have z0 := own_get hrw B hu
                have y0 := own_free hrw B
                have hbase := (own_blk hrw).choose_spec.2.1
                have hxx := Keep.new (Hx.out.trans (HwA.out.trans hxa)) p3 fun b e => by rw [e]; exact hbase
                clear hrw hmw hbase
                unfold does
                go_simp
                try exact ⟨p1, p2, hxx⟩
              obtain ⟨h1, h2, h3⟩ := hR
              simp only [Act.put, List.setIfInBounds_toArray, List.set_cons_zero, List.set_cons_succ]
              have Hn1 := hid h1
              have Hn2 := hid h2
              have Hn3 := hid h3
              clear h1 h2 h3
              clear m0 m1 c0 c1' HJ
              go_wp2
              go_roundw
              case rel => exact ⟨m + 1, _, _, by go_num, by omega, Hst.out, Hn1.out, Hn2.out, Hn3.out⟩
              case measure => simp [intOf]; omega
            · obtain rfl : m = EL.length := by omega
              have He : Hid (S = P.roundV has) := hid (HRd.out.uniq HRA.out)
              have HF : Hid (SetsR wr wr.heap.size (.slice a9 has.length c9) (P.roundV has)) := hid (by
                rw [← He.out]
                have := SetsR.made (L := S) (by rw [HSl.out]; exact Hrow.out) Hmd.out
                exact this)
              go_wp2
              go_ret2
              exact ⟨_, _, rfl, HF.out, Hxw2.out.trans Hx.out⟩
end Go.Proofs.YtnpnhbfbklibhaaGreatDoor
