/- Texts of one proof, put together: WH. -/
import Derived.Test.YtkabgmohgjljkaaGreatDoorZRD17

/- run.Object. -/
namespace Go.Proofs.YtkabgmohgjljkaaGreatDoor
set_option linter.unusedSimpArgs false
set_option linter.unusedVariables false
open Go Go.RowKit

set_option maxRecDepth 100000 in
set_option maxHeartbeats 800000 in
theorem runobjectc_any (n len : Int) (b : Bool) (hb : (decide (0 ≤ n) && decide (n < len)) = b) (g : Nat) (w : World) (h : w.cell? ⟨g, 1, none⟩ = some (.int .i64 n)) :
    Calls Tryz.prog 31 #[.int .i64 len, .pointer (some ⟨g, 0, none⟩)] w fun e w' => e = .returned (.bool b) ∧ w' = w := by
  go_enter Tryz.func31, Tryz.ntmps31
  by_cases hn : 0 ≤ n
  · by_cases hn2 : n < len
    · obtain rfl : b = true := by rw [← hb, decide_eq_true hn, decide_eq_true hn2]; rfl
      clear hb
      go_wp2
      go_ret
      exact ⟨rfl, rfl⟩
    · obtain rfl : b = false := by rw [← hb, decide_eq_true hn, decide_eq_false hn2]; rfl
      clear hb
      go_wp2
      go_ret
      exact ⟨rfl, rfl⟩
  · obtain rfl : b = false := by rw [← hb, decide_eq_false hn]; rfl
    clear hb
    go_wp2
    go_ret
    exact ⟨rfl, rfl⟩

theorem and_no {n L : Int} (hn : ¬ (0 ≤ n ∧ n < L)) : (decide (0 ≤ n) && decide (n < L)) = false := by
  by_cases h0 : 0 ≤ n
  · rw [decide_eq_false (fun h => hn ⟨h0, h⟩), Bool.and_false]
  · rw [decide_eq_false h0, Bool.false_and]
theorem and_yes {n L : Int} (hn : 0 ≤ n ∧ n < L) : (decide (0 ≤ n) && decide (n < L)) = true := by
  rw [decide_eq_true hn.1, decide_eq_true hn.2]; rfl
set_option maxRecDepth 100000 in
set_option maxHeartbeats 6400000 in
theorem runobject_any (a1 a2 a3 : Option Addr) (c1 c2 c3 : Nat) (P : PP) (kd : ByteArray) (n : Int) (s : Rn) (w : World) (n0 : Nat) (vv tv pv : Value) (ad : Nat → Addr) (hE : ErrsP w ad) (hR : RnRows w n0 vv tv pv s) (hP : ProgR w n0 (.slice a1 P.vars.length c1) (.slice a2 P.funs.length c2) (.slice a3 P.stmts.length c3) P)
    (hz1 : ∀ s ∈ P.vars, s.size ≤ 1000000) (hz2 : ∀ s ∈ P.names, s.size ≤ 1000000) (hw : P.Well) (hpl : s.places.length ≤ 100000) :
    Calls Tryz.prog 15 #[pval a1 a2 a3 c1 c2 c3 P, .agg #[vv, tv, pv], .agg #[.string kd, .int .i64 n]] w fun e w' => e = .returned (.int .i64 (P.objV s.pl kd.toList n)) ∧ Ext w w' := by
  have hlen : s.pl.length = s.places.length := by simp [Rn.pl]
  obtain ⟨va, vc, rfl⟩ := row_form hR.vars
  obtain ⟨ta, tc, rfl⟩ := row_form hR.things
  obtain ⟨pa, pc, rfl⟩ := row_form hR.places
  have hfew := hw.few
  obtain ⟨W1, hW1⟩ : ∃ W1, W1 = w.alloc (.cells (pcells a1 a2 a3 c1 c2 c3 P) 26) := ⟨_, rfl⟩
  have hx1 : Ext w W1 := by rw [hW1]; exact (Ext.refl _).alloc _
  obtain ⟨W2, hW2⟩ : ∃ W2, W2 = W1.alloc (.cells #[.slice va s.vars.length vc, .slice ta s.things.length tc, .slice pa s.places.length pc] 33) := ⟨_, rfl⟩
  have hx2 : Ext W1 W2 := by rw [hW2]; exact (Ext.refl _).alloc _
  obtain ⟨W3, hW3⟩ : ∃ W3, W3 = W2.alloc (.cells #[.string kd, .int .i64 n] 50) := ⟨_, rfl⟩
  have hx3 : Ext W2 W3 := by rw [hW3]; exact (Ext.refl _).alloc _
  have HX := hid ((hx1.trans hx2).trans hx3)
  have hs1 : W1.heap.size = w.heap.size + 1 := by rw [hW1, heap_size_alloc]
  have hs2 : W2.heap.size = w.heap.size + 2 := by rw [hW2, heap_size_alloc, hs1]
  have HB1 : Hid (Blk W3 w.heap.size (pcells a1 a2 a3 c1 c2 c3 P) 26) := hid (by
    have : Blk W1 w.heap.size (pcells a1 a2 a3 c1 c2 c3 P) 26 := by rw [hW1]; exact Blk.new _ _ _
    exact this.ext (hx2.trans hx3))
  have HB2 : Hid (Blk W3 (w.heap.size + 1) #[.slice va s.vars.length vc, .slice ta s.things.length tc, .slice pa s.places.length pc] 33) := hid (by
    have : Blk W2 (w.heap.size + 1) #[.slice va s.vars.length vc, .slice ta s.things.length tc, .slice pa s.places.length pc] 33 := by rw [← hs1, hW2]; exact Blk.new _ _ _
    exact this.ext hx3)
  have HB3 : Hid (Blk W3 (w.heap.size + 2) #[.string kd, .int .i64 n] 50) := hid (by
    rw [← hs2, hW3]; exact Blk.new _ _ _)
  have HWe : Hid (W3 = ((w.alloc (.cells #[.slice a1 P.vars.length c1, .slice a2 P.funs.length c2, .slice a3 P.stmts.length c3] 26)).alloc (.cells #[.slice va s.vars.length vc, .slice ta s.things.length tc, .slice pa s.places.length pc] 33)).alloc (.cells #[.string kd, .int .i64 n] 50)) := hid (by rw [hW3, hW2, hW1]; rfl)
  have HR := hid (own_ext hR.places HX.out)
  have HPl := fun p w1 (x : Ext w w1) => hid (progplace_any a1 a2 a3 c1 c2 c3 P p w1 n0 ad (hE.ext x) (hP.ext x) hz1 hz2 hw)
  have HNo := fun w1 (x : Ext w w1) => hid (prognodes_any a1 a2 a3 c1 c2 c3 P w1 n0 ad (hE.ext x) (hP.ext x) hz1 hz2 hw)
  have HK := hid (check_well (hE.ext HX.out) (hP.ext HX.out) hz1 hz2 hw)
  have hnl := P.nodesV_le
  unfold pval at HPl HNo HK ⊢
  clear hW1 hW2 hW3 hx1 hx2 hx3 hs1 hs2 hP hE hz1 hz2 hw
  cases h1 : (kd.toList == [118, 97, 114]) with
  | true =>
    have h2 : (kd.toList == [116, 104, 105, 110, 103]) = false := by rw [eq_of_beq h1]; rfl
    have h3 : (kd.toList == [102, 117, 110]) = false := by rw [eq_of_beq h1]; rfl
    by_cases hn : 0 ≤ n ∧ n < P.vars.length
    · have Hr := hid (show P.objV s.pl kd.toList n = n by unfold PP.objV vkVar; rw [h1, cond_true, if_pos hn])
      have Hn := hid hn
      clear hn
      clear hR
      go_enter Tryz.func15, Tryz.ntmps15
      go_wp2_with fail
      rw [← HWe.out]
      refine HK.out.mono ?_
      intro e w1 hx
      obtain ⟨rfl, hx1⟩ := hx
      have X1 := hid (HX.out.trans hx1)
      have B1 := hid (HB1.out.ext hx1)
      have B2 := hid (HB2.out.ext hx1)
      have B3 := hid (HB3.out.ext hx1)
      have R1 := hid (own_ext HR.out hx1)
      have b0 := B1.out.av 0 rfl
      have b1 := B1.out.av 1 rfl
      have b2 := B1.out.av 2 rfl
      have s2 := B2.out.av 2 rfl
      have m0 := B3.out.av 0 rfl
      have m1 := B3.out.av 1 rfl
      simp only [pcells, List.getElem_toArray, List.getElem_cons_zero, List.getElem_cons_succ] at b0 b1 b2 s2 m0 m1
      clear HK hx1 HB1 HB2 HB3 HR HWe HX
      have HC := hid (runobjectc_any _ (P.vars.length : Int) true (and_yes Hn.out) (w.heap.size + 2) w1 m1)
      go_wp2_with fail
      refine HC.out.mono ?_
      intro e w2 hx
      obtain ⟨rfl, rfl⟩ := hx
      clear HC
      go_wp2
      go_ret
      exact ⟨by rw [Hr.out]; rfl, X1.out⟩
    · have Hr := hid (show P.objV s.pl kd.toList n = -1 by unfold PP.objV vkVar; rw [h1, cond_true, if_neg hn])
      have Hn := hid hn
      clear hn
      clear hR
      go_enter Tryz.func15, Tryz.ntmps15
      go_wp2_with fail
      rw [← HWe.out]
      refine HK.out.mono ?_
      intro e w1 hx
      obtain ⟨rfl, hx1⟩ := hx
      have X1 := hid (HX.out.trans hx1)
      have B1 := hid (HB1.out.ext hx1)
      have B2 := hid (HB2.out.ext hx1)
      have B3 := hid (HB3.out.ext hx1)
      have R1 := hid (own_ext HR.out hx1)
      have b0 := B1.out.av 0 rfl
      have b1 := B1.out.av 1 rfl
      have b2 := B1.out.av 2 rfl
      have s2 := B2.out.av 2 rfl
      have m0 := B3.out.av 0 rfl
      have m1 := B3.out.av 1 rfl
      simp only [pcells, List.getElem_toArray, List.getElem_cons_zero, List.getElem_cons_succ] at b0 b1 b2 s2 m0 m1
      clear HK hx1 HB1 HB2 HB3 HR HWe HX
      have HC := hid (runobjectc_any _ (P.vars.length : Int) false (and_no Hn.out) (w.heap.size + 2) w1 m1)
      go_wp2_with fail
      refine HC.out.mono ?_
      intro e w2 hx
      obtain ⟨rfl, rfl⟩ := hx
      clear HC
      go_wp2
      go_ret
      exact ⟨by rw [Hr.out]; rfl, X1.out⟩
  | false =>
    cases h2 : (kd.toList == [116, 104, 105, 110, 103]) with
    | true =>
      have h3 : (kd.toList == [102, 117, 110]) = false := by rw [eq_of_beq h2]; rfl
      by_cases hn : 0 ≤ n ∧ n < s.places.length
      · obtain ⟨N, rfl⟩ := Int.eq_ofNat_of_zero_le hn.1
        have hN : N < s.pl.length := by omega
        obtain ⟨q, hq⟩ : ∃ q, s.pl[N]? = some q := ⟨_, List.getElem?_eq_getElem hN⟩
        have Hr := hid (show P.objV s.pl kd.toList (N : Int) = P.placeV q by unfold PP.objV vkVar vkThing; rw [h1, cond_false, h2, cond_true, if_pos ⟨hn.1, by omega⟩, Int.toNat_natCast, List.getD_eq_getElem?_getD, hq]; rfl)
        obtain ⟨g, cap, hg⟩ := own_some hR.places (by omega)
        simp only [Value.slice.injEq] at hg
        obtain ⟨rfl, _, rfl⟩ := hg
        have hcp := own_get hR.places N (u := .int .i64 q) (by unfold icells; rw [List.getElem?_map, hq]; rfl)
        have Hcp := hid (fun wx (x : Ext w wx) => x.cellx hcp)
        have hN3 : N < s.places.length := by omega
        have Hn := hid hn
        clear hq hN hn hcp
        clear hR
        go_enter Tryz.func15, Tryz.ntmps15
        go_wp2_with fail
        rw [← HWe.out]
        refine HK.out.mono ?_
        intro e w1 hx
        obtain ⟨rfl, hx1⟩ := hx
        have X1 := hid (HX.out.trans hx1)
        have B1 := hid (HB1.out.ext hx1)
        have B2 := hid (HB2.out.ext hx1)
        have B3 := hid (HB3.out.ext hx1)
        have R1 := hid (own_ext HR.out hx1)
        have b0 := B1.out.av 0 rfl
        have b1 := B1.out.av 1 rfl
        have b2 := B1.out.av 2 rfl
        have s2 := B2.out.av 2 rfl
        have m0 := B3.out.av 0 rfl
        have m1 := B3.out.av 1 rfl
        simp only [pcells, List.getElem_toArray, List.getElem_cons_zero, List.getElem_cons_succ] at b0 b1 b2 s2 m0 m1
        clear HK hx1 HB1 HB2 HB3 HR HWe HX
        have HC := hid (runobjectc_any _ (s.places.length : Int) true (and_yes Hn.out) (w.heap.size + 2) w1 m1)
        go_wp2_with fail
        refine HC.out.mono ?_
        intro e w2 hx
        obtain ⟨rfl, rfl⟩ := hx
        clear HC
        clear b0 b1 b2 s2 m0 m1
        go_wp2
        have b0 := B1.out.kc (X := fun _ => False) (fun e => e) 0 rfl
        have b1 := B1.out.kc (X := fun _ => False) (fun e => e) 1 rfl
        have b2 := B1.out.kc (X := fun _ => False) (fun e => e) 2 rfl
        have s2 := B2.out.kc (X := fun _ => False) (fun e => e) 2 rfl
        have m1 := B3.out.kc (X := fun _ => False) (fun e => e) 1 rfl
        simp only [pcells, List.getElem_toArray, List.getElem_cons_zero, List.getElem_cons_succ] at b0 b1 b2 s2 m1
        have r0 : ∀ wx, Keep (fun _ => False) w2 wx → wx.cell? ⟨g, N, none⟩ = some (.int .i64 q) := fun wx k => k.ext.cellx (Hcp.out w2 X1.out)
        refine wp_flowT (fun _ => False) (by kernel_rfl) (by kernel_rfl) ?_
        repeat (apply FlowT.d; (intro w1 hk; unfold does; go_simp; (try go_ints); (first | exact DetR.mk | (simp only [↓IntWalk.iteOmega, Oper.doesUpon_value]; exact DetR.mk) | (simp only [↓IntWalk.iteOmega]; go_simp; (try go_ints); exact DetR.mk))); simp only [Act.put, List.setIfInBounds_toArray, List.set_cons_zero, List.set_cons_succ])
        apply FlowT.d
        · intro w1 hk
          unfold does
          go_simp
          exact CallR.det ((HPl q w1 (X1.out.trans hk.ext)).out)
        simp only [Act.put, List.setIfInBounds_toArray, List.set_cons_zero, List.set_cons_succ]
        repeat (apply FlowT.d; (intro w1 hk; unfold does; go_simp; (try go_ints); (first | exact DetR.mk | (simp only [↓IntWalk.iteOmega, Oper.doesUpon_value]; exact DetR.mk) | (simp only [↓IntWalk.iteOmega]; go_simp; (try go_ints); exact DetR.mk))); simp only [Act.put, List.setIfInBounds_toArray, List.set_cons_zero, List.set_cons_succ])
        refine FlowT.fin fun w3 hx3 hk3 => ?_
        have X3 := hid (X1.out.trans hk3.ext)
        clear hk3 hx3 b0 b1 b2 s2 m1 r0
        go_wp2
        go_ret
        exact ⟨by rw [Hr.out]; rfl, X3.out⟩
      · have Hr := hid (show P.objV s.pl kd.toList n = -1 by unfold PP.objV vkVar vkThing; rw [h1, cond_false, h2, cond_true, if_neg (by rw [hlen]; exact hn)])
        have Hn := hid hn
        clear hn
        clear hR
        go_enter Tryz.func15, Tryz.ntmps15
        go_wp2_with fail
        rw [← HWe.out]
        refine HK.out.mono ?_
        intro e w1 hx
        obtain ⟨rfl, hx1⟩ := hx
        have X1 := hid (HX.out.trans hx1)
        have B1 := hid (HB1.out.ext hx1)
        have B2 := hid (HB2.out.ext hx1)
        have B3 := hid (HB3.out.ext hx1)
        have R1 := hid (own_ext HR.out hx1)
        have b0 := B1.out.av 0 rfl
        have b1 := B1.out.av 1 rfl
        have b2 := B1.out.av 2 rfl
        have s2 := B2.out.av 2 rfl
        have m0 := B3.out.av 0 rfl
        have m1 := B3.out.av 1 rfl
        simp only [pcells, List.getElem_toArray, List.getElem_cons_zero, List.getElem_cons_succ] at b0 b1 b2 s2 m0 m1
        clear HK hx1 HB1 HB2 HB3 HR HWe HX
        have HC := hid (runobjectc_any _ (s.places.length : Int) false (and_no Hn.out) (w.heap.size + 2) w1 m1)
        go_wp2_with fail
        refine HC.out.mono ?_
        intro e w2 hx
        obtain ⟨rfl, rfl⟩ := hx
        clear HC
        go_wp2
        go_ret
        exact ⟨by rw [Hr.out]; rfl, X1.out⟩
    | false =>
      cases h3 : (kd.toList == [102, 117, 110]) with
      | true =>
        by_cases hn : 0 ≤ n ∧ n < P.funs.length
        · have Hr := hid (show P.objV s.pl kd.toList n = (P.nodesV : Int) + n by unfold PP.objV vkVar vkThing vkFun; rw [h1, cond_false, h2, cond_false, h3, cond_true, if_pos hn])
          have Hn := hid hn
          obtain ⟨hn1, hn2⟩ := hn
          clear hR
          go_enter Tryz.func15, Tryz.ntmps15
          go_wp2_with fail
          rw [← HWe.out]
          refine HK.out.mono ?_
          intro e w1 hx
          obtain ⟨rfl, hx1⟩ := hx
          have X1 := hid (HX.out.trans hx1)
          have B1 := hid (HB1.out.ext hx1)
          have B2 := hid (HB2.out.ext hx1)
          have B3 := hid (HB3.out.ext hx1)
          have R1 := hid (own_ext HR.out hx1)
          have b0 := B1.out.av 0 rfl
          have b1 := B1.out.av 1 rfl
          have b2 := B1.out.av 2 rfl
          have s2 := B2.out.av 2 rfl
          have m0 := B3.out.av 0 rfl
          have m1 := B3.out.av 1 rfl
          simp only [pcells, List.getElem_toArray, List.getElem_cons_zero, List.getElem_cons_succ] at b0 b1 b2 s2 m0 m1
          clear HK hx1 HB1 HB2 HB3 HR HWe HX
          have HC := hid (runobjectc_any _ (P.funs.length : Int) true (and_yes Hn.out) (w.heap.size + 2) w1 m1)
          go_wp2_with fail
          refine HC.out.mono ?_
          intro e w2 hx
          obtain ⟨rfl, rfl⟩ := hx
          clear HC
          clear b0 b1 b2 s2 m0 m1
          go_wp2
          have b0 := B1.out.kc (X := fun _ => False) (fun e => e) 0 rfl
          have b1 := B1.out.kc (X := fun _ => False) (fun e => e) 1 rfl
          have b2 := B1.out.kc (X := fun _ => False) (fun e => e) 2 rfl
          have s2 := B2.out.kc (X := fun _ => False) (fun e => e) 2 rfl
          have m1 := B3.out.kc (X := fun _ => False) (fun e => e) 1 rfl
          simp only [pcells, List.getElem_toArray, List.getElem_cons_zero, List.getElem_cons_succ] at b0 b1 b2 s2 m1
          refine wp_flowT (fun _ => False) (by kernel_rfl) (by kernel_rfl) ?_
          repeat (apply FlowT.d; (intro w1 hk; unfold does; go_simp; (try go_ints); (first | exact DetR.mk | (simp only [↓IntWalk.iteOmega, Oper.doesUpon_value]; exact DetR.mk) | (simp only [↓IntWalk.iteOmega]; go_simp; (try go_ints); exact DetR.mk))); simp only [Act.put, List.setIfInBounds_toArray, List.set_cons_zero, List.set_cons_succ])
          apply FlowT.d
          · intro w1 hk
            unfold does
            go_simp
            exact CallR.det ((HNo w1 (X1.out.trans hk.ext)).out)
          simp only [Act.put, List.setIfInBounds_toArray, List.set_cons_zero, List.set_cons_succ]
          repeat (apply FlowT.d; (intro w1 hk; unfold does; go_simp; (try go_ints); (first | exact DetR.mk | (simp only [↓IntWalk.iteOmega, Oper.doesUpon_value]; exact DetR.mk) | (simp only [↓IntWalk.iteOmega]; go_simp; (try go_ints); exact DetR.mk))); simp only [Act.put, List.setIfInBounds_toArray, List.set_cons_zero, List.set_cons_succ])
          refine FlowT.fin fun w3 hx3 hk3 => ?_
          have X3 := hid (X1.out.trans hk3.ext)
          clear hk3 hx3 b0 b1 b2 s2 m1
          go_wp2
          go_ret
          exact ⟨by rw [Hr.out]; rfl, X3.out⟩
        · have Hr := hid (show P.objV s.pl kd.toList n = -1 by unfold PP.objV vkVar vkThing vkFun; rw [h1, cond_false, h2, cond_false, h3, cond_true, if_neg hn])
          have Hn := hid hn
          clear hn
          clear hR
          go_enter Tryz.func15, Tryz.ntmps15
          go_wp2_with fail
          rw [← HWe.out]
          refine HK.out.mono ?_
          intro e w1 hx
          obtain ⟨rfl, hx1⟩ := hx
          have X1 := hid (HX.out.trans hx1)
          have B1 := hid (HB1.out.ext hx1)
          have B2 := hid (HB2.out.ext hx1)
          have B3 := hid (HB3.out.ext hx1)
          have R1 := hid (own_ext HR.out hx1)
          have b0 := B1.out.av 0 rfl
          have b1 := B1.out.av 1 rfl
          have b2 := B1.out.av 2 rfl
          have s2 := B2.out.av 2 rfl
          have m0 := B3.out.av 0 rfl
          have m1 := B3.out.av 1 rfl
          simp only [pcells, List.getElem_toArray, List.getElem_cons_zero, List.getElem_cons_succ] at b0 b1 b2 s2 m0 m1
          clear HK hx1 HB1 HB2 HB3 HR HWe HX
          have HC := hid (runobjectc_any _ (P.funs.length : Int) false (and_no Hn.out) (w.heap.size + 2) w1 m1)
          go_wp2_with fail
          refine HC.out.mono ?_
          intro e w2 hx
          obtain ⟨rfl, rfl⟩ := hx
          clear HC
          go_wp2
          go_ret
          exact ⟨by rw [Hr.out]; rfl, X1.out⟩
      | false =>
        have Hr := hid (show P.objV s.pl kd.toList n = -1 by unfold PP.objV vkVar vkThing vkFun; rw [h1, cond_false, h2, cond_false, h3]; rfl)
        clear hR
        go_enter Tryz.func15, Tryz.ntmps15
        go_wp2_with fail
        rw [← HWe.out]
        refine HK.out.mono ?_
        intro e w1 hx
        obtain ⟨rfl, hx1⟩ := hx
        have X1 := hid (HX.out.trans hx1)
        have B1 := hid (HB1.out.ext hx1)
        have B2 := hid (HB2.out.ext hx1)
        have B3 := hid (HB3.out.ext hx1)
        have R1 := hid (own_ext HR.out hx1)
        have b0 := B1.out.av 0 rfl
        have b1 := B1.out.av 1 rfl
        have b2 := B1.out.av 2 rfl
        have s2 := B2.out.av 2 rfl
        have m0 := B3.out.av 0 rfl
        have m1 := B3.out.av 1 rfl
        simp only [pcells, List.getElem_toArray, List.getElem_cons_zero, List.getElem_cons_succ] at b0 b1 b2 s2 m0 m1
        clear HK hx1 HB1 HB2 HB3 HR HWe HX
        go_wp2
        go_ret
        exact ⟨by rw [Hr.out]; rfl, X1.out⟩
end Go.Proofs.YtkabgmohgjljkaaGreatDoor
