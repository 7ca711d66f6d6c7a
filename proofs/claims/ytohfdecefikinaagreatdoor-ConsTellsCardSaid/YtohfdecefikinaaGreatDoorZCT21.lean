/- Texts of one proof, put together: WM M2 T9. -/
import Derived.Test.YtohfdecefikinaaGreatDoorZCT16
import Derived.Test.YtohfdecefikinaaGreatDoorZCT19
import Derived.Test.YtohfdecefikinaaGreatDoorZCT20

/- RunDoes: the law walked: where the script, or the kind, is long. -/
namespace Go.Proofs.YtohfdecefikinaaGreatDoor
set_option linter.unusedSimpArgs false
set_option linter.unusedVariables false
open Go Go.RowKit

theorem rfprog_all (a1 a2 a3 : Option Addr) (c1 c2 c3 : Nat) (P : PP) (w : World) (h : ProgR w w.heap.size (.slice a1 P.vars.length c1) (.slice a2 P.funs.length c2) (.slice a3 P.stmts.length c3) P)
    (hz1 : ∀ s ∈ P.vars, s.size ≤ 1000000) (hz2 : ∀ s ∈ P.names, s.size ≤ 1000000) :
    Calls Tryz.prog 10 #[pval a1 a2 a3 c1 c2 c3 P] w fun e w' => Ext w w' ∧ ∃ (c : Nat) (p : Int), e = .returned (.agg #[.int .i64 (c : Int), .int .i64 p]) ∧ FaultIs P c p := by
  cases hb : P.big with
  | true => exact rfprog_big a1 a2 a3 c1 c2 c3 P w h hz1 hz2 hb
  | false => exact rfprog_no a1 a2 a3 c1 c2 c3 P w h hz1 hz2 hb
end Go.Proofs.YtohfdecefikinaaGreatDoor


/- ConsMore: the law walked. -/
namespace Go.Proofs.YtohfdecefikinaaGreatDoor
set_option linter.unusedSimpArgs false
set_option linter.unusedVariables false
open Go Go.RowKit

theorem bothE_one {P : PP} {has : List (List Int)} (hg : P.GoodS has) {N : Nat} {l : List Int} (hl : has[N]? = some l) {O : Nat} (hO : O < P.objectsV) : bothE l [(O : Int)] = 0 := by
  have := objects_few hg.1
  refine bothE_zero.2 ⟨(hg.ok.ok l (List.mem_of_getElem? hl)).1, chkE_zero.2 ⟨fun x hx => ?_, List.pairwise_singleton _ _⟩⟩
  obtain rfl := List.mem_singleton.1 hx
  omega
set_option maxRecDepth 100000 in
set_option maxHeartbeats 6400000 in
theorem consmore_any (a1 a2 a3 : Option Addr) (c1 c2 c3 : Nat) (P : PP) (hv : Value) (has : List (List Int)) (n o : Int) (w : World) (ad : Nat → Addr) (hE : ErrsP w ad) (hS : ErrS w ad) (hP : ProgR w w.heap.size (.slice a1 P.vars.length c1) (.slice a2 P.funs.length c2) (.slice a3 P.stmts.length c3) P) (hh : SetsR w w.heap.size hv has) :
    Calls Tryz.prog 4 #[pval a1 a2 a3 c1 c2 c3 P, hv, .int .i64 n, .int .i64 o] w fun e w' => e = .returned (.bool true) ∧ Ext w w' := by
  obtain ⟨ah, ch, rfl⟩ := hh.form
  have hhl := hh.len
  have HE := hid hE
  have HS := hid hS
  have HP := hid hP
  have HH := hid hh
  obtain ⟨W1, hW1⟩ : ∃ W1, W1 = w.alloc (.cells (pcells a1 a2 a3 c1 c2 c3 P) 26) := ⟨_, rfl⟩
  have HX1 : Hid (Ext w W1) := hid (by rw [hW1]; exact (Ext.refl _).alloc _)
  have HB1 : Hid (Blk W1 w.heap.size (pcells a1 a2 a3 c1 c2 c3 P) 26) := hid (by rw [hW1]; exact Blk.new _ _ _)
  have HR := hid (ruled_any W1 ad (hE.ext HX1.out) (hS.ext HX1.out))
  have HW1 : Hid (W1 = w.alloc (.cells #[.slice a1 P.vars.length c1, .slice a2 P.funs.length c2, .slice a3 P.stmts.length c3] 26)) := hid (by rw [hW1]; rfl)
  unfold pval
  clear hE hS hP hh hW1
  go_enter Tryz.func4, Tryz.ntmps4
  go_wp2_with fail
  rw [← HW1.out]
  refine HR.out.mono ?_
  intro e w1 hx
  obtain ⟨rfl, hx1⟩ := hx
  have HL := hid (large_any a1 a2 a3 c1 c2 c3 P w1 w.heap.size (HP.out.ext (HX1.out.trans hx1)))
  unfold pval at HL
  have HX1' := hid (HX1.out.trans hx1)
  have HBp1 := hid (HB1.out.ext hx1)
  have p0 := HBp1.out.av 0 rfl
  have p1 := HBp1.out.av 1 rfl
  have p2 := HBp1.out.av 2 rfl
  simp only [pcells, List.getElem_toArray, List.getElem_cons_zero, List.getElem_cons_succ] at p0 p1 p2
  clear HR hx1
  go_wp2_with fail
  refine HL.out.mono ?_
  intro e w2 hx
  obtain ⟨r, rfl, hr, hsm, hx2⟩ := hx
  have HX2 := hid (HX1'.out.trans hx2)
  have HBp := hid (HBp1.out.ext hx2)
  clear HL hx2 p0 p1 p2
  rcases (by omega : r = 1 ∨ r = 0) with rfl | rfl
  · clear hsm hr
    go_wp2
    go_ret
    exact ⟨rfl, HX2.out⟩
  have HSm := hid (hsm rfl)
  clear hsm hr
  have HL := hid (largesets_any (.slice ah has.length ch) has w2 w.heap.size (HH.out.ext HX2.out))
  go_wp2_with fail
  refine HL.out.mono ?_
  intro e w2' hx
  obtain ⟨r, rfl, hr, hsm, hx2⟩ := hx
  have HX2' := hid (HX2.out.trans hx2)
  have HBp' := hid (HBp.out.ext hx2)
  clear HL hx2
  rcases (by omega : r = 1 ∨ r = 0) with rfl | rfl
  · clear hsm hr
    go_wp2
    go_ret
    exact ⟨rfl, HX2'.out⟩
  have HFew := hid (hsm rfl)
  clear hsm hr
  have hz1 : ∀ s ∈ P.vars, s.size ≤ 1000000 := fun s hs => by have := HSm.out.vs s hs; omega
  have hz2 : ∀ s ∈ P.names, s.size ≤ 1000000 := fun s hs => by
    obtain ⟨f, hf, rfl⟩ := List.mem_map.1 hs
    have := (HSm.out.fs f hf).1
    omega
  have Hz1 := hid hz1
  have Hz2 := hid hz2
  have HPS := hid (show PS0 w2' w2'.heap.size ad a1 a2 a3 c1 c2 c3 P from ⟨HE.out.ext HX2'.out, (HP.out.ext HX2'.out).lift HX2'.out.size, Hz1.out, Hz2.out⟩)
  clear hz1 hz2
  by_cases hn0 : n < 0
  · go_wp2
    go_ret
    exact ⟨rfl, HX2'.out⟩
  obtain ⟨N, rfl⟩ := Int.eq_ofNat_of_zero_le (show 0 ≤ n by omega)
  by_cases hnl : has.length ≤ N
  · go_wp2
    go_ret
    exact ⟨rfl, HX2'.out⟩
  by_cases ho0 : o < 0
  · go_wp2
    go_ret
    exact ⟨rfl, HX2'.out⟩
  obtain ⟨O, rfl⟩ := Int.eq_ofNat_of_zero_le (show 0 ≤ o by omega)
  have p0 := HBp'.out.av 0 rfl
  have p1 := HBp'.out.av 1 rfl
  have p2 := HBp'.out.av 2 rfl
  simp only [pcells, List.getElem_toArray, List.getElem_cons_zero, List.getElem_cons_succ] at p0 p1 p2
  clear hn0 ho0
  rcases Classical.em P.Well with hw | hw
  · have HOb := hid (progobjects_any a1 a2 a3 c1 c2 c3 P w2' w2'.heap.size ad (HPS.out.pw hw))
    have hM6 := objects_few hw
    obtain ⟨M, hM⟩ : ∃ M, M = P.objectsV := ⟨_, rfl⟩
    rw [← hM] at HOb hM6
    have HM := hid hM
    have Hw := hid hw
    unfold pval at HOb
    clear hM hw
    go_wp2_with fail
    refine HOb.out.mono ?_
    intro e w2c hx
    obtain ⟨rfl, hx⟩ := hx
    have HX3p := hid (HX2'.out.trans hx)
    have HBp2 := hid (HBp'.out.ext hx)
    have HPS2 := HPS.out.on (Nat.le_refl _) hx
    have HQ := hid (ownprogram_any a1 a2 a3 c1 c2 c3 P w2c HPS2.prog HSm.out)
    clear HOb hx p0 p1 p2 HPS2
    by_cases hOM : M ≤ O
    · go_wp2
      go_ret
      exact ⟨rfl, HX3p.out⟩
    have p0 := HBp2.out.av 0 rfl
    have p1 := HBp2.out.av 1 rfl
    have p2 := HBp2.out.av 2 rfl
    simp only [pcells, List.getElem_toArray, List.getElem_cons_zero, List.getElem_cons_succ] at p0 p1 p2
    unfold pval at HQ
    go_wp2_with fail
    refine HQ.out.mono ?_
    intro e w3 hx
    obtain ⟨hx3, b1, b2, b3, d1, d2, d3, rfl, hq⟩ := hx
    have HX3 := hid (HX3p.out.trans hx3)
    have Hx3 := hid hx3
    have Hq3 := hid hq
    clear HQ hx3 hq p0 p1 p2
    obtain ⟨W9, hW9⟩ : ∃ W9, W9 = w3.alloc (.cells (pcells b1 b2 b3 d1 d2 d3 P) 26) := ⟨_, rfl⟩
    have hx9 : Ext w3 W9 := by rw [hW9]; exact (Ext.refl _).alloc _
    have HXw := hid (HX3.out.trans hx9)
    have Hw9 := hid (Hx3.out.trans hx9)
    have HB6 : Hid (Blk W9 w3.heap.size (pcells b1 b2 b3 d1 d2 d3 P) 26) := hid (by rw [hW9]; exact Blk.new _ _ _)
    have HW9 : Hid (W9 = w3.alloc (.cells #[.slice b1 P.vars.length d1, .slice b2 P.funs.length d2, .slice b3 P.stmts.length d3] 26)) := hid (by rw [hW9]; rfl)
    have HQ9 : PS0 W9 W9.heap.size ad b1 b2 b3 d1 d2 d3 P := ⟨HE.out.ext HXw.out, (Hq3.out.ext hx9).lift hx9.size, Hz1.out, Hz2.out⟩
    have HS9 := hid (HS.out.ext HXw.out)
    have HZ := hid (Ext.refl W9)
    have HOS := fun w1 (x : Ext W9 w1) => hid (ownsets_at (HH.out.ext HXw.out) HFew.out w1 x)
    clear hx9 hW9
    have HO : Hid (O < P.objectsV) := hid (by rw [← HM.out]; omega)
    have hNl : N < has.length := by omega
    clear hOM hnl hM6
    rcases Classical.em (P.GoodS has) with hg | hg
    · obtain ⟨EL, hEL⟩ : ∃ EL, EL = P.edgesL has := ⟨_, rfl⟩
      obtain ⟨EM, hEM⟩ : ∃ EM, EM = P.edgesL (plusAt has N (O : Int)) := ⟨_, rfl⟩
      have hgp := goodS_plus hg N (O : Int) ⟨by omega, by have := HO.out; omega⟩
      have hO1 : 0 ≤ (O : Int) ∧ (O : Int) < 1000 := by have := HO.out; have := objects_few hg.1; omega
      have hsub : ∀ e, e ∈ EL → e ∈ EM := by
        rw [hEL, hEM]
        exact edgesAre_mono (plusAt_sub hg.ok N (O : Int) hO1) (edgesL_are hg) (edgesL_are hgp)
      have hsA : SrtP EL := by rw [hEL]; exact (edgesL_are hg).srt
      have hsB : SrtP EM := by rw [hEM]; exact (edgesL_are hgp).srt
      have hlen := srtP_sub_len hsA hsB hsub
      have Hsub := hid hsub
      have HsA := hid hsA
      have HsB := hid hsB
      have Hg := hid hg
      have hEl : EL.length ≤ 50000 := by rw [hEL]; exact edgesL_len hg.1 has
      have hEm : EM.length ≤ 50000 := by rw [hEM]; exact edgesL_len hg.1 _
      have HC1 := fun w1 v (x : Ext W9 w1) (hs : SetsR w1 w1.heap.size v has) => hid (edges_fix b1 b2 b3 d1 d2 d3 P v has w1 ad ((HQ9.on (Nat.le_refl _) x).pw hg.1) (HS9.out.ext x) hs hg)
      have HC2 := fun w1 v (x : Ext W9 w1) (hs : SetsR w1 w1.heap.size v (plusAt has N (O : Int))) => hid (edges_fix b1 b2 b3 d1 d2 d3 P v (plusAt has N (O : Int)) w1 ad ((HQ9.on (Nat.le_refl _) x).pw hg.1) (HS9.out.ext x) hs hgp)
      rw [← hEL] at HC1
      rw [← hEM] at HC2
      unfold pval at HC1 HC2
      clear hEL hEM hgp hO1 hsub hsA hsB hg HQ9
      go_wp2
      rw [← HW9.out]
      have g0 := (HB6.out.ext (Ext.refl W9)).kc (X := fun _ => False) (fun e => e) 0 rfl
      have g1 := (HB6.out.ext (Ext.refl W9)).kc (X := fun _ => False) (fun e => e) 1 rfl
      have g2 := (HB6.out.ext (Ext.refl W9)).kc (X := fun _ => False) (fun e => e) 2 rfl
      simp only [pcells, List.getElem_toArray, List.getElem_cons_zero, List.getElem_cons_succ] at g0 g1 g2
      refine wp_flowT (fun _ => False) (by kernel_rfl) (by kernel_rfl) ?_
      repeat (apply FlowT.d; (intro w1 hk; unfold does; go_simp; (try go_ints); (first | exact DetR.mk | (simp only [↓IntWalk.iteOmega, Oper.doesUpon_value]; exact DetR.mk) | (simp only [↓IntWalk.iteOmega]; go_simp; (try go_ints); exact DetR.mk))); simp only [Act.put, List.setIfInBounds_toArray, List.set_cons_zero, List.set_cons_succ])
      refine FlowT.s (fun v w' => (∃ a c, v = .slice a has.length c) ∧ SetsR w' w'.heap.size v has ∧ Ext W9 w') 2 rfl (by kernel_rfl) (fun _ _ _ ⟨h1, h2, h3⟩ y => ⟨h1, (h2.ext y).lift y.size, h3.trans y⟩) (fun wa hC hk2 => ?_) ?_
      · unfold does
        go_simp
        refine CallR.act ((HOS wa (HZ.out.trans hC)).out.mono ?_)
        rintro e wb ⟨a, c, rfl, hs, hx⟩
        exact ⟨_, rfl, hk2.trans (hx.keep _), ⟨a, c, rfl⟩, hs, hC.trans hx⟩
      rintro _ ⟨_, ⟨ao, co, rfl⟩, _, _⟩
      simp only [Act.put, List.setIfInBounds_toArray, List.set_cons_zero, List.set_cons_succ]
      refine FlowT.s (fun v w' => (∃ a c, v = .tuple #[.slice a EL.length c, .nilIface]) ∧ (∀ a c, v = .tuple #[.slice a EL.length c, .nilIface] → ERow 0 w' (.slice a EL.length c) EL) ∧ Ext W9 w') 3 rfl (by kernel_rfl) (fun _ _ _ ⟨h1, h2, h3⟩ y => ⟨h1, fun a c e => (h2 a c e).ext y, h3.trans y⟩) (fun wa hC hk2 => ?_) ?_
      · obtain ⟨_, hs, hx0⟩ := hC
        have HCa := HC1 wa _ (HZ.out.trans hx0) hs
        unfold does
        go_simp
        refine CallR.act (HCa.out.mono ?_)
        rintro e wb ⟨a, c, rfl, hr, hl, hx⟩
        refine ⟨_, rfl, hk2.trans (hx.keep _), ⟨a, c, rfl⟩, fun a' c' e => ?_, hx0.trans hx⟩
        rw [← (show Value.slice a EL.length c = Value.slice a' EL.length c' by simpa using e)]
        exact hr.low (Nat.zero_le _)
      rintro _ ⟨_, ⟨ae, ce, rfl⟩, _, _⟩
      simp only [Act.put, List.setIfInBounds_toArray, List.set_cons_zero, List.set_cons_succ]
      repeat (apply FlowT.d; (intro w1 hk; unfold does; go_simp; (try go_ints); (first | exact DetR.mk | (simp only [↓IntWalk.iteOmega, Oper.doesUpon_value]; exact DetR.mk) | (simp only [↓IntWalk.iteOmega]; go_simp; (try go_ints); exact DetR.mk))); simp only [Act.put, List.setIfInBounds_toArray, List.set_cons_zero, List.set_cons_succ])
      refine FlowT.fin fun w5 hC5 hk5 => ?_
      obtain ⟨_, hr5, hx5⟩ := hC5
      have Hr5 := hid (hr5 _ _ rfl)
      have HZ5 := hid hx5
      have HOr := hid (ownsets_row (.slice ah has.length ch) has w5 w.heap.size (HH.out.ext (HXw.out.trans hx5)) HFew.out)
      clear hr5 hx5 hk5 g0 g1 g2 HC1 HOS
      go_wp2_with fail
      refine HOr.out.mono ?_
      intro e w6 hx
      obtain ⟨vo, vs, rfl, hr, hm, hx6⟩ := hx
      obtain ⟨g, cap, rfl⟩ := own_some hr (by omega)
      obtain ⟨l, hl⟩ : ∃ l, has[N]? = some l := ⟨_, List.getElem?_eq_getElem hNl⟩
      obtain ⟨u, hu⟩ : ∃ u, vs[N]? = some u := ⟨_, List.getElem?_eq_getElem (by rw [hm.1]; exact hNl)⟩
      have hT := hm.2 N u l hu hl
      obtain ⟨au, cu, rfl⟩ := hT.form
      have Hr6 := hid hr
      have Hm6 := hid hm
      have Hl := hid hl
      have HT := hid hT
      have HZ6 := hid (HZ5.out.trans hx6)
      have Hx56 := hid hx6
      obtain ⟨W7, hW7⟩ : ∃ W7, W7 = w6.alloc (.cells #[.int .i64 (O : Int)] 3) := ⟨_, rfl⟩
      have hx7 : Ext w6 W7 := by rw [hW7]; exact (Ext.refl _).alloc _
      have HW7 := hid hW7
      have HZ7 := hid (HZ6.out.trans hx7)
      have Hx67 := hid hx7
      have hll : l.length ≤ 10000 := by have := srt_few (Hg.out.ok.ok l (List.mem_of_getElem? hl)).1; omega
      have HU := hid (setunion_any (.slice au l.length cu) (.slice (some ⟨w6.heap.size, 0, none⟩) 1 1) l [(O : Int)] W7 W7.heap.size ad (HS9.out.ext HZ7.out) (ElR.lift (hT.1.old (hx7.old _)) hx7.size) (IntsR.blk (l := [(O : Int)]) (by rw [hW7]; exact Blk.new w6 #[.int .i64 (O : Int)] 3) rfl (by simp)) hll (by simp))
      have z0 := own_get hr N hu
      have hml : (l.length : Int) ≤ 9223372036854775807 := by omega
      clear HOr hr hm hl hu hT hx6 hW7 hx7 hll
      go_wp2_with fail
      rw [← HW7.out]
      refine HU.out.mono ?_
      intro e w8 hx
      obtain ⟨t, rfl, ht, hx8⟩ := hx
      obtain ⟨v, rfl, hrow⟩ : ∃ v, t = .tuple #[v, .nilIface] ∧ IRow W7.heap.size w8 v (sset (l ++ [(O : Int)])) := by
        rcases ht with ⟨_, v, h1, h2⟩ | ⟨h, _⟩
        · exact ⟨v, h1, h2⟩
        · exact absurd (bothE_one Hg.out Hl.out HO.out) h
      obtain ⟨l2, hl2⟩ : ∃ l2, l2 = sset (l ++ [(O : Int)]) := ⟨_, rfl⟩
      rw [← hl2] at hrow
      obtain ⟨av, cv, rfl⟩ := hrow.form
      have Hrow := hid hrow
      have hx68 := Hx67.out.trans hx8
      have Hr8 := hid (own_ext Hr6.out hx68)
      have Hm8 := hid (Hm6.out.ext hx68)
      have z1 := (hx68).cellx z0
      have fr := own_free Hr8.out N
      have Hpl : Hid (has.set N l2 = plusAt has N (O : Int)) := hid (by unfold plusAt; rw [hl2, List.getD_eq_getElem?_getD, Hl.out]; rfl)
      have HSet := hid (Made.set Hr8.out Hm8.out (IntsT.row hrow) hNl)
      rw [List.length_set, Hpl.out] at HSet
      obtain ⟨_, _, hbase, _⟩ := own_blk Hr6.out
      have hst : Ext w5 (w8.setCell ⟨g, N, none⟩ (.slice av l2.length cv)) := Keep.new (Hx56.out.trans hx68) (Keep.set (X := fun q => q = g) (Keep.refl _ _) rfl _) fun b e => by rw [e]; exact hbase
      have HZs := hid (HZ5.out.trans hst)
      have Hr5s := hid (Hr5.out.ext hst)
      have HC2s := HC2 _ _ HZs.out HSet.out
      have g0 := (HB6.out.ext HZs.out).av 0 rfl
      have g1 := (HB6.out.ext HZs.out).av 1 rfl
      have g2 := (HB6.out.ext HZs.out).av 2 rfl
      simp only [pcells, List.getElem_toArray, List.getElem_cons_zero, List.getElem_cons_succ] at g0 g1 g2
      clear HU ht hl2 hrow hx8 hx68 z0 hbase hst HC2 HSet Hr5 HZ5 Hr8 Hm8 Hr6 Hm6 HT
      go_wp2_with fail
      refine HC2s.out.mono ?_
      intro e wa hx
      obtain ⟨a, c, rfl, hra, _, hxa⟩ := hx
      have HrB := hid hra
      have HrA := hid (Hr5s.out.ext hxa)
      have HZa := hid (HZs.out.trans hxa)
      clear HC2s hra hxa g0 g1 g2 z1 fr Hr5s
      go_wp2
      go_loopw [18, 19] (fun t18 t19 wq => ∃ (k i : Nat), t18 = .int .i64 (k : Int) ∧ t19 = .int .i64 (i : Int) ∧ i ≤ EL.length ∧ k ≤ EM.length ∧ Ahead EL EM i k ∧ Ext wa wq) (fun _ t19 _ => EL.length - (intOf t19).toNat)
      case atStart => exact ⟨0, 0, rfl, rfl, Nat.zero_le _, Nat.zero_le _, Ahead.zero Hsub.out, Ext.refl _⟩
      case round =>
        obtain ⟨k, i, rfl, rfl, hi, hk, hah, hx⟩ := hrel
        have Hah := hid hah
        have Hx := hid hx
        clear hah hx
        by_cases hlt : i < EL.length
        · obtain ⟨⟨x1, x2⟩, hxk⟩ : ∃ x, EL[i]? = some x := ⟨_, List.getElem?_eq_getElem hlt⟩
          have Hxk := hid hxk
          obtain ⟨ga, ca, hge⟩ := own_some HrA.out (by omega)
          simp only [Value.slice.injEq] at hge
          obtain ⟨rfl, -, rfl⟩ := hge
          obtain ⟨gb, cb, hge⟩ := own_some HrB.out (by omega)
          simp only [Value.slice.injEq] at hge
          obtain ⟨rfl, -, rfl⟩ := hge
          clear hxk
          go_wp2
          go_loopw [18] (fun t18 wq => ∃ (k : Nat), t18 = .int .i64 (k : Int) ∧ k ≤ EM.length ∧ Ahead EL EM i k ∧ Ext wa wq) (fun t18 _ => EM.length - (intOf t18).toNat)
          case atStart => exact ⟨k, rfl, hk, Hah.out, Hx.out⟩
          case round =>
            clear Hah hk
            obtain ⟨q, rfl, hq, hah, hx⟩ := hrel
            have hql := hah.found Hxk.out
            have Hah := hid hah
            have Hxq := hid hx
            clear hah hx
            obtain ⟨⟨y1, y2⟩, hyk⟩ : ∃ y, EM[q]? = some y := ⟨_, List.getElem?_eq_getElem hql⟩
            obtain ⟨p0, p1⟩ := own_e (own_ext HrA.out Hxq.out) Hxk.out
            obtain ⟨q0, q1⟩ := own_e (own_ext HrB.out Hxq.out) hyk
            have Hyk := hid hyk
            have j0 : ∀ w1, Keep (fun _ => False) wr w1 → w1.cell? ⟨ga, i * 2, none⟩ = some (.int .i64 x1) := fun w1 k => k.ext.cellx p0
            have j1 : ∀ w1, Keep (fun _ => False) wr w1 → w1.cell? ⟨ga, i * 2 + 1, none⟩ = some (.int .i64 x2) := fun w1 k => k.ext.cellx p1
            have j2 : ∀ w1, Keep (fun _ => False) wr w1 → w1.cell? ⟨gb, q * 2, none⟩ = some (.int .i64 y1) := fun w1 k => k.ext.cellx q0
            have j3 : ∀ w1, Keep (fun _ => False) wr w1 → w1.cell? ⟨gb, q * 2 + 1, none⟩ = some (.int .i64 y2) := fun w1 k => k.ext.cellx q1
            clear p0 p1 q0 q1 hyk
            go_wp2
            refine wp_flowT (fun _ => False) (by kernel_rfl) (by kernel_rfl) ?_
            repeat (apply FlowT.d; (intro w1 hk; unfold does; go_simp; (try go_ints); (first | exact DetR.mk | (simp only [↓IntWalk.iteOmega, Oper.doesUpon_value]; exact DetR.mk) | (simp only [↓IntWalk.iteOmega]; go_simp; (try go_ints); exact DetR.mk))); simp only [Act.put, List.setIfInBounds_toArray, List.set_cons_zero, List.set_cons_succ])
            refine FlowT.fin fun w7 hx7 hk7 => ?_
            have Hx7 := hid (Hxq.out.trans hx7)
            clear hx7 hk7 j0 j1 j2 j3
            by_cases hxy : (y1, y2) = (x1, x2)
            · simp only [Prod.mk.injEq] at hxy
              obtain ⟨rfl, rfl⟩ := hxy
              have Hnext := hid (Ahead.next HsA.out HsB.out Hsub.out Hxk.out Hyk.out)
              rw [show (y1 != y1 || y2 != y2) = false by simp]
              go_wp2
              go_roundw
              case rel => exact ⟨q, i + 1, rfl, by go_num, by omega, hq, Hnext.out, Hx7.out⟩
              case measure => simp [intOf]; omega
            · have Hskip := hid (Hah.out.skip Hxk.out Hyk.out hxy)
              rw [show (y1 != x1 || y2 != x2) = true by
                cases hb : (y1 != x1 || y2 != x2) with
                | true => rfl
                | false =>
                  rw [Bool.or_eq_false_iff, bne_eq_false_iff_eq, bne_eq_false_iff_eq] at hb
                  exact absurd (Prod.ext hb.1 hb.2) hxy]
              clear hxy
              go_wp2
              go_roundw
              case rel => exact ⟨q + 1, by go_num, by omega, Hskip.out, Hx7.out⟩
              case measure => simp [intOf]; omega
        · obtain rfl : i = EL.length := by omega
          go_wp2
          go_ret
          exact ⟨rfl, HXw.out.trans (HZa.out.trans Hx.out)⟩
    · have HC1 := fun w1 v (x : Ext W9 w1) (hs : SetsR w1 w1.heap.size v has) => hid (edges_err b1 b2 b3 d1 d2 d3 P v has w1 w1.heap.size ad (HQ9.on (Nat.le_refl _) x) (HS9.out.ext x) hs hg)
      unfold pval at HC1
      clear hg HQ9
      go_wp2
      rw [← HW9.out]
      have g0 := (HB6.out.ext (Ext.refl W9)).kc (X := fun _ => False) (fun e => e) 0 rfl
      have g1 := (HB6.out.ext (Ext.refl W9)).kc (X := fun _ => False) (fun e => e) 1 rfl
      have g2 := (HB6.out.ext (Ext.refl W9)).kc (X := fun _ => False) (fun e => e) 2 rfl
      simp only [pcells, List.getElem_toArray, List.getElem_cons_zero, List.getElem_cons_succ] at g0 g1 g2
      refine wp_flowT (fun _ => False) (by kernel_rfl) (by kernel_rfl) ?_
      repeat (apply FlowT.d; (intro w1 hk; unfold does; go_simp; (try go_ints); (first | exact DetR.mk | (simp only [↓IntWalk.iteOmega, Oper.doesUpon_value]; exact DetR.mk) | (simp only [↓IntWalk.iteOmega]; go_simp; (try go_ints); exact DetR.mk))); simp only [Act.put, List.setIfInBounds_toArray, List.set_cons_zero, List.set_cons_succ])
      refine FlowT.s (fun v w' => (∃ a c, v = .slice a has.length c) ∧ SetsR w' w'.heap.size v has ∧ Ext W9 w') 2 rfl (by kernel_rfl) (fun _ _ _ ⟨h1, h2, h3⟩ y => ⟨h1, (h2.ext y).lift y.size, h3.trans y⟩) (fun wa hC hk2 => ?_) ?_
      · unfold does
        go_simp
        refine CallR.act ((HOS wa (HZ.out.trans hC)).out.mono ?_)
        rintro e wb ⟨a, c, rfl, hs, hx⟩
        exact ⟨_, rfl, hk2.trans (hx.keep _), ⟨a, c, rfl⟩, hs, hC.trans hx⟩
      rintro _ ⟨_, ⟨ao, co, rfl⟩, _, _⟩
      simp only [Act.put, List.setIfInBounds_toArray, List.set_cons_zero, List.set_cons_succ]
      refine FlowT.s (fun v w' => (∃ t x, v = .tuple #[.slice none 0 0, .iface t (.pointer (some x))]) ∧ Ext W9 w') 3 rfl (by kernel_rfl) (fun _ _ _ ⟨h1, h3⟩ y => ⟨h1, h3.trans y⟩) (fun wa hC hk2 => ?_) ?_
      · obtain ⟨_, hs, hx0⟩ := hC
        have HCa := HC1 wa _ (HZ.out.trans hx0) hs
        unfold does
        go_simp
        refine CallR.act (HCa.out.mono ?_)
        rintro e wb ⟨t, x, rfl, hx⟩
        exact ⟨_, rfl, hk2.trans (hx.keep _), ⟨t, x, rfl⟩, hx0.trans hx⟩
      rintro _ ⟨_, ⟨te, xe, rfl⟩, _⟩
      simp only [Act.put, List.setIfInBounds_toArray, List.set_cons_zero, List.set_cons_succ]
      repeat (apply FlowT.d; (intro w1 hk; unfold does; go_simp; (try go_ints); (first | exact DetR.mk | (simp only [↓IntWalk.iteOmega, Oper.doesUpon_value]; exact DetR.mk) | (simp only [↓IntWalk.iteOmega]; go_simp; (try go_ints); exact DetR.mk))); simp only [Act.put, List.setIfInBounds_toArray, List.set_cons_zero, List.set_cons_succ])
      refine FlowT.fin fun w5 hC5 hk5 => ?_
      obtain ⟨_, hx5⟩ := hC5
      have HZ5 := hid hx5
      clear hx5 hk5 g0 g1 g2 HC1
      go_wp2
      go_ret
      exact ⟨rfl, HXw.out.trans HZ5.out⟩
  · have HOb := hid (progobjects_no a1 a2 a3 c1 c2 c3 P w2' w2'.heap.size ad HPS.out hw)
    unfold pval at HOb
    clear hw
    go_wp2_with fail
    refine HOb.out.mono ?_
    intro e w2c hx
    obtain ⟨rfl, hx⟩ := hx
    have HX3p := hid (HX2'.out.trans hx)
    clear HOb hx p0 p1 p2
    go_wp2
    go_ret
    exact ⟨rfl, HX3p.out⟩
end Go.Proofs.YtohfdecefikinaaGreatDoor


/- ConsTells: what is told, in numbers; the law where the program is not well. -/
namespace Go.Proofs.YtohfdecefikinaaGreatDoor
set_option linter.unusedSimpArgs false
set_option linter.unusedVariables false
open Go Go.RowKit

/-- What a check that fails tells, in numbers. -/
theorem code_chk {ad : Nat → Addr} {P : PP} {w : World} {v : Value} (h : ErrIs ad P w v) (hw : ¬ P.Well) :
    ∃ c p, FaultIs P c p ∧ c ≠ 0 ∧ ∀ w1, Ext w w1 → AllErrs w1 ad → Calls Tryz.prog 32 #[v] w1 fun e w' => e = .returned (.tuple #[.int .i64 (c : Int), .int .i64 p]) ∧ Ext w1 w' := by
  rcases h with ⟨h3, rfl⟩ | ⟨h3, h4, rfl⟩ | ⟨h3, i, s, b, h4, rfl, hb⟩
  · have := P.err1_le
    exact ⟨P.err1, -1, .inl ⟨h3, rfl, rfl⟩, h3, fun w1 x hA => code_of w1 ad hA _ h3 (by omega)⟩
  · exact absurd ⟨h3, h4⟩ hw
  · have := P.stmtErr_le s
    exact ⟨P.stmtErr s, i, .inr (.inr ⟨h3, i, s, h4, rfl, rfl⟩), h4.2.1, fun w1 x hA => code_at w1 ad hA _ h4.2.1 (by omega) b _ (hb.ext x)⟩
theorem setE_le (P : PP) (l : List Int) : P.setE l ≤ 10 := by
  unfold PP.setE
  split
  · split <;> omega
  · exact chkE_le l
/-- What sets that are at fault tell, in numbers. -/
theorem code_sets {ad : Nat → Addr} {P : PP} {has : List (List Int)} {w : World} {v : Value} (h : SetsIs ad P has w v) (hb : ¬ (has.length = P.nodesV ∧ ∀ l ∈ has, P.setE l = 0)) :
    ∃ c p, SFaultIs P has c p ∧ c ≠ 0 ∧ ∀ w1, Ext w w1 → AllErrs w1 ad → Calls Tryz.prog 32 #[v] w1 fun e w' => e = .returned (.tuple #[.int .i64 (c : Int), .int .i64 p]) ∧ Ext w1 w' := by
  rcases h with ⟨h1, rfl⟩ | ⟨h1, h2, rfl⟩ | ⟨h1, i, l, b, h2, h3, h4, rfl, hB⟩
  · exact ⟨3, -1, .inl ⟨h1, rfl, rfl⟩, by decide, fun w1 x hA => code_of w1 ad hA 3 (by decide) (by decide)⟩
  · exact absurd ⟨h1, h2⟩ hb
  · have := setE_le P l
    exact ⟨P.setE l, i, .inr (.inr ⟨h1, i, l, h2, h3, h4, rfl, rfl⟩), h3, fun w1 x hA => code_at w1 ad hA _ h3 (by omega) b _ (hB.ext x)⟩
theorem SFaultIs.uniq {P : PP} {has : List (List Int)} {c d : Nat} {p q : Int} (h : SFaultIs P has c p) (g : SFaultIs P has d q) : c = d ∧ p = q := by
  rcases h with ⟨h1, h2, h3⟩ | ⟨h1, h2, h3, h4⟩ | ⟨h1, i, l, h2, h3, h4, h5, h6⟩ <;> rcases g with ⟨g1, g2, g3⟩ | ⟨g1, g2, g3, g4⟩ | ⟨g1, j, m, g2, g3, g4, g5, g6⟩
  · exact ⟨h2.trans g2.symm, h3.trans g3.symm⟩
  · exact absurd g1 h1
  · exact absurd g1 h1
  · exact absurd h1 g1
  · exact ⟨h3.trans g3.symm, h4.trans g4.symm⟩
  · exact absurd (h2 m (List.mem_of_getElem? g2)) g3
  · exact absurd h1 g1
  · exact absurd (g2 l (List.mem_of_getElem? h2)) h3
  · have hij : i = j := by
      rcases Nat.lt_trichotomy i j with k | k | k
      · exact absurd (g4 i l k h2) h3
      · exact k
      · exact absurd (h4 j m k g2) g3
    subst hij
    obtain rfl := Option.some.inj (h2.symm.trans g2)
    exact ⟨h5.trans g5.symm, h6.trans g6.symm⟩
theorem faulted_at {w : World} {v : Value} {c : Nat} {p : Int} {ad : Nat → Addr} (hA : AllErrs w ad) (h : ∀ w1, Ext w w1 → AllErrs w1 ad → Calls Tryz.prog 32 #[v] w1 fun e w' => e = .returned (.tuple #[.int .i64 (c : Int), .int .i64 p]) ∧ Ext w1 w') :
    Calls Tryz.prog 12 #[v, .agg #[.int .i64 (c : Int), .int .i64 p]] w fun e w' => e = .returned (.bool true) ∧ Ext w w' :=
  faulted1_any w v c p fun w1 x => h w1 x (hA.ext x)

set_option maxRecDepth 100000 in
set_option maxHeartbeats 6400000 in
theorem constells_no (a1 a2 a3 : Option Addr) (c1 c2 c3 : Nat) (P : PP) (hv : Value) (has : List (List Int)) (w : World) (ad : Nat → Addr) (hE : ErrsP w ad) (hA : AllErrs w ad) (hS : ErrS w ad) (hP : ProgR w w.heap.size (.slice a1 P.vars.length c1) (.slice a2 P.funs.length c2) (.slice a3 P.stmts.length c3) P) (hh : SetsR w w.heap.size hv has) (hw : ¬ P.Well) :
    Calls Tryz.prog 3 #[pval a1 a2 a3 c1 c2 c3 P, hv] w fun e w' => e = .returned (.bool true) ∧ Ext w w' := by
  have Hw := hid hw
  clear hw
  have HAA := hid hA
  clear hA
  obtain ⟨ah, ch, rfl⟩ := hh.form
  have hhl := hh.len
  have HE := hid hE
  have HS := hid hS
  have HP := hid hP
  have HH := hid hh
  obtain ⟨W1, hW1⟩ : ∃ W1, W1 = w.alloc (.cells (pcells a1 a2 a3 c1 c2 c3 P) 26) := ⟨_, rfl⟩
  have HX1 : Hid (Ext w W1) := hid (by rw [hW1]; exact (Ext.refl _).alloc _)
  have HB1 : Hid (Blk W1 w.heap.size (pcells a1 a2 a3 c1 c2 c3 P) 26) := hid (by rw [hW1]; exact Blk.new _ _ _)
  have HR := hid (ruled_any W1 ad (hE.ext HX1.out) (hS.ext HX1.out))
  have HW1 : Hid (W1 = w.alloc (.cells #[.slice a1 P.vars.length c1, .slice a2 P.funs.length c2, .slice a3 P.stmts.length c3] 26)) := hid (by rw [hW1]; rfl)
  unfold pval
  clear hE hS hP hh hW1
  go_enter Tryz.func3, Tryz.ntmps3
  go_wp2_with fail
  rw [← HW1.out]
  refine HR.out.mono ?_
  intro e w1 hx
  obtain ⟨rfl, hx1⟩ := hx
  have HL := hid (large_any a1 a2 a3 c1 c2 c3 P w1 w.heap.size (HP.out.ext (HX1.out.trans hx1)))
  unfold pval at HL
  have HX1' := hid (HX1.out.trans hx1)
  have HBp1 := hid (HB1.out.ext hx1)
  have p0 := HBp1.out.av 0 rfl
  have p1 := HBp1.out.av 1 rfl
  have p2 := HBp1.out.av 2 rfl
  simp only [pcells, List.getElem_toArray, List.getElem_cons_zero, List.getElem_cons_succ] at p0 p1 p2
  clear HR hx1
  go_wp2_with fail
  refine HL.out.mono ?_
  intro e w2 hx
  obtain ⟨r, rfl, hr, hsm, hx2⟩ := hx
  have HX2 := hid (HX1'.out.trans hx2)
  have HBp := hid (HBp1.out.ext hx2)
  clear HL hx2 p0 p1 p2
  rcases (by omega : r = 1 ∨ r = 0) with rfl | rfl
  · clear hsm hr
    go_wp2
    go_ret
    exact ⟨rfl, HX2.out⟩
  have HSm := hid (hsm rfl)
  clear hsm hr
  have HL := hid (largesets_any (.slice ah has.length ch) has w2 w.heap.size (HH.out.ext HX2.out))
  go_wp2_with fail
  refine HL.out.mono ?_
  intro e w2' hx
  obtain ⟨r, rfl, hr, hsm, hx2⟩ := hx
  have HX2' := hid (HX2.out.trans hx2)
  have HBp' := hid (HBp.out.ext hx2)
  clear HL hx2
  rcases (by omega : r = 1 ∨ r = 0) with rfl | rfl
  · clear hsm hr
    go_wp2
    go_ret
    exact ⟨rfl, HX2'.out⟩
  have HFew := hid (hsm rfl)
  clear hsm hr
  have hz1 : ∀ s ∈ P.vars, s.size ≤ 1000000 := fun s hs => by have := HSm.out.vs s hs; omega
  have hz2 : ∀ s ∈ P.names, s.size ≤ 1000000 := fun s hs => by
    obtain ⟨f, hf, rfl⟩ := List.mem_map.1 hs
    have := (HSm.out.fs f hf).1
    omega
  have Hz1 := hid hz1
  have Hz2 := hid hz2
  have HPS := hid (show PS0 w2' w2'.heap.size ad a1 a2 a3 c1 c2 c3 P from ⟨HE.out.ext HX2'.out, (HP.out.ext HX2'.out).lift HX2'.out.size, Hz1.out, Hz2.out⟩)
  clear hz1 hz2
  have HX3p := hid HX2'.out
  have HQ := hid (ownprogram_any a1 a2 a3 c1 c2 c3 P w2' HPS.out.prog HSm.out)
  have p0 := HBp'.out.av 0 rfl
  have p1 := HBp'.out.av 1 rfl
  have p2 := HBp'.out.av 2 rfl
  simp only [pcells, List.getElem_toArray, List.getElem_cons_zero, List.getElem_cons_succ] at p0 p1 p2
  unfold pval at HQ
  go_wp2_with fail
  refine HQ.out.mono ?_
  intro e w3 hx
  obtain ⟨hx3, b1, b2, b3, d1, d2, d3, rfl, hq⟩ := hx
  have HX3 := hid (HX3p.out.trans hx3)
  have Hx3 := hid hx3
  have Hq3 := hid hq
  clear HQ hx3 hq p0 p1 p2
  obtain ⟨W9, hW9⟩ : ∃ W9, W9 = w3.alloc (.cells (pcells b1 b2 b3 d1 d2 d3 P) 26) := ⟨_, rfl⟩
  have hx9 : Ext w3 W9 := by rw [hW9]; exact (Ext.refl _).alloc _
  have HXw := hid (HX3.out.trans hx9)
  have Hw9 := hid (Hx3.out.trans hx9)
  have HB6 : Hid (Blk W9 w3.heap.size (pcells b1 b2 b3 d1 d2 d3 P) 26) := hid (by rw [hW9]; exact Blk.new _ _ _)
  have HW9 : Hid (W9 = w3.alloc (.cells #[.slice b1 P.vars.length d1, .slice b2 P.funs.length d2, .slice b3 P.stmts.length d3] 26)) := hid (by rw [hW9]; rfl)
  have HQ9 : PS0 W9 W9.heap.size ad b1 b2 b3 d1 d2 d3 P := ⟨HE.out.ext HXw.out, (Hq3.out.ext hx9).lift hx9.size, Hz1.out, Hz2.out⟩
  have HS9 := hid (HS.out.ext HXw.out)
  have HZ := hid (Ext.refl W9)
  have HOS := fun w1 (x : Ext W9 w1) => hid (ownsets_at (HH.out.ext HXw.out) HFew.out w1 x)
  clear hx9 hW9
  have HBp9 : Hid (Blk W9 w.heap.size (pcells a1 a2 a3 c1 c2 c3 P) 26) := hid (HBp'.out.ext Hw9.out)
  have HPP9 := hid (HPS.out.on (Nat.le_refl _) Hw9.out)
  have HA9 := hid (HAA.out.ext HXw.out)
  have HOw := HOS W9 (Ext.refl _)
  go_wp2_with fail
  rw [← HW9.out]
  refine HOw.out.mono ?_
  intro e w4 hx
  obtain ⟨ao, co, rfl, hso, hx4⟩ := hx
  have Hso := hid hso
  have HF := hid (rfprog_all a1 a2 a3 c1 c2 c3 P w4 (HPP9.out.on (Nat.le_refl _) hx4).prog Hz1.out Hz2.out)
  have Hx4 := hid hx4
  have p0 := (HBp9.out.ext hx4).av 0 rfl
  have p1 := (HBp9.out.ext hx4).av 1 rfl
  have p2 := (HBp9.out.ext hx4).av 2 rfl
  simp only [pcells, List.getElem_toArray, List.getElem_cons_zero, List.getElem_cons_succ] at p0 p1 p2
  unfold pval at HF
  clear HOw HOS hso hx4
  go_wp2_with fail
  refine HF.out.mono ?_
  intro e w5 hx
  obtain ⟨hx5, c, p, rfl, hfi⟩ := hx
  have Hfi := hid hfi
  obtain ⟨W6, hW6⟩ : ∃ W6, W6 = w5.alloc (.cells #[.int .i64 (c : Int), .int .i64 p] 34) := ⟨_, rfl⟩
  have hx6 : Ext w5 W6 := by rw [hW6]; exact (Ext.refl _).alloc _
  have HW6 := hid hW6
  have HX6 := hid ((Hx4.out.trans hx5).trans hx6)
  have Hx46 := hid (hx5.trans hx6)
  have Hx45 := hid hx5
  have HBf : Hid (Blk W6 w5.heap.size #[.int .i64 (c : Int), .int .i64 p] 34) := hid (by rw [hW6]; exact Blk.new _ _ _)
  have Hbf : Hid (W9.heap.size ≤ w5.heap.size) := hid (Hx4.out.trans hx5).size
  clear HF hfi hx5 hx6 hW6 p0 p1 p2
  have HQ6 := HQ9.on (Nat.le_refl _) HX6.out
  have HO := hid (consof_no b1 b2 b3 d1 d2 d3 P W6 W6.heap.size ad HQ6.errs HQ6.prog Hz1.out Hz2.out Hw.out)
  have HEd := fun w1 (x : Ext W6 w1) => hid (consedges_no b1 b2 b3 d1 d2 d3 P (.slice ao has.length co) w1 w1.heap.size ad (HQ6.on (Nat.le_refl _) x).errs (HQ6.on (Nat.le_refl _) x).prog Hz1.out Hz2.out Hw.out)
  have HCl := fun w1 (x : Ext W6 w1) => hid (consclosed_no b1 b2 b3 d1 d2 d3 P ao co has w1 w1.heap.size ad (HQ6.on (Nat.le_refl _) x).errs (HQ6.on (Nat.le_refl _) x).prog Hz1.out Hz2.out Hw.out)
  have hsl : P.stmts.length ≤ 81 := HSm.out.sl
  have g0 := (HB6.out.ext HX6.out).av 0 rfl
  have g1 := (HB6.out.ext HX6.out).av 1 rfl
  have g2 := (HB6.out.ext HX6.out).av 2 rfl
  simp only [pcells, List.getElem_toArray, List.getElem_cons_zero, List.getElem_cons_succ] at g0 g1 g2
  rw [HW6.out] at g0 g1 g2
  unfold pval at HO HEd HCl
  clear HQ9 HQ6
  go_wp2_with fail
  rw [← HW6.out]
  refine HO.out.mono ?_
  intro e w7 hx
  obtain ⟨t, x, rfl, hei, hx7⟩ := hx
  obtain ⟨c', p', hf', hc0, hcode⟩ := code_chk hei Hw.out
  obtain ⟨rfl, rfl⟩ := Hfi.out.uniq hf'
  have HFa := hid (faulted_at (w := w7) (HA9.out.ext (HX6.out.trans hx7)) fun w1 x hA => hcode w1 x hA)
  have Hx7 := hid hx7
  have f0 := (HBf.out.ext Hx7.out).av 0 rfl
  have f1 := (HBf.out.ext Hx7.out).av 1 rfl
  simp only [List.getElem_toArray, List.getElem_cons_zero, List.getElem_cons_succ] at f0 f1
  clear HO hei hf' hcode hx7 g0 g1 g2
  go_wp2_with fail
  refine HFa.out.mono ?_
  intro e w8 hx
  obtain ⟨rfl, hx8⟩ := hx
  have Hx8 := hid (Hx7.out.trans hx8)
  clear HFa hx8 f0 f1
  have c00 : ((c : Int) == 0) = false := beq_eq_false_iff_ne.2 (by omega)
  have c01 : 0 < (c : Int) := by omega
  go_wp2
  go_loopw [11] (fun t11 wr => t11 = .int .i64 0 ∧ Ext W6 wr) (fun _ _ => 0)
  case atStart => exact ⟨rfl, Hx8.out⟩
  case round =>
    obtain ⟨rfl, hx⟩ := hrel
    have Hx := hid hx
    have p0 := (HBp9.out.ext (HX6.out.trans hx)).av 0 rfl
    have p1 := (HBp9.out.ext (HX6.out.trans hx)).av 1 rfl
    have p2 := (HBp9.out.ext (HX6.out.trans hx)).av 2 rfl
    simp only [pcells, List.getElem_toArray, List.getElem_cons_zero, List.getElem_cons_succ] at p0 p1 p2
    have g0 := (HB6.out.ext (HX6.out.trans hx)).av 0 rfl
    have g1 := (HB6.out.ext (HX6.out.trans hx)).av 1 rfl
    have g2 := (HB6.out.ext (HX6.out.trans hx)).av 2 rfl
    simp only [pcells, List.getElem_toArray, List.getElem_cons_zero, List.getElem_cons_succ] at g0 g1 g2
    have f0 := (HBf.out.ext hx).av 0 rfl
    have f1 := (HBf.out.ext hx).av 1 rfl
    simp only [List.getElem_toArray, List.getElem_cons_zero, List.getElem_cons_succ] at f0 f1
    have HE1 := HEd wr hx
    clear hx HEd
    rcases Nat.lt_or_ge 0 P.stmts.length with h0 | h0
    · go_wp2_with fail
      clear p0 p1 p2 f0 f1
      refine HE1.out.mono ?_
      intro e w10 hx
      obtain ⟨t2, x2, rfl, hei, hx10⟩ := hx
      obtain ⟨c', p', hf', _, hcode2⟩ := code_chk hei Hw.out
      obtain ⟨rfl, rfl⟩ := Hfi.out.uniq hf'
      have Hcode2 := hid hcode2
      have Hx10 := hid (Hx.out.trans hx10)
      have HC1 := HCl w10 Hx10.out
      clear HE1 hei hf' hcode2 hx10 HCl g0 g1 g2
      have g0 := (HB6.out.ext (HX6.out.trans Hx10.out)).av 0 rfl
      have g1 := (HB6.out.ext (HX6.out.trans Hx10.out)).av 1 rfl
      have g2 := (HB6.out.ext (HX6.out.trans Hx10.out)).av 2 rfl
      simp only [pcells, List.getElem_toArray, List.getElem_cons_zero, List.getElem_cons_succ] at g0 g1 g2
      go_wp2_with fail
      refine HC1.out.mono ?_
      intro e w11 hx
      obtain ⟨t3, x3, rfl, hei, hx11⟩ := hx
      obtain ⟨c', p', hf', _, hcode3⟩ := code_chk hei Hw.out
      obtain ⟨rfl, rfl⟩ := Hfi.out.uniq hf'
      have Hcode3 := hid hcode3
      have Hx11 := hid (Hx10.out.trans hx11)
      have HFa := hid (faulted_at (w := w11) (HA9.out.ext (HX6.out.trans Hx11.out)) fun w1 x hA => Hcode2.out w1 (hx11.trans x) hA)
      clear HC1 hei hf' hcode3 hx11 g0 g1 g2
      have f0 := (HBf.out.ext Hx11.out).av 0 rfl
      have f1 := (HBf.out.ext Hx11.out).av 1 rfl
      simp only [List.getElem_toArray, List.getElem_cons_zero, List.getElem_cons_succ] at f0 f1
      go_wp2_with fail
      refine HFa.out.mono ?_
      intro e w12 hx
      obtain ⟨rfl, hx12⟩ := hx
      have Hx12 := hid (Hx11.out.trans hx12)
      have HFb := hid (faulted_at (w := w12) (HA9.out.ext (HX6.out.trans Hx12.out)) fun w1 x hA => Hcode3.out w1 (hx12.trans x) hA)
      clear HFa hx12 f0 f1
      have f0 := (HBf.out.ext Hx12.out).av 0 rfl
      have f1 := (HBf.out.ext Hx12.out).av 1 rfl
      simp only [List.getElem_toArray, List.getElem_cons_zero, List.getElem_cons_succ] at f0 f1
      go_wp2_with fail
      refine HFb.out.mono ?_
      intro e w13 hx
      obtain ⟨rfl, hx13⟩ := hx
      have Hx13 := hid (Hx12.out.trans hx13)
      clear HFb hx13 f0 f1
      go_wp2
      go_ret
      exact ⟨rfl, HXw.out.trans (HX6.out.trans Hx13.out)⟩
    · go_wp2_with fail
      clear p0 p1 p2 f0 f1
      refine HE1.out.mono ?_
      intro e w10 hx
      obtain ⟨t2, x2, rfl, hei, hx10⟩ := hx
      obtain ⟨c', p', hf', _, hcode2⟩ := code_chk hei Hw.out
      obtain ⟨rfl, rfl⟩ := Hfi.out.uniq hf'
      have Hcode2 := hid hcode2
      have Hx10 := hid (Hx.out.trans hx10)
      have HC1 := HCl w10 Hx10.out
      clear HE1 hei hf' hcode2 hx10 HCl g0 g1 g2
      have g0 := (HB6.out.ext (HX6.out.trans Hx10.out)).av 0 rfl
      have g1 := (HB6.out.ext (HX6.out.trans Hx10.out)).av 1 rfl
      have g2 := (HB6.out.ext (HX6.out.trans Hx10.out)).av 2 rfl
      simp only [pcells, List.getElem_toArray, List.getElem_cons_zero, List.getElem_cons_succ] at g0 g1 g2
      go_wp2_with fail
      refine HC1.out.mono ?_
      intro e w11 hx
      obtain ⟨t3, x3, rfl, hei, hx11⟩ := hx
      obtain ⟨c', p', hf', _, hcode3⟩ := code_chk hei Hw.out
      obtain ⟨rfl, rfl⟩ := Hfi.out.uniq hf'
      have Hcode3 := hid hcode3
      have Hx11 := hid (Hx10.out.trans hx11)
      have HFa := hid (faulted_at (w := w11) (HA9.out.ext (HX6.out.trans Hx11.out)) fun w1 x hA => Hcode2.out w1 (hx11.trans x) hA)
      clear HC1 hei hf' hcode3 hx11 g0 g1 g2
      have f0 := (HBf.out.ext Hx11.out).av 0 rfl
      have f1 := (HBf.out.ext Hx11.out).av 1 rfl
      simp only [List.getElem_toArray, List.getElem_cons_zero, List.getElem_cons_succ] at f0 f1
      go_wp2_with fail
      refine HFa.out.mono ?_
      intro e w12 hx
      obtain ⟨rfl, hx12⟩ := hx
      have Hx12 := hid (Hx11.out.trans hx12)
      have HFb := hid (faulted_at (w := w12) (HA9.out.ext (HX6.out.trans Hx12.out)) fun w1 x hA => Hcode3.out w1 (hx12.trans x) hA)
      clear HFa hx12 f0 f1
      have f0 := (HBf.out.ext Hx12.out).av 0 rfl
      have f1 := (HBf.out.ext Hx12.out).av 1 rfl
      simp only [List.getElem_toArray, List.getElem_cons_zero, List.getElem_cons_succ] at f0 f1
      go_wp2_with fail
      refine HFb.out.mono ?_
      intro e w13 hx
      obtain ⟨rfl, hx13⟩ := hx
      have Hx13 := hid (Hx12.out.trans hx13)
      clear HFb hx13 f0 f1
      go_wp2
      go_ret
      exact ⟨rfl, HXw.out.trans (HX6.out.trans Hx13.out)⟩
end Go.Proofs.YtohfdecefikinaaGreatDoor
