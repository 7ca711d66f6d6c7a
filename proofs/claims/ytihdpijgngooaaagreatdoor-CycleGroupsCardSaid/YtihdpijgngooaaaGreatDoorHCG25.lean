/- Texts of one proof, put together: WM M2 T9 X9 XA XB ZZXw ZZXx SA. -/
import Derived.Test.YtihdpijgngooaaaGreatDoorHCG09
import Derived.Test.YtihdpijgngooaaaGreatDoorHCG12
import Derived.Test.YtihdpijgngooaaaGreatDoorHCG14
import Derived.Test.YtihdpijgngooaaaGreatDoorHCG21
import Derived.Test.YtihdpijgngooaaaGreatDoorHCG22
import Derived.Test.YtihdpijgngooaaaGreatDoorHCG23
import Derived.Test.YtihdpijgngooaaaGreatDoorHCG24
import Derived.LaidHandle
import Derived.Test.YtihdpijgngooaaaGreatDoorHCG01
set_option linter.unusedSimpArgs false
set_option linter.unusedVariables false
namespace Go.Proofs.YtihdpijgngooaaaGreatDoor
open Go Go.RowKit
theorem rfprog_all (a1 a2 a3 : Option Addr) (c1 c2 c3 : Nat) (P : PP) (w : World) (h : ProgR w w.heap.size (.slice a1 P.vars.length c1) (.slice a2 P.funs.length c2) (.slice a3 P.stmts.length c3) P)
    (hz1 : ∀ s ∈ P.vars, s.size ≤ 1000000) (hz2 : ∀ s ∈ P.names, s.size ≤ 1000000) :
    Calls Tryz.prog 9 #[pval a1 a2 a3 c1 c2 c3 P] w fun e w' => Ext w w' ∧ ∃ (c : Nat) (p : Int), e = .returned (.agg #[.int .i64 (c : Int), .int .i64 p]) ∧ FaultIs P c p := by
  cases hb : P.big with
  | true => exact rfprog_big a1 a2 a3 c1 c2 c3 P w h hz1 hz2 hb
  | false => exact rfprog_no a1 a2 a3 c1 c2 c3 P w h hz1 hz2 hb
theorem code_chk {ad : Nat → Addr} {P : PP} {w : World} {v : Value} (h : ErrIs ad P w v) (hw : ¬ P.Well) :
    ∃ c p, FaultIs P c p ∧ c ≠ 0 ∧ ∀ w1, Ext w w1 → AllErrs w1 ad → Calls Tryz.prog 52 #[v] w1 fun e w' => e = .returned (.tuple #[.int .i64 (c : Int), .int .i64 p]) ∧ Ext w1 w' := by
  rcases h with ⟨h3, rfl⟩ | ⟨h3, h4, rfl⟩ | ⟨h3, i, s, b, h4, rfl, hb⟩
  · have := P.err1_le
    exact ⟨P.err1, -1, .inl ⟨h3, rfl, rfl⟩, h3, fun w1 x hA => code_of w1 ad hA _ h3 (by omega)⟩
  · exact absurd ⟨h3, h4⟩ hw
  · have := P.stmtErr_le s
    exact ⟨P.stmtErr s, i, .inr (.inr ⟨h3, i, s, h4, rfl, rfl⟩), h4.2.1, fun w1 x hA => code_at w1 ad hA _ h4.2.1 (by omega) b _ (hb.ext x)⟩
theorem SFaultIs.uniq {P : PP} {has : List (List Int)} {c d : Nat} {p q : Int} (h : SFaultIs P has c p) (g : SFaultIs P has d q) : c = d ∧ p = q := by
  rcases h with ⟨h1, h2, h3⟩ | ⟨h1, h2, h3, h4⟩ | ⟨h1, i, l, h2, h3, h4, h5, h6⟩ <;> rcases g with ⟨g1, g2, g3⟩ | ⟨g1, g2, g3, g4⟩ | ⟨g1, j, m, g2, g3, g4, g5, g6⟩
  · exact ⟨h2.trans g2.symm, h3.trans g3.symm⟩
  · exact absurd g1 h1
  · exact absurd g1 h1
  · exact absurd h1 g1
  · exact ⟨h3.trans g3.symm, h4.trans g4.symm⟩
  · exact absurd (h2 m (List.mem_of_getElem? g2)) g3
  · exact absurd h1 g1
  · exact absurd (g2 l (List.mem_of_getElem? h2)) h3
  · have hij : i = j := by
      rcases Nat.lt_trichotomy i j with k | k | k
      · exact absurd (g4 i l k h2) h3
      · exact k
      · exact absurd (h4 j m k g2) g3
    subst hij
    obtain rfl := Option.some.inj (h2.symm.trans g2)
    exact ⟨h5.trans g5.symm, h6.trans g6.symm⟩
set_option maxRecDepth 100000 in
set_option maxHeartbeats 800000 in
theorem faulted2_any (w : World) (v : Value) (c p : Int) (h : ∀ w1, Ext w w1 → Calls Tryz.prog 52 #[v] w1 fun e w' => e = .returned (.tuple #[.int .i64 c, .int .i64 p]) ∧ Ext w1 w') :
    Calls Tryz.prog 29 #[v, .agg #[.int .i64 c, .int .i64 p]] w fun e w' => e = .returned (.bool true) ∧ Ext w w' := by
  obtain ⟨W, hW⟩ : ∃ W, W = w.alloc (.cells #[.int .i64 c, .int .i64 p] 30) := ⟨_, rfl⟩
  have HX : Hid (Ext w W) := hid (by rw [hW]; exact (Ext.refl _).alloc _)
  have HB : Hid (Blk W w.heap.size #[.int .i64 c, .int .i64 p] 30) := hid (by rw [hW]; exact Blk.new _ _ _)
  have HWe := hid hW
  have HC := hid (h W HX.out)
  clear hW h
  go_enter Tryz.func29, Tryz.ntmps29
  go_wp2_with fail
  rw [← HWe.out]
  refine HC.out.mono ?_
  intro e w1 hx
  obtain ⟨rfl, hx1⟩ := hx
  have d0 := (HB.out.ext hx1).av 0 rfl
  have d1 := (HB.out.ext hx1).av 1 rfl
  simp only [qA0, qA1, qA2] at d0 d1
  have HX1 := hid (HX.out.trans hx1)
  clear HC HB HWe HX hx1
  by_cases h0 : c = 0
  · subst h0
    go_wp2
    go_ret
    exact ⟨rfl, HX1.out⟩
  · go_wp2
    go_ret
    exact ⟨rfl, HX1.out⟩
theorem faulted2_at {w : World} {v : Value} {c : Nat} {p : Int} {ad : Nat → Addr} (hA : AllErrs w ad) (h : ∀ w1, Ext w w1 → AllErrs w1 ad → Calls Tryz.prog 52 #[v] w1 fun e w' => e = .returned (.tuple #[.int .i64 (c : Int), .int .i64 p]) ∧ Ext w1 w') :
    Calls Tryz.prog 29 #[v, .agg #[.int .i64 (c : Int), .int .i64 p]] w fun e w' => e = .returned (.bool true) ∧ Ext w w' :=
  faulted2_any w v c p fun w1 x => h w1 x (hA.ext x)
theorem SetsIs.ext {ad : Nat → Addr} {P : PP} {has : List (List Int)} {w w' : World} {v : Value} (h : SetsIs ad P has w v) (x : Ext w w') : SetsIs ad P has w' v := by
  rcases h with h | h | ⟨h1, i, l, b, h2, h3, h4, h5, h6⟩
  · exact .inl h
  · exact .inr (.inl h)
  · exact .inr (.inr ⟨h1, i, l, b, h2, h3, h4, h5, h6.ext x⟩)
theorem SetsIs.keep {X : Nat → Prop} {ad : Nat → Addr} {P : PP} {has : List (List Int)} {w w' : World} {v : Value} (h : SetsIs ad P has w v) (k : Keep X w w') (hX : ∀ i, X i → ∃ c, Blk w i c 30) : SetsIs ad P has w' v := by
  rcases h with h | h | ⟨h1, i, l, b, h2, h3, h4, h5, h6⟩
  · exact .inl h
  · exact .inr (.inl h)
  · exact .inr (.inr ⟨h1, i, l, b, h2, h3, h4, h5, h6.keep k fun e => by
      obtain ⟨d, hd⟩ := hX b e
      exact Blk.ty_ne h6 hd (by decide) rfl⟩)
theorem ErrIs.keepF {X : Nat → Prop} {ad : Nat → Addr} {P : PP} {w w' : World} {v : Value} (h : ErrIs ad P w v) (k : Keep X w w') (hX : ∀ i, X i → ∃ c, Blk w i c 30) : ErrIs ad P w' v := by
  rcases h with h | h | ⟨h1, i, s, b, h2, h3, h4⟩
  · exact .inl h
  · exact .inr (.inl h)
  · refine .inr (.inr ⟨h1, i, s, b, h2, h3, h4.keep k fun e => ?_⟩)
    obtain ⟨c, hc⟩ := hX b e
    exact Blk.ty_ne h4 hc (by decide) rfl
set_option maxRecDepth 100000 in
set_option maxHeartbeats 3200000 in
theorem cyclegroupslaw_any (n : Int) (v : Value) (E : List (Int × Int)) (a1 a2 a3 : Option Addr) (c1 c2 c3 : Nat) (P : PP) (w : World) (ad : Nat → Addr) (hE : ErrsP w ad) (hA : AllErrs w ad) (hS : ErrS w ad) (hP : ProgR w w.heap.size (.slice a1 P.vars.length c1) (.slice a2 P.funs.length c2) (.slice a3 P.stmts.length c3) P) (hr : EsR w w.heap.size v E) :
    Calls Tryz.prog 6 #[.int .i64 n, v, pval a1 a2 a3 c1 c2 c3 P] w fun e w' => e = .returned (.bool true) ∧ Ext w w' := by
  obtain ⟨al, cl, rfl⟩ := hr.form2
  have hll := hr.len
  have HE := hid hE
  have HS := hid hS
  have HAA := hid hA
  have HP := hid hP
  have HR0 := hid hr
  obtain ⟨W1, hW1⟩ : ∃ W1, W1 = w.alloc (.cells (pcells a1 a2 a3 c1 c2 c3 P) 26) := ⟨_, rfl⟩
  have HX1 : Hid (Ext w W1) := hid (by rw [hW1]; exact (Ext.refl _).alloc _)
  have HB1 : Hid (Blk W1 w.heap.size (pcells a1 a2 a3 c1 c2 c3 P) 26) := hid (by rw [hW1]; exact Blk.new _ _ _)
  have HR := hid (grouped_any W1 ad (hS.ext HX1.out).at2)
  have HW1 : Hid (W1 = w.alloc (.cells #[.slice a1 P.vars.length c1, .slice a2 P.funs.length c2, .slice a3 P.stmts.length c3] 26)) := hid (by rw [hW1]; rfl)
  unfold pval
  clear hE hS hA hP hW1 hr
  go_enter Tryz.func6, Tryz.ntmps6
  go_wp2_with fail
  rw [← HW1.out]
  refine HR.out.mono ?_
  intro e w1 hx
  obtain ⟨rfl, hx1⟩ := hx
  have HX1' := hid (HX1.out.trans hx1)
  have HBp1 := hid (HB1.out.ext hx1)
  clear HR hx1
  by_cases hA1 : 30 < n ∧ n ≤ 1000
  · obtain ⟨h1, h2⟩ := hA1
    go_wp2
    go_ret
    exact ⟨rfl, HX1'.out⟩
  · by_cases hL : 60 < E.length
    · rcases (by omega : n ≤ 30 ∨ (30 < n ∧ 1000 < n)) with h1 | ⟨h1, h2⟩
      · skip
        go_wp2
        go_ret
        exact ⟨rfl, HX1'.out⟩
      · skip
        go_wp2
        go_ret
        exact ⟨rfl, HX1'.out⟩
    · have hl60 : E.length ≤ 60 := by omega
      rcases (by omega : n ≤ 30 ∨ (30 < n ∧ 1000 < n)) with h1 | ⟨h1, h2⟩
      · clear hA1 hL
        have HL := hid (large_q a1 a2 a3 c1 c2 c3 20 (by omega) P w1 w.heap.size (HP.out.ext HX1'.out))
        rw [show ((20 : Nat) : Int) = (20 : Int) from rfl] at HL
        unfold pval at HL
        have p0 := HBp1.out.av 0 rfl
        have p1 := HBp1.out.av 1 rfl
        have p2 := HBp1.out.av 2 rfl
        simp only [pcells, qA0, qA1, qA2] at p0 p1 p2
        go_wp2_with fail
        refine HL.out.mono ?_
        intro e w2 hx
        obtain ⟨r, rfl, hr, hsm, hx2⟩ := hx
        have HX2 := hid (HX1'.out.trans hx2)
        have HBp := hid (HBp1.out.ext hx2)
        clear HL hx2 p0 p1 p2
        rcases (by omega : r = 1 ∨ r = 0) with rfl | rfl
        · clear hsm hr
          go_wp2
          go_ret
          exact ⟨rfl, HX2.out⟩
        have HSm := hid (hsm rfl).1
        clear hsm hr
        have HS := hid (HS.out.ext HX2.out)
        have HAA := hid (HAA.out.ext HX2.out)
        have HE := hid (HE.out.ext HX2.out)
        have HR0 := hid ((HR0.out.ext HX2.out).lift HX2.out.size)
        have HP := hid ((HP.out.ext HX2.out).lift HX2.out.size)
        have HX0 := hid HX2.out
        have HX2 := hid (Ext.refl w2)
        by_cases hg : (0 ≤ n ∧ n ≤ 1000) ∧ einAll n E E.length
        · skip
          obtain ⟨nn, rfl⟩ := Int.eq_ofNat_of_zero_le hg.1.1
          have hnn : nn ≤ 1000 := by omega
          have Hin := hid hg.2
          clear hg
          have HAs := hid (asedges_any (.slice al E.length cl) E w2 w2.heap.size (HR0.out.ext HX2.out) (by omega) (HX2.out).size)
          go_wp2_with fail
          refine HAs.out.mono ?_
          intro e w3 hx
          obtain ⟨ve, rfl, hre, hxe⟩ := hx
          obtain ⟨ae, ce, rfl⟩ := row_form hre
          have Hre := hid (EsR.own hre (Nat.le_refl _))
          have Hxe := hid hxe
          clear HAs hre hxe
          have HX3 := hid (HX2.out.trans Hxe.out)
          have HGn := hid (cyclegroups_yes nn (.slice ae E.length ce) E w3 w3.heap.size ad ((HS.out.ext HX3.out).at2) Hre.out (by omega) hnn Hin.out (Nat.le_refl _))
          go_wp2_with fail
          refine HGn.out.mono ?_
          intro e w4 hx
          obtain ⟨g, G, rfl, hG, hrow, hx4⟩ := hx
          have HX4 := hid (HX3.out.trans hx4)
          have HG := hid hG
          have Hrow4 := hid hrow
          clear HGn hG hrow hx4 Hre Hxe
          have HAs := hid (asedges_any (.slice al E.length cl) E w4 w2.heap.size (HR0.out.ext HX4.out) (by omega) (HX4.out).size)
          go_wp2_with fail
          refine HAs.out.mono ?_
          intro e w5 hx
          obtain ⟨ve, rfl, hre, hxe⟩ := hx
          obtain ⟨ae, ce, rfl⟩ := row_form hre
          have Hre := hid (EsR.own hre (Nat.le_refl _))
          have Hxe := hid hxe
          clear HAs hre hxe
          have HX5 := hid (HX4.out.trans Hxe.out)
          have Hrow5 := hid (own_ext Hrow4.out Hxe.out)
          have HGn := hid (cycleorder_yes nn (.slice ae E.length ce) E w5 w5.heap.size ad ((HS.out.ext HX5.out).at2) Hre.out (by omega) hnn Hin.out (Nat.le_refl _))
          go_wp2_with fail
          refine HGn.out.mono ?_
          intro e w6 hx
          obtain ⟨u6, G', rfl, hG', hro, hx6⟩ := hx
          obtain rfl := hG'.uniq HG.out
          obtain ⟨o, ho⟩ : ∃ o, o = ordRun E G' (sset G').length (sset G') := ⟨_, rfl⟩
          rw [← ho] at hro
          obtain ⟨a6, c6, rfl⟩ := hro.form
          have hog := ord_good Hin.out.ein HG.out hnn
          rw [← ho] at hog
          have Hog := hid hog
          have Ho := hid ho
          have HX6 := hid (HX5.out.trans hx6)
          have Hrow6 := hid (own_ext Hrow5.out hx6)
          have Hro6 := hid hro
          clear HGn hG' hro hx6 Hre Hxe ho hog Hrow4 Hrow5
          have HFt := hid (redgesfault_any (nn : Int) (.slice al E.length cl) E w6 w2.heap.size (HR0.out.ext HX6.out))
          go_wp2_with fail
          refine HFt.out.mono ?_
          intro e w7 hx
          obtain ⟨c, p, rfl, hei, hx7⟩ := hx
          have Hei := hid hei
          obtain ⟨W8, hW8⟩ : ∃ W8, W8 = w7.alloc (.cells #[.int .i64 (c : Int), .int .i64 p] 30) := ⟨_, rfl⟩
          have HX8 : Hid (Ext w7 W8) := hid (by rw [hW8]; exact (Ext.refl _).alloc _)
          have HBf : Hid (Blk W8 w7.heap.size #[.int .i64 (c : Int), .int .i64 p] 30) := hid (by rw [hW8]; exact Blk.new _ _ _)
          have HW8 := hid hW8
          have Hx7 := hid hx7
          clear HFt hei hx7 hW8
          have HX7 := hid (HX6.out.trans Hx7.out)
          obtain rfl : c = 0 := by
            rcases Hei.out with ⟨h, _⟩ | ⟨_, _, h, _⟩ | ⟨_, i, e, he, _, hb, _⟩
            · omega
            · exact h
            · rw [Hin.out i e (List.getElem?_eq_some_iff.1 he).1 he] at hb; cases hb
          have HW8 : Hid (W8 = w7.alloc (.cells #[.int .i64 0, .int .i64 p] 30)) := hid HW8.out
          have HBf : Hid (Blk W8 w7.heap.size #[.int .i64 0, .int .i64 p] 30) := hid HBf.out
          have f0 := HBf.out.av 0 rfl
          have f1 := HBf.out.av 1 rfl
          simp only [qA0, qA1, qA2] at f0 f1
          rw [HW8.out] at f0 f1
          have HRg := hid (rgroupsof_any nn (.slice al E.length cl) E W8 w2.heap.size (HR0.out.ext (HX7.out.trans HX8.out)) Hin.out.ein hnn (HX7.out.trans HX8.out).size)
          go_wp2_with fail
          rw [← HW8.out]
          refine HRg.out.mono ?_
          intro e w9 hx
          obtain ⟨ar, cr, G2, rfl, hG2, hr2, hx9⟩ := hx
          obtain rfl := hG2.uniq HG.out
          have HX9 := hid (HX7.out.trans (HX8.out.trans hx9))
          have HB9 := hid (HBf.out.ext hx9)
          have Hx69 := hid (Hx7.out.trans (HX8.out.trans hx9))
          have HSa := hid (sameints_any (some ⟨g, 0, none⟩) ar nn nn nn cr G2 G2 w9 (grp_ints (own_ext Hrow6.out Hx69.out) HG.out hnn) (grp_ints hr2 HG.out hnn) (by omega) (by omega))
          rw [decide_eq_true (rfl : G2 = G2)] at HSa
          clear HRg hG2 hr2 hx9 f0 f1
          go_wp2_with fail
          refine HSa.out.mono ?_
          intro e w10 hx
          obtain ⟨rfl, hx10⟩ := hx
          have HX10 := hid (HX9.out.trans hx10)
          have HB10 := hid (HB9.out.ext hx10)
          have Hx610 := hid (Hx69.out.trans hx10)
          have HRo := hid (rorderof_any nn (.slice al E.length cl) E w10 w2.heap.size (HR0.out.ext HX10.out) (by omega) Hin.out.ein hnn HX10.out.size)
          clear HSa hx10
          go_wp2_with fail
          refine HRo.out.mono ?_
          intro e w11 hx
          obtain ⟨u11, G3, rfl, hG3, hr3, hx11⟩ := hx
          obtain rfl := hG3.uniq HG.out
          rw [← Ho.out] at hr3
          obtain ⟨a11, c11, rfl⟩ := hr3.form
          have HX11 := hid (HX10.out.trans hx11)
          have HB11 := hid (HB10.out.ext hx11)
          have HSb := hid (sameints_any a6 a11 o.length o.length c6 c11 o o w11 (irow_ints (own_ext Hro6.out (Hx610.out.trans hx11)) fun x hx => by have := Hog.out.2.1 x hx; omega) (irow_ints hr3 fun x hx => by have := Hog.out.2.1 x hx; omega) (by have := Hog.out.2.2; omega) (by have := Hog.out.2.2; omega))
          rw [decide_eq_true (rfl : o = o)] at HSb
          clear HRo hG3 hr3 hx11
          go_wp2_with fail
          refine HSb.out.mono ?_
          intro e w12 hx
          obtain ⟨rfl, hx12⟩ := hx
          have HXP := hid (HX11.out.trans hx12)
          have HBP := hid (HB11.out.ext hx12)
          clear HSb hx12
          have hz1 : ∀ s ∈ P.vars, s.size ≤ 1000000 := fun s hs => by have := HSm.out.vs s hs; omega
          have hz2 : ∀ s ∈ P.names, s.size ≤ 1000000 := fun s hs => by
            obtain ⟨f, hf, rfl⟩ := List.mem_map.1 hs
            have := (HSm.out.fs f hf).1
            omega
          have Hz1 := hid hz1
          have Hz2 := hid hz2
          have HPS := hid (show PS0 w12 (w12).heap.size ad a1 a2 a3 c1 c2 c3 P from ⟨HE.out.ext HXP.out, (HP.out.ext HXP.out).lift HXP.out.size, Hz1.out, Hz2.out⟩)
          clear hz1 hz2
          have HQ := hid (ownprogram_any a1 a2 a3 c1 c2 c3 P w12 HPS.out.prog HSm.out)
          have HBw := hid (HBp.out.ext HXP.out)
          have p0 := HBw.out.av 0 rfl
          have p1 := HBw.out.av 1 rfl
          have p2 := HBw.out.av 2 rfl
          simp only [pcells, qA0, qA1, qA2] at p0 p1 p2
          unfold pval at HQ
          go_wp2_with fail
          refine HQ.out.mono ?_
          intro e w13 hx
          obtain ⟨hx13, b1, b2, b3, d1, d2, d3, rfl, hq⟩ := hx
          have HX13 := hid (HXP.out.trans hx13)
          have Hx13 := hid hx13
          have HPQ := hid (show PS0 w13 w13.heap.size ad b1 b2 b3 d1 d2 d3 P from ⟨HE.out.ext HX13.out, hq, Hz1.out, Hz2.out⟩)
          clear HQ hx13 hq p0 p1 p2
          rcases Classical.em P.Well with hw | hw
          · skip
            obtain ⟨ks, S, hL⟩ := least_exists hw
            have HLe := hid hL
            have Hw := hid hw
            have Hg := hid (hL.good hw)
            have HnN := hid (nodesV_le P hw)
            have HM := hid (cyclemerged_ok b1 b2 b3 d1 d2 d3 P w13 ad (HPQ.out.pw hw) (HS.out.ext HX13.out) ks S hL)
            unfold pval at HM
            clear hw hL
            go_wp2_with fail
            refine HM.out.mono ?_
            intro e w14 hx
            obtain ⟨gm, GM, rfl, hGM, hrm, hx14⟩ := hx
            have HX14 := hid (HX13.out.trans hx14)
            have Hx14 := hid (Hx13.out.trans hx14)
            have HGM := hid hGM
            have Hrm := hid hrm
            clear HM hGM hrm hx14
            have HF := hid (rfprog_all a1 a2 a3 c1 c2 c3 P w14 ((HP.out.ext HX14.out).lift (HX14.out).size) Hz1.out Hz2.out)
            have HBw := hid (HBp.out.ext HX14.out)
            have p0 := HBw.out.av 0 rfl
            have p1 := HBw.out.av 1 rfl
            have p2 := HBw.out.av 2 rfl
            simp only [pcells, qA0, qA1, qA2] at p0 p1 p2
            unfold pval at HF
            go_wp2_with fail
            refine HF.out.mono ?_
            intro e w15 hx
            obtain ⟨hx15, cc, pp, rfl, hfi⟩ := hx
            have Hfi := hid hfi
            have Hx15 := hid hx15
            clear HF hfi hx15 p0 p1 p2
            obtain ⟨rfl, rfl⟩ := Hfi.out.uniq (show FaultIs P 0 (-1) from .inr (.inl ⟨Hw.out.1, Hw.out.2, rfl, rfl⟩))
            have HX15 := hid (HX14.out.trans Hx15.out)
            have HBf15 := hid (HBP.out.ext (Hx14.out.trans Hx15.out))
            have z0 := HBf15.out.av 0 rfl
            have z1 := HBf15.out.av 1 rfl
            have y0 := HBf15.out.free 0
            have y1 := HBf15.out.free 1
            simp only [qA0, qA1, qA2] at z0 z1
            obtain ⟨wS, hwS⟩ : ∃ wS, wS = (w15.setCell ⟨w7.heap.size, 0, none⟩ (.int .i64 0)).setCell ⟨w7.heap.size, 1, none⟩ (.int .i64 (-1)) := ⟨_, rfl⟩
            have HBs : Hid (Blk wS w7.heap.size #[.int .i64 0, .int .i64 (-1)] 30) := hid (by rw [hwS]; exact two HBf15.out)
            have HKS : Hid (Keep (fun q => q = w7.heap.size) w15 wS) := hid (by rw [hwS]; exact two_keep w15 w7.heap.size (.int .i64 0) (.int .i64 (-1)))
            have HxS : Hid (Ext w2 wS) := hid (Keep.new HX15.out HKS.out fun q e => by rw [e]; exact HX7.out.size)
            have HrmS := hid (row_keep (own_ext Hrm.out Hx15.out) HKS.out fun i hi e => by
              obtain ⟨c', hc'⟩ := own_ty (own_ext Hrm.out Hx15.out) hi
              exact Blk.ty_ne hc' HBf15.out (by decide) e)
            have HwS := hid hwS
            have f0 := HBs.out.av 0 rfl
            have f1 := HBs.out.av 1 rfl
            simp only [qA0, qA1, qA2] at f0 f1
            rw [HwS.out] at f0 f1
            have HRL := hid (rleastof_any a1 a2 a3 c1 c2 c3 P wS ((HP.out.ext HxS.out).lift HxS.out.size) Hw.out ks S HLe.out)
            have HBw := hid (HBp.out.ext HxS.out)
            have p0 := HBw.out.av 0 rfl
            have p1 := HBw.out.av 1 rfl
            have p2 := HBw.out.av 2 rfl
            simp only [pcells, qA0, qA1, qA2] at p0 p1 p2
            rw [HwS.out] at p0 p1 p2
            unfold pval at HRL
            clear hwS Hfi
            go_wp2_with fail
            rw [← HwS.out]
            clear z0 z1 y0 y1 f0 f1 p0 p1 p2
            refine HRL.out.mono ?_
            intro e w16 hx
            obtain ⟨aS, cS, rfl, hs, hx16⟩ := hx
            have HX16 := hid (HxS.out.trans hx16)
            have HRE := hid (redgesof_any a1 a2 a3 c1 c2 c3 P (.slice aS P.nodesV cS) S w16 w16.heap.size ((HP.out.ext HX16.out).lift HX16.out.size) Hw.out hs Hg.out.2.1 (Nat.le_refl _))
            have HBw := hid (HBp.out.ext HX16.out)
            have p0 := HBw.out.av 0 rfl
            have p1 := HBw.out.av 1 rfl
            have p2 := HBw.out.av 2 rfl
            simp only [pcells, qA0, qA1, qA2] at p0 p1 p2
            have Hrm16 := hid (own_ext HrmS.out hx16)
            unfold pval at HRE
            clear HRL hs hx16
            go_wp2_with fail
            clear p0 p1 p2
            refine HRE.out.mono ?_
            intro e w17 hx
            obtain ⟨vE, rfl, hrE, hx17⟩ := hx
            have HX17 := hid (HX16.out.trans hx17)
            have Hrm17 := hid (own_ext Hrm16.out hx17)
            obtain ⟨aE, cE, rfl⟩ := row_form hrE
            have HRG := hid (rgroupsof_any P.nodesV (.slice aE (P.refE S P.nodesV).length cE) (P.edgesL S) w17 w17.heap.size (EsR.own hrE (Nat.le_refl _)) (edgesL_in S) (by have := HnN.out; omega) (Nat.le_refl _))
            clear HRE hrE hx17
            go_wp2_with fail
            refine HRG.out.mono ?_
            intro e w18 hx
            obtain ⟨aw, cw, GW, rfl, hGW, hrw, hx18⟩ := hx
            obtain rfl := hGW.uniq HGM.out
            have HX18 := hid (HX17.out.trans hx18)
            have HSz := hid (sameints_any (some ⟨gm, 0, none⟩) aw P.nodesV P.nodesV P.nodesV cw GW GW w18 (grp_ints (own_ext Hrm17.out hx18) HGM.out (by have := HnN.out; omega)) (grp_ints hrw HGM.out (by have := HnN.out; omega)) (by have := HnN.out; omega) (by have := HnN.out; omega))
            rw [decide_eq_true (rfl : GW = GW)] at HSz
            have Hcnt := hid (cntG_all HGM.out (by have := HnN.out; omega))
            have HrW := hid hrw
            obtain ⟨N, hN⟩ : ∃ N, N = P.nodesV := ⟨_, rfl⟩
            have hN120 : N ≤ 120 := by rw [hN]; exact HnN.out
            rw [← hN] at HSz Hcnt HrW HGM
            rw [← hN]
            have HNe := hid hN
            clear HRG hGW hrw hx18 hN
            go_wp2
            obtain ⟨w0, hw0⟩ : ∃ x, x = w18 := ⟨_, rfl⟩
            subst hw0
            go_loopw [19, 20] (fun t19 t20 wr => ∃ k : Nat, t20 = .int .i64 (k : Int) ∧ t19 = .int .i64 (cntG GW k : Int) ∧ k ≤ N ∧ wr = w0) (fun _ t20 _ => N - (intOf t20).toNat)
            case atStart => exact ⟨0, rfl, rfl, Nat.zero_le _, rfl⟩
            case round =>
              obtain ⟨k, rfl, rfl, hk, rfl⟩ := hrel
              by_cases hlt : k < N
              · obtain ⟨q, hq, _⟩ := HGM.out.at_ k hlt
                obtain ⟨gw, hgw⟩ : ∃ gw, aw = some ⟨gw, 0, none⟩ := by
                  rcases HrW.out.2 with ⟨_, h2⟩ | ⟨gw, cq, _, h1, _⟩
                  · omega
                  · exact ⟨gw, (by simpa using h1 : _ ∧ _).1⟩
                subst hgw
                have q0 := own_get HrW.out k (icells_at hq)
                have hcl := cntG_le GW k
                by_cases hqk : q = k
                · have Hy := hid (cntG_yes (G := GW) (k := k) (by rw [hq, hqk]))
                  subst hqk
                  clear hq
                  go_wp2
                  go_roundw
                  case rel => exact ⟨q + 1, by go_num, by rw [Hy.out]; go_num, by omega, by trivial⟩
                  case measure => simp [intOf]; omega
                · have Hy := hid (cntG_no (G := GW) (k := k) (by rw [hq]; intro h; exact hqk (by have := Option.some.inj h; omega)))
                  have hqk2 : ((q : Int) == (k : Int)) = false := by rw [beq_eq_false_iff_ne]; omega
                  clear hq
                  go_wp2
                  go_roundw
                  case rel => exact ⟨k + 1, by go_num, by rw [Hy.out], by omega, by trivial⟩
                  case measure => simp [intOf]; omega
              · have hkN : N = k := by omega
                subst hkN
                go_wp2_with fail
                refine HSz.out.mono ?_
                intro e w19 hx
                obtain ⟨rfl, hx19⟩ := hx
                have HX19 := hid (HX18.out.trans hx19)
                rw [Hcnt.out]
                clear HSz hx19
                go_wp2
                go_ret
                exact ⟨rfl, HX0.out.trans HX19.out⟩
          · skip
            have HM := hid (cyclemerged_no b1 b2 b3 d1 d2 d3 P w13 w13.heap.size ad HPQ.out hw)
            have Hw := hid hw
            unfold pval at HM
            clear hw
            go_wp2_with fail
            refine HM.out.mono ?_
            intro e w14 hx
            obtain ⟨t, x, rfl, hee, hx14⟩ := hx
            have HX14 := hid (HX13.out.trans hx14)
            have Hx14 := hid (Hx13.out.trans hx14)
            have HeeM := hid hee
            clear HM hee hx14
            have HF := hid (rfprog_all a1 a2 a3 c1 c2 c3 P w14 ((HP.out.ext HX14.out).lift (HX14.out).size) Hz1.out Hz2.out)
            have HBw := hid (HBp.out.ext HX14.out)
            have p0 := HBw.out.av 0 rfl
            have p1 := HBw.out.av 1 rfl
            have p2 := HBw.out.av 2 rfl
            simp only [pcells, qA0, qA1, qA2] at p0 p1 p2
            unfold pval at HF
            go_wp2_with fail
            refine HF.out.mono ?_
            intro e w15 hx
            obtain ⟨hx15, cc, pp, rfl, hfi⟩ := hx
            have Hfi := hid hfi
            have Hx15 := hid hx15
            clear HF hfi hx15 p0 p1 p2
            have HX15 := hid (HX14.out.trans Hx15.out)
            have HBf15 := hid (HBP.out.ext (Hx14.out.trans Hx15.out))
            have z0 := HBf15.out.av 0 rfl
            have z1 := HBf15.out.av 1 rfl
            have y0 := HBf15.out.free 0
            have y1 := HBf15.out.free 1
            simp only [qA0, qA1, qA2] at z0 z1
            obtain ⟨wS, hwS⟩ : ∃ wS, wS = (w15.setCell ⟨w7.heap.size, 0, none⟩ (.int .i64 (cc : Int))).setCell ⟨w7.heap.size, 1, none⟩ (.int .i64 pp) := ⟨_, rfl⟩
            have HBs : Hid (Blk wS w7.heap.size #[.int .i64 (cc : Int), .int .i64 pp] 30) := hid (by rw [hwS]; exact two HBf15.out)
            have HKS : Hid (Keep (fun q => q = w7.heap.size) w15 wS) := hid (by rw [hwS]; exact two_keep w15 w7.heap.size (.int .i64 (cc : Int)) (.int .i64 pp))
            have HxS : Hid (Ext w2 wS) := hid (Keep.new HX15.out HKS.out fun q e => by rw [e]; exact HX7.out.size)
            have HwS := hid hwS
            have f0 := HBs.out.av 0 rfl
            have f1 := HBs.out.av 1 rfl
            simp only [qA0, qA1, qA2] at f0 f1
            rw [HwS.out] at f0 f1
            clear hwS
            have hei := (HeeM.out.ext Hx15.out).keepF HKS.out fun i e => by
              have e : i = w7.heap.size := e
              subst e
              exact ⟨_, HBf15.out⟩
            obtain ⟨q, pp', hf', hc0, hcode⟩ := code_chk hei Hw.out
            obtain ⟨rfl, rfl⟩ := Hfi.out.uniq hf'
            have c01 : 0 < (cc : Int) := by omega
            have HFa := hid (faulted2_at (w := wS) (HAA.out.ext HxS.out) fun w1 x hA => hcode w1 x hA)
            clear hei hf' hcode hc0
            go_wp2_with fail
            rw [← HwS.out]
            clear z0 z1 y0 y1 f0 f1
            refine HFa.out.mono ?_
            intro e w16 hx
            obtain ⟨rfl, hx16⟩ := hx
            have Hx16 := hid hx16
            clear HFa hx16
            go_wp2
            go_ret
            exact ⟨rfl, HX0.out.trans (HxS.out.trans Hx16.out)⟩
        · have Hbad := hid hg
          clear hg
          have HE2 := hid ((HS.out.ext HX2.out).at2)
          have HAs := hid (asedges_any (.slice al E.length cl) E w2 w2.heap.size (HR0.out.ext HX2.out) (by omega) (HX2.out).size)
          go_wp2_with fail
          refine HAs.out.mono ?_
          intro e w3 hx
          obtain ⟨ve, rfl, hre, hxe⟩ := hx
          obtain ⟨ae, ce, rfl⟩ := row_form hre
          have Hre := hid (EsR.own hre (Nat.le_refl _))
          have Hxe := hid hxe
          clear HAs hre hxe
          have HX3 := hid (HX2.out.trans Hxe.out)
          have HGn := hid (cyclegroups_no n (.slice ae E.length ce) E w3 w3.heap.size ad ((HS.out.ext HX3.out).at2) Hre.out Hbad.out)
          go_wp2_with fail
          refine HGn.out.mono ?_
          intro e w4 hx
          obtain ⟨t4, x4, rfl, hee, hx4⟩ := hx
          have HX4 := hid (HX3.out.trans hx4)
          have Hee4 := hid hee
          clear HGn hee hx4 Hre Hxe
          have HAs := hid (asedges_any (.slice al E.length cl) E w4 w2.heap.size (HR0.out.ext HX4.out) (by omega) (HX4.out).size)
          go_wp2_with fail
          refine HAs.out.mono ?_
          intro e w5 hx
          obtain ⟨ve, rfl, hre, hxe⟩ := hx
          obtain ⟨ae, ce, rfl⟩ := row_form hre
          have Hre := hid (EsR.own hre (Nat.le_refl _))
          have Hxe := hid hxe
          clear HAs hre hxe
          have HX5 := hid (HX4.out.trans Hxe.out)
          have Hee5 := hid (Hee4.out.ext Hxe.out)
          have HGn := hid (cycleorder_no n (.slice ae E.length ce) E w5 w5.heap.size ad ((HS.out.ext HX5.out).at2) Hre.out Hbad.out)
          go_wp2_with fail
          refine HGn.out.mono ?_
          intro e w6 hx
          obtain ⟨t6, x6, rfl, hee, hx6⟩ := hx
          have HX6 := hid (HX5.out.trans hx6)
          have Hee6 := hid hee
          have Hee56 := hid (Hee5.out.ext hx6)
          clear HGn hee hx6 Hre Hxe
          have HFt := hid (redgesfault_any n (.slice al E.length cl) E w6 w2.heap.size (HR0.out.ext HX6.out))
          go_wp2_with fail
          refine HFt.out.mono ?_
          intro e w7 hx
          obtain ⟨c, p, rfl, hei, hx7⟩ := hx
          have Hei := hid hei
          obtain ⟨W8, hW8⟩ : ∃ W8, W8 = w7.alloc (.cells #[.int .i64 (c : Int), .int .i64 p] 30) := ⟨_, rfl⟩
          have HX8 : Hid (Ext w7 W8) := hid (by rw [hW8]; exact (Ext.refl _).alloc _)
          have HBf : Hid (Blk W8 w7.heap.size #[.int .i64 (c : Int), .int .i64 p] 30) := hid (by rw [hW8]; exact Blk.new _ _ _)
          have HW8 := hid hW8
          have Hx7 := hid hx7
          clear HFt hei hx7 hW8
          have HX7 := hid (HX6.out.trans Hx7.out)
          have Hc2 : Hid (c = 2) := hid (by
            rcases Hei.out with ⟨_, h, _⟩ | ⟨h1, h2, _⟩ | ⟨_, _, _, _, _, _, h, _⟩
            · exact h
            · exact absurd ⟨h1, h2⟩ Hbad.out
            · exact h)
          have hc0 : 0 < (c : Int) := by have := Hc2.out; omega
          have f0 := HBf.out.av 0 rfl
          have f1 := HBf.out.av 1 rfl
          simp only [qA0, qA1, qA2] at f0 f1
          rw [HW8.out] at f0 f1
          have HFa := hid (faulted2_at (w := W8) (HAA.out.ext (HX7.out.trans HX8.out)) fun w1 x hA => code_edge Hee56.out Hei.out w1 (Hx7.out.trans (HX8.out.trans x)) hA)
          go_wp2_with fail
          rw [← HW8.out]
          refine HFa.out.mono ?_
          intro e w9 hx
          obtain ⟨rfl, hx9⟩ := hx
          have HX9 := hid (HX7.out.trans (HX8.out.trans hx9))
          have HB9 := hid (HBf.out.ext hx9)
          have HFa2 := hid (faulted2_at (w := w9) (HAA.out.ext HX9.out) fun w1 x hA => code_edge Hee6.out Hei.out w1 (Hx7.out.trans (HX8.out.trans (hx9.trans x))) hA)
          have Hx9 := hid hx9
          clear HFa hx9 f0 f1
          have f0 := HB9.out.av 0 rfl
          have f1 := HB9.out.av 1 rfl
          simp only [qA0, qA1, qA2] at f0 f1
          go_wp2_with fail
          refine HFa2.out.mono ?_
          intro e w10 hx
          obtain ⟨rfl, hx10⟩ := hx
          have HXP := hid (HX9.out.trans hx10)
          have HBP := hid (HB9.out.ext hx10)
          clear HFa2 hx10 f0 f1
          have hz1 : ∀ s ∈ P.vars, s.size ≤ 1000000 := fun s hs => by have := HSm.out.vs s hs; omega
          have hz2 : ∀ s ∈ P.names, s.size ≤ 1000000 := fun s hs => by
            obtain ⟨f, hf, rfl⟩ := List.mem_map.1 hs
            have := (HSm.out.fs f hf).1
            omega
          have Hz1 := hid hz1
          have Hz2 := hid hz2
          have HPS := hid (show PS0 w10 (w10).heap.size ad a1 a2 a3 c1 c2 c3 P from ⟨HE.out.ext HXP.out, (HP.out.ext HXP.out).lift HXP.out.size, Hz1.out, Hz2.out⟩)
          clear hz1 hz2
          have HQ := hid (ownprogram_any a1 a2 a3 c1 c2 c3 P w10 HPS.out.prog HSm.out)
          have HBw := hid (HBp.out.ext HXP.out)
          have p0 := HBw.out.av 0 rfl
          have p1 := HBw.out.av 1 rfl
          have p2 := HBw.out.av 2 rfl
          simp only [pcells, qA0, qA1, qA2] at p0 p1 p2
          unfold pval at HQ
          go_wp2_with fail
          refine HQ.out.mono ?_
          intro e w13 hx
          obtain ⟨hx13, b1, b2, b3, d1, d2, d3, rfl, hq⟩ := hx
          have HX13 := hid (HXP.out.trans hx13)
          have Hx13 := hid hx13
          have HPQ := hid (show PS0 w13 w13.heap.size ad b1 b2 b3 d1 d2 d3 P from ⟨HE.out.ext HX13.out, hq, Hz1.out, Hz2.out⟩)
          clear HQ hx13 hq p0 p1 p2
          rcases Classical.em P.Well with hw | hw
          · skip
            obtain ⟨ks, S, hL⟩ := least_exists hw
            have HLe := hid hL
            have Hw := hid hw
            have Hg := hid (hL.good hw)
            have HnN := hid (nodesV_le P hw)
            have HM := hid (cyclemerged_ok b1 b2 b3 d1 d2 d3 P w13 ad (HPQ.out.pw hw) (HS.out.ext HX13.out) ks S hL)
            unfold pval at HM
            clear hw hL
            go_wp2_with fail
            refine HM.out.mono ?_
            intro e w14 hx
            obtain ⟨gm, GM, rfl, hGM, hrm, hx14⟩ := hx
            have HX14 := hid (HX13.out.trans hx14)
            have Hx14 := hid (Hx13.out.trans hx14)
            have HGM := hid hGM
            have Hrm := hid hrm
            clear HM hGM hrm hx14
            have HF := hid (rfprog_all a1 a2 a3 c1 c2 c3 P w14 ((HP.out.ext HX14.out).lift (HX14.out).size) Hz1.out Hz2.out)
            have HBw := hid (HBp.out.ext HX14.out)
            have p0 := HBw.out.av 0 rfl
            have p1 := HBw.out.av 1 rfl
            have p2 := HBw.out.av 2 rfl
            simp only [pcells, qA0, qA1, qA2] at p0 p1 p2
            unfold pval at HF
            go_wp2_with fail
            refine HF.out.mono ?_
            intro e w15 hx
            obtain ⟨hx15, cc, pp, rfl, hfi⟩ := hx
            have Hfi := hid hfi
            have Hx15 := hid hx15
            clear HF hfi hx15 p0 p1 p2
            obtain ⟨rfl, rfl⟩ := Hfi.out.uniq (show FaultIs P 0 (-1) from .inr (.inl ⟨Hw.out.1, Hw.out.2, rfl, rfl⟩))
            have HX15 := hid (HX14.out.trans Hx15.out)
            have HBf15 := hid (HBP.out.ext (Hx14.out.trans Hx15.out))
            have z0 := HBf15.out.av 0 rfl
            have z1 := HBf15.out.av 1 rfl
            have y0 := HBf15.out.free 0
            have y1 := HBf15.out.free 1
            simp only [qA0, qA1, qA2] at z0 z1
            obtain ⟨wS, hwS⟩ : ∃ wS, wS = (w15.setCell ⟨w7.heap.size, 0, none⟩ (.int .i64 0)).setCell ⟨w7.heap.size, 1, none⟩ (.int .i64 (-1)) := ⟨_, rfl⟩
            have HBs : Hid (Blk wS w7.heap.size #[.int .i64 0, .int .i64 (-1)] 30) := hid (by rw [hwS]; exact two HBf15.out)
            have HKS : Hid (Keep (fun q => q = w7.heap.size) w15 wS) := hid (by rw [hwS]; exact two_keep w15 w7.heap.size (.int .i64 0) (.int .i64 (-1)))
            have HxS : Hid (Ext w2 wS) := hid (Keep.new HX15.out HKS.out fun q e => by rw [e]; exact HX7.out.size)
            have HrmS := hid (row_keep (own_ext Hrm.out Hx15.out) HKS.out fun i hi e => by
              obtain ⟨c', hc'⟩ := own_ty (own_ext Hrm.out Hx15.out) hi
              exact Blk.ty_ne hc' HBf15.out (by decide) e)
            have HwS := hid hwS
            have f0 := HBs.out.av 0 rfl
            have f1 := HBs.out.av 1 rfl
            simp only [qA0, qA1, qA2] at f0 f1
            rw [HwS.out] at f0 f1
            have HRL := hid (rleastof_any a1 a2 a3 c1 c2 c3 P wS ((HP.out.ext HxS.out).lift HxS.out.size) Hw.out ks S HLe.out)
            have HBw := hid (HBp.out.ext HxS.out)
            have p0 := HBw.out.av 0 rfl
            have p1 := HBw.out.av 1 rfl
            have p2 := HBw.out.av 2 rfl
            simp only [pcells, qA0, qA1, qA2] at p0 p1 p2
            rw [HwS.out] at p0 p1 p2
            unfold pval at HRL
            clear hwS Hfi
            go_wp2_with fail
            rw [← HwS.out]
            clear z0 z1 y0 y1 f0 f1 p0 p1 p2
            refine HRL.out.mono ?_
            intro e w16 hx
            obtain ⟨aS, cS, rfl, hs, hx16⟩ := hx
            have HX16 := hid (HxS.out.trans hx16)
            have HRE := hid (redgesof_any a1 a2 a3 c1 c2 c3 P (.slice aS P.nodesV cS) S w16 w16.heap.size ((HP.out.ext HX16.out).lift HX16.out.size) Hw.out hs Hg.out.2.1 (Nat.le_refl _))
            have HBw := hid (HBp.out.ext HX16.out)
            have p0 := HBw.out.av 0 rfl
            have p1 := HBw.out.av 1 rfl
            have p2 := HBw.out.av 2 rfl
            simp only [pcells, qA0, qA1, qA2] at p0 p1 p2
            have Hrm16 := hid (own_ext HrmS.out hx16)
            unfold pval at HRE
            clear HRL hs hx16
            go_wp2_with fail
            clear p0 p1 p2
            refine HRE.out.mono ?_
            intro e w17 hx
            obtain ⟨vE, rfl, hrE, hx17⟩ := hx
            have HX17 := hid (HX16.out.trans hx17)
            have Hrm17 := hid (own_ext Hrm16.out hx17)
            obtain ⟨aE, cE, rfl⟩ := row_form hrE
            have HRG := hid (rgroupsof_any P.nodesV (.slice aE (P.refE S P.nodesV).length cE) (P.edgesL S) w17 w17.heap.size (EsR.own hrE (Nat.le_refl _)) (edgesL_in S) (by have := HnN.out; omega) (Nat.le_refl _))
            clear HRE hrE hx17
            go_wp2_with fail
            refine HRG.out.mono ?_
            intro e w18 hx
            obtain ⟨aw, cw, GW, rfl, hGW, hrw, hx18⟩ := hx
            obtain rfl := hGW.uniq HGM.out
            have HX18 := hid (HX17.out.trans hx18)
            have HSz := hid (sameints_any (some ⟨gm, 0, none⟩) aw P.nodesV P.nodesV P.nodesV cw GW GW w18 (grp_ints (own_ext Hrm17.out hx18) HGM.out (by have := HnN.out; omega)) (grp_ints hrw HGM.out (by have := HnN.out; omega)) (by have := HnN.out; omega) (by have := HnN.out; omega))
            rw [decide_eq_true (rfl : GW = GW)] at HSz
            have Hcnt := hid (cntG_all HGM.out (by have := HnN.out; omega))
            have HrW := hid hrw
            obtain ⟨N, hN⟩ : ∃ N, N = P.nodesV := ⟨_, rfl⟩
            have hN120 : N ≤ 120 := by rw [hN]; exact HnN.out
            rw [← hN] at HSz Hcnt HrW HGM
            rw [← hN]
            have HNe := hid hN
            clear HRG hGW hrw hx18 hN
            go_wp2
            obtain ⟨w0, hw0⟩ : ∃ x, x = w18 := ⟨_, rfl⟩
            subst hw0
            go_loopw [19, 20] (fun t19 t20 wr => ∃ k : Nat, t20 = .int .i64 (k : Int) ∧ t19 = .int .i64 (cntG GW k : Int) ∧ k ≤ N ∧ wr = w0) (fun _ t20 _ => N - (intOf t20).toNat)
            case atStart => exact ⟨0, rfl, rfl, Nat.zero_le _, rfl⟩
            case round =>
              obtain ⟨k, rfl, rfl, hk, rfl⟩ := hrel
              by_cases hlt : k < N
              · obtain ⟨q, hq, _⟩ := HGM.out.at_ k hlt
                obtain ⟨gw, hgw⟩ : ∃ gw, aw = some ⟨gw, 0, none⟩ := by
                  rcases HrW.out.2 with ⟨_, h2⟩ | ⟨gw, cq, _, h1, _⟩
                  · omega
                  · exact ⟨gw, (by simpa using h1 : _ ∧ _).1⟩
                subst hgw
                have q0 := own_get HrW.out k (icells_at hq)
                have hcl := cntG_le GW k
                by_cases hqk : q = k
                · have Hy := hid (cntG_yes (G := GW) (k := k) (by rw [hq, hqk]))
                  subst hqk
                  clear hq
                  go_wp2
                  go_roundw
                  case rel => exact ⟨q + 1, by go_num, by rw [Hy.out]; go_num, by omega, by trivial⟩
                  case measure => simp [intOf]; omega
                · have Hy := hid (cntG_no (G := GW) (k := k) (by rw [hq]; intro h; exact hqk (by have := Option.some.inj h; omega)))
                  have hqk2 : ((q : Int) == (k : Int)) = false := by rw [beq_eq_false_iff_ne]; omega
                  clear hq
                  go_wp2
                  go_roundw
                  case rel => exact ⟨k + 1, by go_num, by rw [Hy.out], by omega, by trivial⟩
                  case measure => simp [intOf]; omega
              · have hkN : N = k := by omega
                subst hkN
                go_wp2_with fail
                refine HSz.out.mono ?_
                intro e w19 hx
                obtain ⟨rfl, hx19⟩ := hx
                have HX19 := hid (HX18.out.trans hx19)
                rw [Hcnt.out]
                clear HSz hx19
                go_wp2
                go_ret
                exact ⟨rfl, HX0.out.trans HX19.out⟩
          · skip
            have HM := hid (cyclemerged_no b1 b2 b3 d1 d2 d3 P w13 w13.heap.size ad HPQ.out hw)
            have Hw := hid hw
            unfold pval at HM
            clear hw
            go_wp2_with fail
            refine HM.out.mono ?_
            intro e w14 hx
            obtain ⟨t, x, rfl, hee, hx14⟩ := hx
            have HX14 := hid (HX13.out.trans hx14)
            have Hx14 := hid (Hx13.out.trans hx14)
            have HeeM := hid hee
            clear HM hee hx14
            have HF := hid (rfprog_all a1 a2 a3 c1 c2 c3 P w14 ((HP.out.ext HX14.out).lift (HX14.out).size) Hz1.out Hz2.out)
            have HBw := hid (HBp.out.ext HX14.out)
            have p0 := HBw.out.av 0 rfl
            have p1 := HBw.out.av 1 rfl
            have p2 := HBw.out.av 2 rfl
            simp only [pcells, qA0, qA1, qA2] at p0 p1 p2
            unfold pval at HF
            go_wp2_with fail
            refine HF.out.mono ?_
            intro e w15 hx
            obtain ⟨hx15, cc, pp, rfl, hfi⟩ := hx
            have Hfi := hid hfi
            have Hx15 := hid hx15
            clear HF hfi hx15 p0 p1 p2
            have HX15 := hid (HX14.out.trans Hx15.out)
            have HBf15 := hid (HBP.out.ext (Hx14.out.trans Hx15.out))
            have z0 := HBf15.out.av 0 rfl
            have z1 := HBf15.out.av 1 rfl
            have y0 := HBf15.out.free 0
            have y1 := HBf15.out.free 1
            simp only [qA0, qA1, qA2] at z0 z1
            obtain ⟨wS, hwS⟩ : ∃ wS, wS = (w15.setCell ⟨w7.heap.size, 0, none⟩ (.int .i64 (cc : Int))).setCell ⟨w7.heap.size, 1, none⟩ (.int .i64 pp) := ⟨_, rfl⟩
            have HBs : Hid (Blk wS w7.heap.size #[.int .i64 (cc : Int), .int .i64 pp] 30) := hid (by rw [hwS]; exact two HBf15.out)
            have HKS : Hid (Keep (fun q => q = w7.heap.size) w15 wS) := hid (by rw [hwS]; exact two_keep w15 w7.heap.size (.int .i64 (cc : Int)) (.int .i64 pp))
            have HxS : Hid (Ext w2 wS) := hid (Keep.new HX15.out HKS.out fun q e => by rw [e]; exact HX7.out.size)
            have HwS := hid hwS
            have f0 := HBs.out.av 0 rfl
            have f1 := HBs.out.av 1 rfl
            simp only [qA0, qA1, qA2] at f0 f1
            rw [HwS.out] at f0 f1
            clear hwS
            have hei := (HeeM.out.ext Hx15.out).keepF HKS.out fun i e => by
              have e : i = w7.heap.size := e
              subst e
              exact ⟨_, HBf15.out⟩
            obtain ⟨q, pp', hf', hc0, hcode⟩ := code_chk hei Hw.out
            obtain ⟨rfl, rfl⟩ := Hfi.out.uniq hf'
            have c01 : 0 < (cc : Int) := by omega
            have HFa := hid (faulted2_at (w := wS) (HAA.out.ext HxS.out) fun w1 x hA => hcode w1 x hA)
            clear hei hf' hcode hc0
            go_wp2_with fail
            rw [← HwS.out]
            clear z0 z1 y0 y1 f0 f1
            refine HFa.out.mono ?_
            intro e w16 hx
            obtain ⟨rfl, hx16⟩ := hx
            have Hx16 := hid hx16
            clear HFa hx16
            go_wp2
            go_ret
            exact ⟨rfl, HX0.out.trans (HxS.out.trans Hx16.out)⟩
      · clear hA1 hL
        have HL := hid (large_q a1 a2 a3 c1 c2 c3 20 (by omega) P w1 w.heap.size (HP.out.ext HX1'.out))
        rw [show ((20 : Nat) : Int) = (20 : Int) from rfl] at HL
        unfold pval at HL
        have p0 := HBp1.out.av 0 rfl
        have p1 := HBp1.out.av 1 rfl
        have p2 := HBp1.out.av 2 rfl
        simp only [pcells, qA0, qA1, qA2] at p0 p1 p2
        go_wp2_with fail
        refine HL.out.mono ?_
        intro e w2 hx
        obtain ⟨r, rfl, hr, hsm, hx2⟩ := hx
        have HX2 := hid (HX1'.out.trans hx2)
        have HBp := hid (HBp1.out.ext hx2)
        clear HL hx2 p0 p1 p2
        rcases (by omega : r = 1 ∨ r = 0) with rfl | rfl
        · clear hsm hr
          go_wp2
          go_ret
          exact ⟨rfl, HX2.out⟩
        have HSm := hid (hsm rfl).1
        clear hsm hr
        have HS := hid (HS.out.ext HX2.out)
        have HAA := hid (HAA.out.ext HX2.out)
        have HE := hid (HE.out.ext HX2.out)
        have HR0 := hid ((HR0.out.ext HX2.out).lift HX2.out.size)
        have HP := hid ((HP.out.ext HX2.out).lift HX2.out.size)
        have HX0 := hid HX2.out
        have HX2 := hid (Ext.refl w2)
        have Hbad : Hid (¬ ((0 ≤ n ∧ n ≤ 1000) ∧ einAll n E E.length)) := hid (by omega)
        have HE2 := hid ((HS.out.ext HX2.out).at2)
        have HAs := hid (asedges_any (.slice al E.length cl) E w2 w2.heap.size (HR0.out.ext HX2.out) (by omega) (HX2.out).size)
        go_wp2_with fail
        refine HAs.out.mono ?_
        intro e w3 hx
        obtain ⟨ve, rfl, hre, hxe⟩ := hx
        obtain ⟨ae, ce, rfl⟩ := row_form hre
        have Hre := hid (EsR.own hre (Nat.le_refl _))
        have Hxe := hid hxe
        clear HAs hre hxe
        have HX3 := hid (HX2.out.trans Hxe.out)
        have HGn := hid (cyclegroups_no n (.slice ae E.length ce) E w3 w3.heap.size ad ((HS.out.ext HX3.out).at2) Hre.out Hbad.out)
        go_wp2_with fail
        refine HGn.out.mono ?_
        intro e w4 hx
        obtain ⟨t4, x4, rfl, hee, hx4⟩ := hx
        have HX4 := hid (HX3.out.trans hx4)
        have Hee4 := hid hee
        clear HGn hee hx4 Hre Hxe
        have HAs := hid (asedges_any (.slice al E.length cl) E w4 w2.heap.size (HR0.out.ext HX4.out) (by omega) (HX4.out).size)
        go_wp2_with fail
        refine HAs.out.mono ?_
        intro e w5 hx
        obtain ⟨ve, rfl, hre, hxe⟩ := hx
        obtain ⟨ae, ce, rfl⟩ := row_form hre
        have Hre := hid (EsR.own hre (Nat.le_refl _))
        have Hxe := hid hxe
        clear HAs hre hxe
        have HX5 := hid (HX4.out.trans Hxe.out)
        have Hee5 := hid (Hee4.out.ext Hxe.out)
        have HGn := hid (cycleorder_no n (.slice ae E.length ce) E w5 w5.heap.size ad ((HS.out.ext HX5.out).at2) Hre.out Hbad.out)
        go_wp2_with fail
        refine HGn.out.mono ?_
        intro e w6 hx
        obtain ⟨t6, x6, rfl, hee, hx6⟩ := hx
        have HX6 := hid (HX5.out.trans hx6)
        have Hee6 := hid hee
        have Hee56 := hid (Hee5.out.ext hx6)
        clear HGn hee hx6 Hre Hxe
        have HFt := hid (redgesfault_any n (.slice al E.length cl) E w6 w2.heap.size (HR0.out.ext HX6.out))
        go_wp2_with fail
        refine HFt.out.mono ?_
        intro e w7 hx
        obtain ⟨c, p, rfl, hei, hx7⟩ := hx
        have Hei := hid hei
        obtain ⟨W8, hW8⟩ : ∃ W8, W8 = w7.alloc (.cells #[.int .i64 (c : Int), .int .i64 p] 30) := ⟨_, rfl⟩
        have HX8 : Hid (Ext w7 W8) := hid (by rw [hW8]; exact (Ext.refl _).alloc _)
        have HBf : Hid (Blk W8 w7.heap.size #[.int .i64 (c : Int), .int .i64 p] 30) := hid (by rw [hW8]; exact Blk.new _ _ _)
        have HW8 := hid hW8
        have Hx7 := hid hx7
        clear HFt hei hx7 hW8
        have HX7 := hid (HX6.out.trans Hx7.out)
        have Hc2 : Hid (c = 2) := hid (by
          rcases Hei.out with ⟨_, h, _⟩ | ⟨h1, h2, _⟩ | ⟨_, _, _, _, _, _, h, _⟩
          · exact h
          · exact absurd ⟨h1, h2⟩ Hbad.out
          · exact h)
        have hc0 : 0 < (c : Int) := by have := Hc2.out; omega
        have f0 := HBf.out.av 0 rfl
        have f1 := HBf.out.av 1 rfl
        simp only [qA0, qA1, qA2] at f0 f1
        rw [HW8.out] at f0 f1
        have HFa := hid (faulted2_at (w := W8) (HAA.out.ext (HX7.out.trans HX8.out)) fun w1 x hA => code_edge Hee56.out Hei.out w1 (Hx7.out.trans (HX8.out.trans x)) hA)
        go_wp2_with fail
        rw [← HW8.out]
        refine HFa.out.mono ?_
        intro e w9 hx
        obtain ⟨rfl, hx9⟩ := hx
        have HX9 := hid (HX7.out.trans (HX8.out.trans hx9))
        have HB9 := hid (HBf.out.ext hx9)
        have HFa2 := hid (faulted2_at (w := w9) (HAA.out.ext HX9.out) fun w1 x hA => code_edge Hee6.out Hei.out w1 (Hx7.out.trans (HX8.out.trans (hx9.trans x))) hA)
        have Hx9 := hid hx9
        clear HFa hx9 f0 f1
        have f0 := HB9.out.av 0 rfl
        have f1 := HB9.out.av 1 rfl
        simp only [qA0, qA1, qA2] at f0 f1
        go_wp2_with fail
        refine HFa2.out.mono ?_
        intro e w10 hx
        obtain ⟨rfl, hx10⟩ := hx
        have HXP := hid (HX9.out.trans hx10)
        have HBP := hid (HB9.out.ext hx10)
        clear HFa2 hx10 f0 f1
        have hz1 : ∀ s ∈ P.vars, s.size ≤ 1000000 := fun s hs => by have := HSm.out.vs s hs; omega
        have hz2 : ∀ s ∈ P.names, s.size ≤ 1000000 := fun s hs => by
          obtain ⟨f, hf, rfl⟩ := List.mem_map.1 hs
          have := (HSm.out.fs f hf).1
          omega
        have Hz1 := hid hz1
        have Hz2 := hid hz2
        have HPS := hid (show PS0 w10 (w10).heap.size ad a1 a2 a3 c1 c2 c3 P from ⟨HE.out.ext HXP.out, (HP.out.ext HXP.out).lift HXP.out.size, Hz1.out, Hz2.out⟩)
        clear hz1 hz2
        have HQ := hid (ownprogram_any a1 a2 a3 c1 c2 c3 P w10 HPS.out.prog HSm.out)
        have HBw := hid (HBp.out.ext HXP.out)
        have p0 := HBw.out.av 0 rfl
        have p1 := HBw.out.av 1 rfl
        have p2 := HBw.out.av 2 rfl
        simp only [pcells, qA0, qA1, qA2] at p0 p1 p2
        unfold pval at HQ
        go_wp2_with fail
        refine HQ.out.mono ?_
        intro e w13 hx
        obtain ⟨hx13, b1, b2, b3, d1, d2, d3, rfl, hq⟩ := hx
        have HX13 := hid (HXP.out.trans hx13)
        have Hx13 := hid hx13
        have HPQ := hid (show PS0 w13 w13.heap.size ad b1 b2 b3 d1 d2 d3 P from ⟨HE.out.ext HX13.out, hq, Hz1.out, Hz2.out⟩)
        clear HQ hx13 hq p0 p1 p2
        rcases Classical.em P.Well with hw | hw
        · skip
          obtain ⟨ks, S, hL⟩ := least_exists hw
          have HLe := hid hL
          have Hw := hid hw
          have Hg := hid (hL.good hw)
          have HnN := hid (nodesV_le P hw)
          have HM := hid (cyclemerged_ok b1 b2 b3 d1 d2 d3 P w13 ad (HPQ.out.pw hw) (HS.out.ext HX13.out) ks S hL)
          unfold pval at HM
          clear hw hL
          go_wp2_with fail
          refine HM.out.mono ?_
          intro e w14 hx
          obtain ⟨gm, GM, rfl, hGM, hrm, hx14⟩ := hx
          have HX14 := hid (HX13.out.trans hx14)
          have Hx14 := hid (Hx13.out.trans hx14)
          have HGM := hid hGM
          have Hrm := hid hrm
          clear HM hGM hrm hx14
          have HF := hid (rfprog_all a1 a2 a3 c1 c2 c3 P w14 ((HP.out.ext HX14.out).lift (HX14.out).size) Hz1.out Hz2.out)
          have HBw := hid (HBp.out.ext HX14.out)
          have p0 := HBw.out.av 0 rfl
          have p1 := HBw.out.av 1 rfl
          have p2 := HBw.out.av 2 rfl
          simp only [pcells, qA0, qA1, qA2] at p0 p1 p2
          unfold pval at HF
          go_wp2_with fail
          refine HF.out.mono ?_
          intro e w15 hx
          obtain ⟨hx15, cc, pp, rfl, hfi⟩ := hx
          have Hfi := hid hfi
          have Hx15 := hid hx15
          clear HF hfi hx15 p0 p1 p2
          obtain ⟨rfl, rfl⟩ := Hfi.out.uniq (show FaultIs P 0 (-1) from .inr (.inl ⟨Hw.out.1, Hw.out.2, rfl, rfl⟩))
          have HX15 := hid (HX14.out.trans Hx15.out)
          have HBf15 := hid (HBP.out.ext (Hx14.out.trans Hx15.out))
          have z0 := HBf15.out.av 0 rfl
          have z1 := HBf15.out.av 1 rfl
          have y0 := HBf15.out.free 0
          have y1 := HBf15.out.free 1
          simp only [qA0, qA1, qA2] at z0 z1
          obtain ⟨wS, hwS⟩ : ∃ wS, wS = (w15.setCell ⟨w7.heap.size, 0, none⟩ (.int .i64 0)).setCell ⟨w7.heap.size, 1, none⟩ (.int .i64 (-1)) := ⟨_, rfl⟩
          have HBs : Hid (Blk wS w7.heap.size #[.int .i64 0, .int .i64 (-1)] 30) := hid (by rw [hwS]; exact two HBf15.out)
          have HKS : Hid (Keep (fun q => q = w7.heap.size) w15 wS) := hid (by rw [hwS]; exact two_keep w15 w7.heap.size (.int .i64 0) (.int .i64 (-1)))
          have HxS : Hid (Ext w2 wS) := hid (Keep.new HX15.out HKS.out fun q e => by rw [e]; exact HX7.out.size)
          have HrmS := hid (row_keep (own_ext Hrm.out Hx15.out) HKS.out fun i hi e => by
            obtain ⟨c', hc'⟩ := own_ty (own_ext Hrm.out Hx15.out) hi
            exact Blk.ty_ne hc' HBf15.out (by decide) e)
          have HwS := hid hwS
          have f0 := HBs.out.av 0 rfl
          have f1 := HBs.out.av 1 rfl
          simp only [qA0, qA1, qA2] at f0 f1
          rw [HwS.out] at f0 f1
          have HRL := hid (rleastof_any a1 a2 a3 c1 c2 c3 P wS ((HP.out.ext HxS.out).lift HxS.out.size) Hw.out ks S HLe.out)
          have HBw := hid (HBp.out.ext HxS.out)
          have p0 := HBw.out.av 0 rfl
          have p1 := HBw.out.av 1 rfl
          have p2 := HBw.out.av 2 rfl
          simp only [pcells, qA0, qA1, qA2] at p0 p1 p2
          rw [HwS.out] at p0 p1 p2
          unfold pval at HRL
          clear hwS Hfi
          go_wp2_with fail
          rw [← HwS.out]
          clear z0 z1 y0 y1 f0 f1 p0 p1 p2
          refine HRL.out.mono ?_
          intro e w16 hx
          obtain ⟨aS, cS, rfl, hs, hx16⟩ := hx
          have HX16 := hid (HxS.out.trans hx16)
          have HRE := hid (redgesof_any a1 a2 a3 c1 c2 c3 P (.slice aS P.nodesV cS) S w16 w16.heap.size ((HP.out.ext HX16.out).lift HX16.out.size) Hw.out hs Hg.out.2.1 (Nat.le_refl _))
          have HBw := hid (HBp.out.ext HX16.out)
          have p0 := HBw.out.av 0 rfl
          have p1 := HBw.out.av 1 rfl
          have p2 := HBw.out.av 2 rfl
          simp only [pcells, qA0, qA1, qA2] at p0 p1 p2
          have Hrm16 := hid (own_ext HrmS.out hx16)
          unfold pval at HRE
          clear HRL hs hx16
          go_wp2_with fail
          clear p0 p1 p2
          refine HRE.out.mono ?_
          intro e w17 hx
          obtain ⟨vE, rfl, hrE, hx17⟩ := hx
          have HX17 := hid (HX16.out.trans hx17)
          have Hrm17 := hid (own_ext Hrm16.out hx17)
          obtain ⟨aE, cE, rfl⟩ := row_form hrE
          have HRG := hid (rgroupsof_any P.nodesV (.slice aE (P.refE S P.nodesV).length cE) (P.edgesL S) w17 w17.heap.size (EsR.own hrE (Nat.le_refl _)) (edgesL_in S) (by have := HnN.out; omega) (Nat.le_refl _))
          clear HRE hrE hx17
          go_wp2_with fail
          refine HRG.out.mono ?_
          intro e w18 hx
          obtain ⟨aw, cw, GW, rfl, hGW, hrw, hx18⟩ := hx
          obtain rfl := hGW.uniq HGM.out
          have HX18 := hid (HX17.out.trans hx18)
          have HSz := hid (sameints_any (some ⟨gm, 0, none⟩) aw P.nodesV P.nodesV P.nodesV cw GW GW w18 (grp_ints (own_ext Hrm17.out hx18) HGM.out (by have := HnN.out; omega)) (grp_ints hrw HGM.out (by have := HnN.out; omega)) (by have := HnN.out; omega) (by have := HnN.out; omega))
          rw [decide_eq_true (rfl : GW = GW)] at HSz
          have Hcnt := hid (cntG_all HGM.out (by have := HnN.out; omega))
          have HrW := hid hrw
          obtain ⟨N, hN⟩ : ∃ N, N = P.nodesV := ⟨_, rfl⟩
          have hN120 : N ≤ 120 := by rw [hN]; exact HnN.out
          rw [← hN] at HSz Hcnt HrW HGM
          rw [← hN]
          have HNe := hid hN
          clear HRG hGW hrw hx18 hN
          go_wp2
          obtain ⟨w0, hw0⟩ : ∃ x, x = w18 := ⟨_, rfl⟩
          subst hw0
          go_loopw [19, 20] (fun t19 t20 wr => ∃ k : Nat, t20 = .int .i64 (k : Int) ∧ t19 = .int .i64 (cntG GW k : Int) ∧ k ≤ N ∧ wr = w0) (fun _ t20 _ => N - (intOf t20).toNat)
          case atStart => exact ⟨0, rfl, rfl, Nat.zero_le _, rfl⟩
          case round =>
            obtain ⟨k, rfl, rfl, hk, rfl⟩ := hrel
            by_cases hlt : k < N
            · obtain ⟨q, hq, _⟩ := HGM.out.at_ k hlt
              obtain ⟨gw, hgw⟩ : ∃ gw, aw = some ⟨gw, 0, none⟩ := by
                rcases HrW.out.2 with ⟨_, h2⟩ | ⟨gw, cq, _, h1, _⟩
                · omega
                · exact ⟨gw, (by simpa using h1 : _ ∧ _).1⟩
              subst hgw
              have q0 := own_get HrW.out k (icells_at hq)
              have hcl := cntG_le GW k
              by_cases hqk : q = k
              · have Hy := hid (cntG_yes (G := GW) (k := k) (by rw [hq, hqk]))
                subst hqk
                clear hq
                go_wp2
                go_roundw
                case rel => exact ⟨q + 1, by go_num, by rw [Hy.out]; go_num, by omega, by trivial⟩
                case measure => simp [intOf]; omega
              · have Hy := hid (cntG_no (G := GW) (k := k) (by rw [hq]; intro h; exact hqk (by have := Option.some.inj h; omega)))
                have hqk2 : ((q : Int) == (k : Int)) = false := by rw [beq_eq_false_iff_ne]; omega
                clear hq
                go_wp2
                go_roundw
                case rel => exact ⟨k + 1, by go_num, by rw [Hy.out], by omega, by trivial⟩
                case measure => simp [intOf]; omega
            · have hkN : N = k := by omega
              subst hkN
              go_wp2_with fail
              refine HSz.out.mono ?_
              intro e w19 hx
              obtain ⟨rfl, hx19⟩ := hx
              have HX19 := hid (HX18.out.trans hx19)
              rw [Hcnt.out]
              clear HSz hx19
              go_wp2
              go_ret
              exact ⟨rfl, HX0.out.trans HX19.out⟩
        · skip
          have HM := hid (cyclemerged_no b1 b2 b3 d1 d2 d3 P w13 w13.heap.size ad HPQ.out hw)
          have Hw := hid hw
          unfold pval at HM
          clear hw
          go_wp2_with fail
          refine HM.out.mono ?_
          intro e w14 hx
          obtain ⟨t, x, rfl, hee, hx14⟩ := hx
          have HX14 := hid (HX13.out.trans hx14)
          have Hx14 := hid (Hx13.out.trans hx14)
          have HeeM := hid hee
          clear HM hee hx14
          have HF := hid (rfprog_all a1 a2 a3 c1 c2 c3 P w14 ((HP.out.ext HX14.out).lift (HX14.out).size) Hz1.out Hz2.out)
          have HBw := hid (HBp.out.ext HX14.out)
          have p0 := HBw.out.av 0 rfl
          have p1 := HBw.out.av 1 rfl
          have p2 := HBw.out.av 2 rfl
          simp only [pcells, qA0, qA1, qA2] at p0 p1 p2
          unfold pval at HF
          go_wp2_with fail
          refine HF.out.mono ?_
          intro e w15 hx
          obtain ⟨hx15, cc, pp, rfl, hfi⟩ := hx
          have Hfi := hid hfi
          have Hx15 := hid hx15
          clear HF hfi hx15 p0 p1 p2
          have HX15 := hid (HX14.out.trans Hx15.out)
          have HBf15 := hid (HBP.out.ext (Hx14.out.trans Hx15.out))
          have z0 := HBf15.out.av 0 rfl
          have z1 := HBf15.out.av 1 rfl
          have y0 := HBf15.out.free 0
          have y1 := HBf15.out.free 1
          simp only [qA0, qA1, qA2] at z0 z1
          obtain ⟨wS, hwS⟩ : ∃ wS, wS = (w15.setCell ⟨w7.heap.size, 0, none⟩ (.int .i64 (cc : Int))).setCell ⟨w7.heap.size, 1, none⟩ (.int .i64 pp) := ⟨_, rfl⟩
          have HBs : Hid (Blk wS w7.heap.size #[.int .i64 (cc : Int), .int .i64 pp] 30) := hid (by rw [hwS]; exact two HBf15.out)
          have HKS : Hid (Keep (fun q => q = w7.heap.size) w15 wS) := hid (by rw [hwS]; exact two_keep w15 w7.heap.size (.int .i64 (cc : Int)) (.int .i64 pp))
          have HxS : Hid (Ext w2 wS) := hid (Keep.new HX15.out HKS.out fun q e => by rw [e]; exact HX7.out.size)
          have HwS := hid hwS
          have f0 := HBs.out.av 0 rfl
          have f1 := HBs.out.av 1 rfl
          simp only [qA0, qA1, qA2] at f0 f1
          rw [HwS.out] at f0 f1
          clear hwS
          have hei := (HeeM.out.ext Hx15.out).keepF HKS.out fun i e => by
            have e : i = w7.heap.size := e
            subst e
            exact ⟨_, HBf15.out⟩
          obtain ⟨q, pp', hf', hc0, hcode⟩ := code_chk hei Hw.out
          obtain ⟨rfl, rfl⟩ := Hfi.out.uniq hf'
          have c01 : 0 < (cc : Int) := by omega
          have HFa := hid (faulted2_at (w := wS) (HAA.out.ext HxS.out) fun w1 x hA => hcode w1 x hA)
          clear hei hf' hcode hc0
          go_wp2_with fail
          rw [← HwS.out]
          clear z0 z1 y0 y1 f0 f1
          refine HFa.out.mono ?_
          intro e w16 hx
          obtain ⟨rfl, hx16⟩ := hx
          have Hx16 := hid hx16
          clear HFa hx16
          go_wp2
          go_ret
          exact ⟨rfl, HX0.out.trans (HxS.out.trans Hx16.out)⟩
end Go.Proofs.YtihdpijgngooaaaGreatDoor
namespace Go.Proofs.YtihdpijgngooaaaGreatDoor
open Go Go.RowKit Go.Deep
theorem cellsU_redge : Tryz.prog.cellsOf 111 = 2 := by kernel_rfl
theorem listU2 {α : Type} {l : List α} (h : l.length = 2) : ∃ c0 c1, l = [c0, c1] := by
  match l, h with
  | [c0, c1], _ => exact ⟨c0, c1, rfl⟩
set_option maxRecDepth 100000 in
theorem edgesR_of {H : Type} {enc : TypeId × Value → H} {w : World} {base : Nat} {sp : Nat → Bool} {held : Bool} {n : Nat} {v : Value} {x : DataW H × List MemPlace} (h : DataW.trod enc Tryz.prog w base sp held n 61 [v] = some x) : ∃ l, EsR w w.heap.size v l := by
  have inh : Inhabited (Int × Int) := ⟨(0, 0)⟩
  refine elR_of (α := Int × Int) Tryz.underlying61 cellsU_redge (by decide) (fun i y s => w.cell? (y.add (i * 2)) = some (.int .i64 s.1) ∧ w.cell? ((y.add (i * 2)).add 1) = some (.int .i64 s.2)) (fun i m y cs z hc hl ht => ?_) h
  obtain ⟨c0, c1, rfl⟩ := listU2 hl
  obtain ⟨xs, k, _, _, _, hxl, hf⟩ := DataW.trod_struct Tryz.underlying111 ht
  obtain ⟨y0, y1, rfl⟩ := listU2 hxl
  have g0 : DataW.trod enc Tryz.prog w base sp held k 3 [c0] = some y0 := by simpa [cellsU_int] using hf 0 _ rfl
  have g1 : DataW.trod enc Tryz.prog w base sp held k 3 [c1] = some y1 := by simpa [cellsU_int] using hf 1 _ rfl
  obtain ⟨a0, e0, _, _⟩ := DataW.trod_int Tryz.underlying3 g0
  obtain ⟨a1, e1, _, _⟩ := DataW.trod_int Tryz.underlying3 g1
  simp only [List.cons.injEq, and_true] at e0 e1
  subst e0 e1
  exact ⟨(a0, a1), by simpa [Addr.add] using hc 0 (by decide), hc 1 (by decide)⟩
end Go.Proofs.YtihdpijgngooaaaGreatDoor
namespace Go.Proofs.YtihdpijgngooaaaGreatDoor
open Go Go.RowKit
def handD : DataW Unit := .iface "internal/reflectlite.rtype" (.agg [.ptr (.lit (.string [101, 114, 114, 111, 114]))])
theorem handName : handD.handleName? = some [101, 114, 114, 111, 114] := by
  unfold handD DataW.handleName?
  simp
def allCodes : List Nat := [1, 2, 3, 4, 5, 6, 7, 8, 9, 10, 11]
def fullL : List (String × DataW Unit) := ("errors.errorType", handD) :: sentL allCodes
theorem typesSize : Tryz.prog.types.size = 295 := by kernel_rfl
theorem oneErrRow : ((List.range 295).filter fun t => Tryz.prog.rowNamed t [101, 114, 114, 111, 114]) = [38] := by kernel_rfl
theorem rtypeCut : (Tryz.prog.cutTypes.find? (·.1 == "internal/reflectlite.rtype")).map (·.2) = some 205 := by kernel_rfl
theorem errTypeVar : Tryz.prog.globalNamed "errors.errorType" = some 11 := by kernel_rfl
theorem errHandle : typeHandle Tryz.prog 38 = .pointer (some ⟨15, 38, none⟩) := by kernel_rfl
theorem all_of {W : World} (h : laidMetH Tryz.prog fullL W) : ∃ ad : Nat → Addr, AllErrs W ad := by
  obtain ⟨h1, h2⟩ := laidMetH_iff.1 h
  have e1 : (fullL.filter fun x => x.2.handleName?.isNone) = sentL allCodes := by
    unfold fullL
    rw [List.filter_cons_of_neg (by simp [handName]), List.filter_eq_self.2 fun x hx => by
      obtain ⟨c, _, rfl⟩ := List.mem_map.1 hx
      simp [sent_noHandle]]
  rw [e1] at h1
  obtain ⟨ad, s1, s2⟩ := sents_ad allCodes (by decide) h1
  have hin : ∀ c, 1 ≤ c ∧ c ≤ 11 → c ∈ allCodes := fun c hc => by
    rcases (by omega : c = 1 ∨ c = 2 ∨ c = 3 ∨ c = 4 ∨ c = 5 ∨ c = 6 ∨ c = 7 ∨ c = 8 ∨ c = 9 ∨ c = 10 ∨ c = 11) with rfl | rfl | rfl | rfl | rfl | rfl | rfl | rfl | rfl | rfl | rfl <;> decide
  refine ⟨ad, fun c hc => (s1 c (hin c hc)).var, fun c hc => (s1 c (hin c hc)).row, fun c d hc hd e => s2 c (hin c hc) d (hin d hd) e, ?_⟩
  have hm : ("errors.errorType", handD) ∈ fullL.filter fun x => x.2.handleName?.isSome := List.mem_filter.2 ⟨by simp [fullL], by simp [handName]⟩
  have h3 := h2 _ hm
  have hf : handD.funcsIn? = none := by
    unfold handD DataW.funcsIn?
    simp
  simp only [hf] at h3
  obtain ⟨name, u, ty, g1, g2, g3, g4, g5⟩ := h3
  obtain rfl := Option.some.inj (handName.symm.trans g1)
  obtain rfl := Option.some.inj (rtypeCut.symm.trans g2)
  have hm2 : ty ∈ (List.range 295).filter fun t => Tryz.prog.rowNamed t [101, 114, 114, 111, 114] := List.mem_filter.2 ⟨List.mem_range.2 (by rw [← typesSize]; exact g3), g4⟩
  rw [oneErrRow, List.mem_singleton] at hm2
  subst hm2
  rw [errHandle] at g5
  simpa using World.var?_cell errTypeVar g5 0
end Go.Proofs.YtihdpijgngooaaaGreatDoor
