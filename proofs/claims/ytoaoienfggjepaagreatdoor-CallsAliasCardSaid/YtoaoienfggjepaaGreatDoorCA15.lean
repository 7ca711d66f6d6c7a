/- CallsAlias: whatever the program and the two numbers, the law returns true, and its arguments read as they did: as the given card of that statement says it, with no further condition. -/
import Derived.Test.YtoaoienfggjepaaGreatDoorCA02
import Derived.Test.YtoaoienfggjepaaGreatDoorCA05
import Derived.Test.YtoaoienfggjepaaGreatDoorCA06
import Derived.Test.YtoaoienfggjepaaGreatDoorCA10
import Derived.Test.YtoaoienfggjepaaGreatDoorCA13
import Derived.Test.YtoaoienfggjepaaGreatDoorCA14
import Derived.Test.YtoaoienfggjepaaGreatDoorCards
import Derived.Test.YtoaoienfggjepaaGreatDoorTie
import Derived.ProofKit
import Derived.LaidMore
import Derived.OpenShut
import Derived.Below
import Derived.Stop.Joined
import Derived.SevenTiedAt
import Derived.Lib.SmallJoins
import Derived.Lay
import Derived.MakeChecks

/- ConsOrder: the law walked. -/
namespace Go.Proofs.YtoaoienfggjepaaGreatDoor
set_option linter.unusedSimpArgs false
set_option linter.unusedVariables false
open Go Go.RowKit

end Go.Proofs.YtoaoienfggjepaaGreatDoor



/- FixClosed: the law walked. -/
namespace Go.Proofs.YtoaoienfggjepaaGreatDoor
set_option linter.unusedSimpArgs false
set_option linter.unusedVariables false
open Go Go.RowKit

end Go.Proofs.YtoaoienfggjepaaGreatDoor



/- CallsAlias: the law walked. -/
namespace Go.Proofs.YtoaoienfggjepaaGreatDoor
set_option linter.unusedSimpArgs false
set_option linter.unusedVariables false
open Go Go.RowKit

theorem aliasV_iff {S : List (List Int)} {x y : Nat} : aliasV S x y = true ↔ ∃ o, o ∈ S.getD x [] ∧ o ∈ S.getD y [] := by
  unfold aliasV
  rw [List.any_eq_true]
  simp only [decide_eq_true_eq]
theorem aliasV_comm (S : List (List Int)) (x y : Nat) : aliasV S x y = aliasV S y x :=
  Bool.eq_iff_iff.2 (aliasV_iff.trans ((exists_congr fun _ => and_comm).trans aliasV_iff.symm))
theorem aliasV_sub {S : List (List Int)} {x y : Nat} (h : ∀ n ∈ S.getD y [], n ∈ S.getD x []) (hl : 0 < (S.getD y []).length) : aliasV S x y = true := by
  obtain ⟨o, ho⟩ := List.exists_mem_of_length_pos hl
  exact aliasV_iff.2 ⟨o, h o ho, ho⟩
theorem aliasV_none {S : List (List Int)} {x : Nat} (hl : (S.getD x []).length = 0) : aliasV S x x = false := by
  unfold aliasV
  rw [List.eq_nil_of_length_eq_zero hl]; rfl
set_option maxRecDepth 100000 in
set_option maxHeartbeats 6400000 in
theorem callsaliaslaw_any (a1 a2 a3 : Option Addr) (c1 c2 c3 : Nat) (P : PP) (x y : Int) (w : World) (ad : Nat → Addr) (hE : ErrsP w ad) (hS : ErrS w ad) (hP : ProgR w w.heap.size (.slice a1 P.vars.length c1) (.slice a2 P.funs.length c2) (.slice a3 P.stmts.length c3) P) :
    Calls Tryz.prog 4 #[pval a1 a2 a3 c1 c2 c3 P, .int .i64 x, .int .i64 y] w fun e w' => e = .returned (.bool true) ∧ Ext w w' := by
  have HE := hid hE
  have HS := hid hS
  have HP := hid hP
  obtain ⟨W1, hW1⟩ : ∃ W1, W1 = w.alloc (.cells (pcells a1 a2 a3 c1 c2 c3 P) 39) := ⟨_, rfl⟩
  have HX1 : Hid (Ext w W1) := hid (by rw [hW1]; exact (Ext.refl _).alloc _)
  have HB1 : Hid (Blk W1 w.heap.size (pcells a1 a2 a3 c1 c2 c3 P) 39) := hid (by rw [hW1]; exact Blk.new _ _ _)
  have HR := hid (callsfact_any W1 ad (hE.ext HX1.out) (hS.ext HX1.out))
  have HW1 : Hid (W1 = w.alloc (.cells #[.slice a1 P.vars.length c1, .slice a2 P.funs.length c2, .slice a3 P.stmts.length c3] 39)) := hid (by rw [hW1]; rfl)
  unfold pval
  clear hE hS hP hW1
  go_enter Tryz.func4, Tryz.ntmps4
  go_wp2_with fail
  rw [← HW1.out]
  refine HR.out.mono ?_
  intro e w1 hx
  obtain ⟨rfl, hx1⟩ := hx
  have HL := hid (large_q a1 a2 a3 c1 c2 c3 20 (by omega) P w1 w.heap.size (HP.out.ext (HX1.out.trans hx1)))
  rw [show ((20 : Nat) : Int) = (20 : Int) from rfl] at HL
  unfold pval at HL
  have HX1' := hid (HX1.out.trans hx1)
  have HBp1 := hid (HB1.out.ext hx1)
  have p0 := HBp1.out.av 0 rfl
  have p1 := HBp1.out.av 1 rfl
  have p2 := HBp1.out.av 2 rfl
  simp only [pcells, List.getElem_toArray, List.getElem_cons_zero, List.getElem_cons_succ] at p0 p1 p2
  clear HR hx1
  go_wp2_with fail
  refine HL.out.mono ?_
  intro e w2 hx
  obtain ⟨r, rfl, hr, hsm, hx2⟩ := hx
  have HX2 := hid (HX1'.out.trans hx2)
  have HBp := hid (HBp1.out.ext hx2)
  clear HL hx2 p0 p1 p2
  rcases (by omega : r = 1 ∨ r = 0) with rfl | rfl
  · clear hsm hr
    go_wp2
    go_ret
    exact ⟨rfl, HX2.out⟩
  have HSm := hid (hsm rfl).1
  have HQl := hid (hsm rfl).2
  clear hsm hr
  obtain ⟨w2', hw2'⟩ : ∃ w2', w2' = w2 := ⟨_, rfl⟩
  subst hw2'
  have HX2' := hid HX2.out
  have HBp' := hid HBp.out
  have hz1 : ∀ s ∈ P.vars, s.size ≤ 1000000 := fun s hs => by have := HSm.out.vs s hs; omega
  have hz2 : ∀ s ∈ P.names, s.size ≤ 1000000 := fun s hs => by
    obtain ⟨f, hf, rfl⟩ := List.mem_map.1 hs
    have := (HSm.out.fs f hf).1
    omega
  have Hz1 := hid hz1
  have Hz2 := hid hz2
  have HPS := hid (show PS0 w2' w2'.heap.size ad a1 a2 a3 c1 c2 c3 P from ⟨HE.out.ext HX2'.out, (HP.out.ext HX2'.out).lift HX2'.out.size, Hz1.out, Hz2.out⟩)
  clear hz1 hz2
  have HQ := hid (ownprogram_any a1 a2 a3 c1 c2 c3 P w2' HPS.out.prog HSm.out)
  have p0 := HBp'.out.av 0 rfl
  have p1 := HBp'.out.av 1 rfl
  have p2 := HBp'.out.av 2 rfl
  simp only [pcells, List.getElem_toArray, List.getElem_cons_zero, List.getElem_cons_succ] at p0 p1 p2
  unfold pval at HQ
  go_wp2_with fail
  refine HQ.out.mono ?_
  intro e w3 hx
  obtain ⟨hx3, b1, b2, b3, d1, d2, d3, rfl, hq⟩ := hx
  have HX3 := hid (HX2'.out.trans hx3)
  have Hx3 := hid hx3
  have Hq3 := hid hq
  clear HQ hx3 hq p0 p1 p2
  obtain ⟨W9, hW9⟩ : ∃ W9, W9 = w3.alloc (.cells (pcells b1 b2 b3 d1 d2 d3 P) 39) := ⟨_, rfl⟩
  have hx9 : Ext w3 W9 := by rw [hW9]; exact (Ext.refl _).alloc _
  have HXw := hid (HX3.out.trans hx9)
  have Hw9 := hid (Hx3.out.trans hx9)
  have HB6 : Hid (Blk W9 w3.heap.size (pcells b1 b2 b3 d1 d2 d3 P) 39) := hid (by rw [hW9]; exact Blk.new _ _ _)
  have HW9 : Hid (W9 = w3.alloc (.cells #[.slice b1 P.vars.length d1, .slice b2 P.funs.length d2, .slice b3 P.stmts.length d3] 39)) := hid (by rw [hW9]; rfl)
  have HPP9 := hid (show PS0 W9 W9.heap.size ad b1 b2 b3 d1 d2 d3 P from ⟨HE.out.ext HXw.out, (Hq3.out.ext hx9).lift hx9.size, Hz1.out, Hz2.out⟩)
  have HS9 := hid (HS.out.ext HXw.out)
  clear hx9 hW9
  rcases Classical.em P.Well with hw | hw
  · obtain ⟨n, S, hL⟩ := least_exists hw
    have hgood := hL.good hw
    have Hw := hid hw
    have HLe := hid hL
    have HSl := hid hgood.2.1
    have hS126 : S.length ≤ 126 := by
      have h1 := hw.few
      have h2 := nodesV_le P hw
      have := HSl.out
      omega
    clear hgood
    by_cases hb : 0 ≤ x ∧ x < S.length ∧ 0 ≤ y ∧ y < S.length
    · obtain ⟨X, rfl⟩ := Int.eq_ofNat_of_zero_le hb.1
      obtain ⟨Y, rfl⟩ := Int.eq_ofNat_of_zero_le hb.2.2.1
      have hX : X < S.length := by omega
      have hY : Y < S.length := by omega
      have HA1 := hid (callsalias_ok b1 b2 b3 d1 d2 d3 P X Y W9 ad (HPP9.out.pw hw) HS9.out n S hL hX hY)
      obtain ⟨dxy, hdxy⟩ : ∃ d, d = aliasV S X Y := ⟨_, rfl⟩
      have hdyx : aliasV S Y X = dxy := by rw [hdxy]; exact aliasV_comm S Y X
      rw [← hdxy] at HA1
      have Hdyx := hid hdyx
      unfold pval at HA1
      clear hb hw hL hdxy hdyx
      go_wp2_with fail
      rw [← HW9.out]
      refine HA1.out.mono ?_
      intro e w4 hx
      obtain ⟨rfl, hx4⟩ := hx
      have HZ4 := hid hx4
      have HA2 := hid (callsalias_ok b1 b2 b3 d1 d2 d3 P Y X w4 ad ((HPP9.out.on (Nat.le_refl _) hx4).pw Hw.out) (HS9.out.ext hx4) n S HLe.out hY hX)
      rw [Hdyx.out] at HA2
      clear HA1 hx4
      unfold pval at HA2
      have g0 := (HB6.out.ext HZ4.out).av 0 rfl
      have g1 := (HB6.out.ext HZ4.out).av 1 rfl
      have g2 := (HB6.out.ext HZ4.out).av 2 rfl
      simp only [pcells, List.getElem_toArray, List.getElem_cons_zero, List.getElem_cons_succ] at g0 g1 g2
      go_wp2_with fail
      refine HA2.out.mono ?_
      intro e w5 hx
      obtain ⟨rfl, hx5⟩ := hx
      have HZ5 := hid (HZ4.out.trans hx5)
      have HA3 := hid (callsalias_ok b1 b2 b3 d1 d2 d3 P X X w5 ad ((HPP9.out.on (Nat.le_refl _) HZ5.out).pw Hw.out) (HS9.out.ext HZ5.out) n S HLe.out hX hX)
      obtain ⟨dxx, hdxx⟩ : ∃ d, d = aliasV S X X := ⟨_, rfl⟩
      rw [← hdxx] at HA3
      have Hdxx := hid hdxx
      unfold pval at HA3
      clear HA2 hx5 g0 g1 g2 hdxx
      have g0 := (HB6.out.ext HZ5.out).av 0 rfl
      have g1 := (HB6.out.ext HZ5.out).av 1 rfl
      have g2 := (HB6.out.ext HZ5.out).av 2 rfl
      simp only [pcells, List.getElem_toArray, List.getElem_cons_zero, List.getElem_cons_succ] at g0 g1 g2
      go_wp2_with fail
      refine HA3.out.mono ?_
      intro e w6 hx
      obtain ⟨rfl, hx6⟩ := hx
      have HZ6 := hid (HZ5.out.trans hx6)
      have HL := hid (fixleast_ok b1 b2 b3 d1 d2 d3 P w6 ad ((HPP9.out.on (Nat.le_refl _) HZ6.out).pw Hw.out) (HS9.out.ext HZ6.out) n S HLe.out)
      rw [← HSl.out] at HL
      unfold pval at HL
      clear HA3 hx6 g0 g1 g2
      have g0 := (HB6.out.ext HZ6.out).av 0 rfl
      have g1 := (HB6.out.ext HZ6.out).av 1 rfl
      have g2 := (HB6.out.ext HZ6.out).av 2 rfl
      simp only [pcells, List.getElem_toArray, List.getElem_cons_zero, List.getElem_cons_succ] at g0 g1 g2
      go_wp2_with fail
      refine HL.out.mono ?_
      intro e w7 hx
      obtain ⟨a, c, rfl, hs, hx7⟩ := hx
      have HZ7 := hid (HZ6.out.trans hx7)
      have Hs7 := hid hs
      obtain ⟨z, l, bl, cl, hz, hl, hc, hI⟩ := hs.at hX
      have hll := hI.len
      have hDl : S.getD X [] = l := by rw [List.getD_eq_getElem?_getD, hl]; rfl
      have hd : dxx = decide (0 < (l.length : Int)) := by
        rcases Nat.eq_zero_or_pos l.length with g | g
        · rw [Hdxx.out, aliasV_none (by rw [hDl]; exact g), decide_eq_false (by omega)]
        · rw [Hdxx.out, aliasV_sub (fun _ h => h) (by rw [hDl]; exact g), decide_eq_true (by omega)]
      subst hz
      have Hd := hid hd
      clear HL hs hx7 g0 g1 g2 hl hI hDl hd
      rcases Nat.eq_zero_or_pos l.length with g | g
      · have e0 : dxx = false := by rw [Hd.out, decide_eq_false (by omega)]
        subst e0
        have gi : (l.length : Int) = 0 := by omega
        go_wp2
        clear gi g hc
        have hsl80 : P.stmts.length ≤ 80 := Hw.out.few.2.2
        have HPw := hid (HPS.out.prog.ext (Hw9.out.trans HZ7.out))
        go_loopw [16] (fun t16 wr => ∃ i : Nat, t16 = .int .i64 (i : Int) ∧ i ≤ P.stmts.length ∧ Ext w7 wr) (fun t16 _ => P.stmts.length - (intOf t16).toNat)
        case atStart => exact ⟨0, rfl, Nat.zero_le _, Ext.refl _⟩
        case round =>
          obtain ⟨i, rfl, hi, hx⟩ := hrel
          have Hx := hid hx
          clear hx
          have p2 := (HBp'.out.ext (Hw9.out.trans (HZ7.out.trans Hx.out))).av 2 rfl
          simp only [pcells, List.getElem_toArray, List.getElem_cons_zero, List.getElem_cons_succ] at p2
          by_cases hlt : i < P.stmts.length
          · obtain ⟨ys, s, av, cv, hys, hsk, e0, e1, e2, e3, hIs⟩ := (HPw.out.ext Hx.out).stmts.at hlt
            subst hys
            have hsl := hIs.len
            obtain ⟨V, hV⟩ : ∃ V, V = wr.alloc (.cells #[.string s.kind, .int .i64 s.x, .int .i64 s.y, .slice av s.args.length cv] 48) := ⟨_, rfl⟩
            have hxV : Ext wr V := by rw [hV]; exact (Ext.refl _).alloc _
            have HVe := hid hV
            have HxV := hid (Hx.out.trans hxV)
            have HBs : Hid (Blk V wr.heap.size #[.string s.kind, .int .i64 s.x, .int .i64 s.y, .slice av s.args.length cv] 48) := hid (by rw [hV]; exact Blk.new _ _ _)
            have s0 := HBs.out.av 0 rfl
            have s1 := HBs.out.av 1 rfl
            have s2 := HBs.out.av 2 rfl
            simp only [List.getElem_toArray, List.getElem_cons_zero, List.getElem_cons_succ] at s0 s1 s2
            have hgd := PP.good (Hw.out.2 i s hlt hsk)
            have Hsk := hid hsk
            cases hkc : (s.kind.toList == [99, 111, 112, 121]) with
            | false =>
              clear hsk hIs hxV hV s0 s1 s2 hgd
              go_wp2
              rw [← HVe.out]
              go_roundw
              case rel => exact ⟨i + 1, by go_num, by omega, HxV.out⟩
              case measure => simp [intOf]; omega
            | true =>
              have hkc' : s.isK kCopy = true := hkc
              have hyv := hgd.yv (isK_ne hkc' (by decide)) (isK_ne hkc' (by decide))
              have hxv := hgd.gx
              have hnv := nodes_vars P
              obtain ⟨sy, hsy⟩ := Int.eq_ofNat_of_zero_le hyv.1
              obtain ⟨sx, hsx⟩ := Int.eq_ofNat_of_zero_le hxv.1
              have hYl : sy < S.length := by have := HSl.out; omega
              have hXl : sx < S.length := by have := HSl.out; omega
              obtain ⟨zy, ly, bly, cly, hzy, hly, hcy, hIy⟩ := (Hs7.out.ext HxV.out).at hYl
              obtain rfl := Option.some.inj hzy
              have hlly := hIy.len
              have hDy : S.getD sy [] = ly := by rw [List.getD_eq_getElem?_getD, hly]; rfl
              have hsub := (HLe.out.closed Hw.out).sedge (List.mem_of_getElem? hsk) (sedge_copy hkc')
              rw [hsy, hsx, Int.toNat_natCast, Int.toNat_natCast] at hsub
              have HA := hid (callsalias_ok b1 b2 b3 d1 d2 d3 P sx sy V ad ((HPP9.out.on (Nat.le_refl _) (HZ7.out.trans HxV.out)).pw Hw.out) (HS9.out.ext (HZ7.out.trans HxV.out)) n S HLe.out hXl hYl)
              have hal := fun h => aliasV_sub hsub (by rw [hDy]; exact h)
              have Hal := hid hal
              unfold pval at HA
              rw [hsy] at e2 s2
              rw [hsx] at e1 s1
              have HVz : Hid (V = wr.alloc (.cells #[.string s.kind, .int .i64 (sx : Int), .int .i64 (sy : Int), .slice av s.args.length cv] 48)) := hid (by rw [HVe.out, hsy, hsx])
              have g0 := (HB6.out.ext (HZ7.out.trans HxV.out)).av 0 rfl
              have g1 := (HB6.out.ext (HZ7.out.trans HxV.out)).av 1 rfl
              have g2 := (HB6.out.ext (HZ7.out.trans HxV.out)).av 2 rfl
              simp only [pcells, List.getElem_toArray, List.getElem_cons_zero, List.getElem_cons_succ] at g0 g1 g2
              rw [HVz.out] at hcy g0 g1 g2 s0 s1 s2
              clear hsk hIs hxV hV hgd hkc' hyv hxv hnv hly hIy hDy hsub hal hsy hsx HVe
              rcases Nat.eq_zero_or_pos ly.length with g | g
              · have gi : (ly.length : Int) = 0 := by omega
                clear g0 g1 g2
                go_wp2
                rw [← HVz.out]
                go_roundw
                case rel => exact ⟨i + 1, by go_num, by omega, HxV.out⟩
                case measure => simp [intOf]; omega
              · have gi : 0 < (ly.length : Int) := by omega
                rw [Hal.out g] at HA
                go_wp2_with fail
                rw [← HVz.out]
                clear s0 s1 s2 g0 g1 g2 e0 e1 e2 e3 hcy gi p2
                refine HA.out.mono ?_
                intro e w8 hx
                obtain ⟨rfl, hx8⟩ := hx
                have Hx8 := hid (HxV.out.trans hx8)
                clear HA hx8
                go_wp2
                go_roundw
                case rel => exact ⟨i + 1, by go_num, by omega, Hx8.out⟩
                case measure => simp [intOf]; omega
          · go_wp2
            go_ret
            exact ⟨rfl, HXw.out.trans (HZ7.out.trans Hx.out)⟩
      · have e0 : dxx = true := by rw [Hd.out, decide_eq_true (by omega)]
        subst e0
        have gi : 0 < (l.length : Int) := by omega
        go_wp2
        clear gi g hc
        have hsl80 : P.stmts.length ≤ 80 := Hw.out.few.2.2
        have HPw := hid (HPS.out.prog.ext (Hw9.out.trans HZ7.out))
        go_loopw [16] (fun t16 wr => ∃ i : Nat, t16 = .int .i64 (i : Int) ∧ i ≤ P.stmts.length ∧ Ext w7 wr) (fun t16 _ => P.stmts.length - (intOf t16).toNat)
        case atStart => exact ⟨0, rfl, Nat.zero_le _, Ext.refl _⟩
        case round =>
          obtain ⟨i, rfl, hi, hx⟩ := hrel
          have Hx := hid hx
          clear hx
          have p2 := (HBp'.out.ext (Hw9.out.trans (HZ7.out.trans Hx.out))).av 2 rfl
          simp only [pcells, List.getElem_toArray, List.getElem_cons_zero, List.getElem_cons_succ] at p2
          by_cases hlt : i < P.stmts.length
          · obtain ⟨ys, s, av, cv, hys, hsk, e0, e1, e2, e3, hIs⟩ := (HPw.out.ext Hx.out).stmts.at hlt
            subst hys
            have hsl := hIs.len
            obtain ⟨V, hV⟩ : ∃ V, V = wr.alloc (.cells #[.string s.kind, .int .i64 s.x, .int .i64 s.y, .slice av s.args.length cv] 48) := ⟨_, rfl⟩
            have hxV : Ext wr V := by rw [hV]; exact (Ext.refl _).alloc _
            have HVe := hid hV
            have HxV := hid (Hx.out.trans hxV)
            have HBs : Hid (Blk V wr.heap.size #[.string s.kind, .int .i64 s.x, .int .i64 s.y, .slice av s.args.length cv] 48) := hid (by rw [hV]; exact Blk.new _ _ _)
            have s0 := HBs.out.av 0 rfl
            have s1 := HBs.out.av 1 rfl
            have s2 := HBs.out.av 2 rfl
            simp only [List.getElem_toArray, List.getElem_cons_zero, List.getElem_cons_succ] at s0 s1 s2
            have hgd := PP.good (Hw.out.2 i s hlt hsk)
            have Hsk := hid hsk
            cases hkc : (s.kind.toList == [99, 111, 112, 121]) with
            | false =>
              clear hsk hIs hxV hV s0 s1 s2 hgd
              go_wp2
              rw [← HVe.out]
              go_roundw
              case rel => exact ⟨i + 1, by go_num, by omega, HxV.out⟩
              case measure => simp [intOf]; omega
            | true =>
              have hkc' : s.isK kCopy = true := hkc
              have hyv := hgd.yv (isK_ne hkc' (by decide)) (isK_ne hkc' (by decide))
              have hxv := hgd.gx
              have hnv := nodes_vars P
              obtain ⟨sy, hsy⟩ := Int.eq_ofNat_of_zero_le hyv.1
              obtain ⟨sx, hsx⟩ := Int.eq_ofNat_of_zero_le hxv.1
              have hYl : sy < S.length := by have := HSl.out; omega
              have hXl : sx < S.length := by have := HSl.out; omega
              obtain ⟨zy, ly, bly, cly, hzy, hly, hcy, hIy⟩ := (Hs7.out.ext HxV.out).at hYl
              obtain rfl := Option.some.inj hzy
              have hlly := hIy.len
              have hDy : S.getD sy [] = ly := by rw [List.getD_eq_getElem?_getD, hly]; rfl
              have hsub := (HLe.out.closed Hw.out).sedge (List.mem_of_getElem? hsk) (sedge_copy hkc')
              rw [hsy, hsx, Int.toNat_natCast, Int.toNat_natCast] at hsub
              have HA := hid (callsalias_ok b1 b2 b3 d1 d2 d3 P sx sy V ad ((HPP9.out.on (Nat.le_refl _) (HZ7.out.trans HxV.out)).pw Hw.out) (HS9.out.ext (HZ7.out.trans HxV.out)) n S HLe.out hXl hYl)
              have hal := fun h => aliasV_sub hsub (by rw [hDy]; exact h)
              have Hal := hid hal
              unfold pval at HA
              rw [hsy] at e2 s2
              rw [hsx] at e1 s1
              have HVz : Hid (V = wr.alloc (.cells #[.string s.kind, .int .i64 (sx : Int), .int .i64 (sy : Int), .slice av s.args.length cv] 48)) := hid (by rw [HVe.out, hsy, hsx])
              have g0 := (HB6.out.ext (HZ7.out.trans HxV.out)).av 0 rfl
              have g1 := (HB6.out.ext (HZ7.out.trans HxV.out)).av 1 rfl
              have g2 := (HB6.out.ext (HZ7.out.trans HxV.out)).av 2 rfl
              simp only [pcells, List.getElem_toArray, List.getElem_cons_zero, List.getElem_cons_succ] at g0 g1 g2
              rw [HVz.out] at hcy g0 g1 g2 s0 s1 s2
              clear hsk hIs hxV hV hgd hkc' hyv hxv hnv hly hIy hDy hsub hal hsy hsx HVe
              rcases Nat.eq_zero_or_pos ly.length with g | g
              · have gi : (ly.length : Int) = 0 := by omega
                clear g0 g1 g2
                go_wp2
                rw [← HVz.out]
                go_roundw
                case rel => exact ⟨i + 1, by go_num, by omega, HxV.out⟩
                case measure => simp [intOf]; omega
              · have gi : 0 < (ly.length : Int) := by omega
                rw [Hal.out g] at HA
                go_wp2_with fail
                rw [← HVz.out]
                clear s0 s1 s2 g0 g1 g2 e0 e1 e2 e3 hcy gi p2
                refine HA.out.mono ?_
                intro e w8 hx
                obtain ⟨rfl, hx8⟩ := hx
                have Hx8 := hid (HxV.out.trans hx8)
                clear HA hx8
                go_wp2
                go_roundw
                case rel => exact ⟨i + 1, by go_num, by omega, Hx8.out⟩
                case measure => simp [intOf]; omega
          · go_wp2
            go_ret
            exact ⟨rfl, HXw.out.trans (HZ7.out.trans Hx.out)⟩
    · have HA1 := hid (callsalias_out b1 b2 b3 d1 d2 d3 P x y W9 ad (HPP9.out.pw hw) HS9.out n S hL hb)
      have HA2 := fun w1 (x1 : Ext W9 w1) => hid (callsalias_out b1 b2 b3 d1 d2 d3 P y x w1 ad ((HPP9.out.on (Nat.le_refl _) x1).pw hw) (HS9.out.ext x1) n S hL (fun h => hb ⟨h.2.2.1, h.2.2.2, h.1, h.2.1⟩))
      obtain ⟨te, ze, he⟩ : ∃ t z, evOf ad 2 = .iface t (.pointer (some z)) := ⟨_, _, rfl⟩
      rw [he] at HA1 HA2
      unfold pval at HA1
      clear hb hw hL he
      go_wp2_with fail
      rw [← HW9.out]
      refine HA1.out.mono ?_
      intro e w4 hx
      obtain ⟨rfl, hx4⟩ := hx
      have HZ4 := hid hx4
      have HA2' := HA2 w4 hx4
      clear HA1 hx4 HA2
      have HA2 := HA2'
      clear HA2'
      unfold pval at HA2
      have g0 := (HB6.out.ext HZ4.out).av 0 rfl
      have g1 := (HB6.out.ext HZ4.out).av 1 rfl
      have g2 := (HB6.out.ext HZ4.out).av 2 rfl
      simp only [pcells, List.getElem_toArray, List.getElem_cons_zero, List.getElem_cons_succ] at g0 g1 g2
      go_wp2_with fail
      refine HA2.out.mono ?_
      intro e w5 hx
      obtain ⟨rfl, hx5⟩ := hx
      have HZ5 := hid (HZ4.out.trans hx5)
      clear HA2 hx5 g0 g1 g2
      go_wp2
      go_ret
      exact ⟨rfl, HXw.out.trans HZ5.out⟩
  · have HA1 := hid (callsalias_no b1 b2 b3 d1 d2 d3 P x y W9 W9.heap.size ad HPP9.out (Nat.le_refl _) hw)
    have HA2 := fun w1 (x1 : Ext W9 w1) => hid (callsalias_no b1 b2 b3 d1 d2 d3 P y x w1 w1.heap.size ad (HPP9.out.on (Nat.le_refl _) x1) (Nat.le_refl _) hw)
    unfold pval at HA1
    clear hw
    go_wp2_with fail
    rw [← HW9.out]
    refine HA1.out.mono ?_
    intro e w4 hx
    obtain ⟨t4, z4, rfl, _, hx4⟩ := hx
    have HZ4 := hid hx4
    have HA2' := HA2 w4 hx4
    clear HA1 hx4 HA2
    have HA2 := HA2'
    clear HA2'
    unfold pval at HA2
    have g0 := (HB6.out.ext HZ4.out).av 0 rfl
    have g1 := (HB6.out.ext HZ4.out).av 1 rfl
    have g2 := (HB6.out.ext HZ4.out).av 2 rfl
    simp only [pcells, List.getElem_toArray, List.getElem_cons_zero, List.getElem_cons_succ] at g0 g1 g2
    go_wp2_with fail
    refine HA2.out.mono ?_
    intro e w5 hx
    obtain ⟨t5, z5, rfl, _, hx5⟩ := hx
    have HZ5 := hid (HZ4.out.trans hx5)
    clear HA2 hx5 g0 g1 g2
    go_wp2
    go_ret
    exact ⟨rfl, HXw.out.trans HZ5.out⟩
end Go.Proofs.YtoaoienfggjepaaGreatDoor


/- CallsAlias: whatever the program and the two numbers, the law returns true, and its arguments read as they did: as the given card of that statement says it, with no further condition. -/
namespace Go.Proofs.YtoaoienfggjepaaGreatDoor.callsAlias
set_option linter.unusedSimpArgs false
set_option linter.unusedVariables false
open Go Go.ChangeShapes Go.WideShapes Go.ChangeAt Go.WideMaps Go.WideElems Go.RowKit Go.Joins Go.Deep

/-- The errors that are told, out of the row's list. -/
theorem errs_of {W : World} (h : laidMetH Tryz.prog (sentL [2, 3, 4, 5, 7, 8, 9, 10]) W) : ∃ ad : Nat → Addr, ErrsP W ad ∧ ErrS W ad := by
  obtain ⟨ad, s1, s2⟩ := sents_ad [2, 3, 4, 5, 7, 8, 9, 10] (by decide) (met_plain h)
  exact ⟨ad, ⟨(s1 2 (by decide)).var, (s1 3 (by decide)).var, (s1 4 (by decide)).var, (s1 5 (by decide)).var, (s1 7 (by decide)).var, (s1 8 (by decide)).var, (s1 9 (by decide)).var,
    fun e => by have := s2 5 (by decide) 7 (by decide) e; omega, (s1 5 (by decide)).row, (s1 7 (by decide)).row⟩, ⟨(s1 2 (by decide)).var, (s1 10 (by decide)).var⟩⟩
theorem laid_eq : (Rows.callsAliasRow.laid.filter fun x => !(x.1 == "unicode/utf8.acceptRanges") && !(x.1 == "unicode/utf8.first")) = sentL [2, 3, 4, 5, 7, 8, 9, 10] := by kernel_rfl
theorem own : ownKnob Tryz.prog.godebug = none := by kernel_rfl
theorem laidOut : laidOutB Tryz.prog = true := by kernel_rfl
set_option maxRecDepth 100000 in
theorem lifted (os : Os) (started : os.Started) (H : Type) (enc : TypeId × Value → H) :
    ReturnsInHanded {} Tryz.checked os 4 .any (fun w args => (Rows.callsAliasSpec.pre enc Tryz.prog Tryz.f4 [] false w args ∧ laidMetH Tryz.prog Rows.callsAliasRow.laid w) ∧ sizedMet enc Tryz.prog Tryz.f4 (OpenSpec.ofChange Rows.callsAliasSpec) false w args)
      (Rows.callsAliasSpec.post enc Tryz.prog Tryz.f4 false true false false) := by
  refine returnsInHanded_of_change_and (C := Tryz.checked) (X := fun w _ => laidMetH Tryz.prog Rows.callsAliasRow.laid w) (fun _ _ _ hh h => h.of_heap hh) own started (by kernel_rfl) Tryz.func4
    (ChangeSpec.witness_shaped (enc := enc) (C := Tryz.checked) (os := os) (X := fun w _ => laidMetH Tryz.prog Rows.callsAliasRow.laid w) false (World.laidAll Tryz.prog os Rows.callsAliasRow.laid) #[.agg #[.slice none 0 0, .slice none 0 0, .slice none 0 0], .int .i64 0, .int .i64 0] 8 (World.laidAll_os _ _ _) (World.shaped_of_ZipB (by kernel_rfl) (by kernel_rfl)) (by kernel_rfl) (by kernel_rfl) (by kernel_rfl)
      (by rw [MakeChecks.laidMetH_plain _ _ _ (by kernel_rfl)]; exact laidMet_laidAll _ (by kernel_rfl) (by kernel_rfl))) ?_
  intro W base args ds gs before hval0 hW _ _ hL _
  have hval : ∀ (j : Nat) t v, Tryz.f4.params[j]? = some t → args[j]? = some v → Value.okWide Tryz.prog W .any base t v := hval0
  have hW' := hW
  obtain ⟨p, q, hA0, hV, rfl, hfz, hnd⟩ := hW
  have hA : DataW.TrodAll enc Tryz.prog W 0 (fun _ => true) true Tryz.f4.params.toList args.toList ds p := hA0
  rw [Tryz.params4] at hA hval
  obtain ⟨v0, vs0, d0, ds0, p0, q0, hargs, rfl, rfl, h0, r0⟩ := trodAll_cons hA
  obtain ⟨v1, vs1, d1, ds1, p1, q1, rfl, rfl, rfl, h1, r1⟩ := trodAll_cons r0
  obtain ⟨v2, vs2, d2, ds2, p2, q2, rfl, rfl, rfl, h2, r2⟩ := trodAll_cons r1
  obtain ⟨rfl, rfl, rfl⟩ := trodAll_nil r2
  obtain rfl : args = #[v0, v1, v2] := by cases args; simp_all
  obtain ⟨rfl, rfl⟩ := trodVars_none hV
  have k0 := h0
  have lt0 : ∀ x ∈ p0, x.block < W.heap.size := by obtain ⟨m, hm⟩ := k0; exact DataW.trod_lt m _ _ _ hm
  obtain ⟨a1, rfl, rfl, rfl, w1⟩ := open_int Tryz.underlying3 (hval 1 3 v1 rfl rfl) h1
  obtain ⟨a2, rfl, rfl, rfl, w2⟩ := open_int Tryz.underlying3 (hval 2 3 v2 rfl rfl) h2
  obtain ⟨b1, b2, b3, c1, c2, c3, P, rfl, hP⟩ := prog_of (hval 0 39 v0 rfl rfl) h0
  obtain ⟨ad, hE, hS⟩ := errs_of (by have := laidMetH.filter (fun x => !(x.1 == "unicode/utf8.acceptRanges") && !(x.1 == "unicode/utf8.first")) hL; rw [laid_eq] at this; exact this)
  clear hA0 hval0
  refine (callsaliaslaw_any b1 b2 b3 c1 c2 c3 P a1 a2 W ad hE hS hP).mono fun e W' ⟨he, bel⟩ => ?_
  subst he
  exact ⟨_, rfl, _, _, _, [], _, [], hW', trodAll_mk1 (shut_bool Tryz.underlying4 _), (trodAll_cons_mk (Below.trod laidOut (by kernel_rfl) (of_decide_eq_true (by kernel_rfl)) k0 bel lt0) (trodAll_cons_mk (shut_int Tryz.underlying3 w1) (trodAll_cons_mk (shut_int Tryz.underlying3 w2) trodAll_mk0))), rfl, bel.frame _, fun h => by cases h⟩

theorem said : Rows.CallsAliasSaid :=
  OpenClaim.holds_of_wide 4 Tryz.f4 rfl rfl rfl rfl rfl rfl rfl ⟨rfl, rfl, rfl, rfl, rfl⟩ rfl rfl rfl rfl rfl (by kernel_rfl) Tryz.func4 (by kernel_rfl)
    (of_decide_eq_true (by kernel_rfl)) (by unfold Func.isWrapper; first | (rw [if_pos (by decide +kernel)]; kernel_rfl) | (rw [if_neg (by decide +kernel)]; exact ⟨rfl, rfl⟩))
    (fun os started H enc _ => lifted os started H enc)

/-- No parameter wants a stand-in. -/
theorem plain (f : FuncId) (fn : Func) (hf : Tryz.pinned.checked.prog.funcNamed Tryz.f4.name = some f) (hfn : Tryz.pinned.checked.prog.funcs[f]? = some fn) :
    true = Tryz.pinned.checked.prog.looks [] ∧ ∀ (j : Nat) t, fn.params[j]? = some t → Tryz.pinned.checked.prog.wantsStandIn t = false := by
  obtain rfl : f = 4 := Option.some.inj ((show Tryz.prog.funcNamed Tryz.f4.name = some 4 by kernel_rfl).symm.trans hf) |>.symm
  obtain rfl : fn = Tryz.f4 := (Option.some.inj (Tryz.func4.symm.trans hfn)).symm
  refine ⟨by kernel_rfl, fun j t ht => ?_⟩
  rw [Tryz.params4] at ht
  have hm : t ∈ ([39, 3, 3] : List Nat) := by simpa using Array.mem_of_getElem? ht
  have hall : (([39, 3, 3] : List Nat).all fun u => !Tryz.prog.wantsStandIn u) = true := by kernel_rfl
  exact (show Tryz.prog.wantsStandIn t = false by simpa using List.all_eq_true.1 hall t hm)

set_option maxRecDepth 100000 in
theorem card : Rows.CallsAliasCardSaid :=
  Claim7.holds_tied_plain_at .later [] _ _ _ _ said (fun _ h => by cases h) (by kernel_rfl) (fun _ h => by cases h) callsAlias_row_tie rfl ⟨rfl, rfl⟩ (by kernel_rfl) rfl plain (by kernel_rfl)
#print axioms card
end Go.Proofs.YtoaoienfggjepaaGreatDoor.callsAlias

