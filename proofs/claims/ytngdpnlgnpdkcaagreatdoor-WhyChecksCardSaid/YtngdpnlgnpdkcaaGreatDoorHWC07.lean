/- Texts of one proof, put together: E4 E5 ZZWk ZZWl ZZWm ZZWn ZZWt E6 ZZWv ZZWna. -/
import Derived.Test.YtngdpnlgnpdkcaaGreatDoorHWC01
import Derived.Test.YtngdpnlgnpdkcaaGreatDoorHWC03
import Derived.Test.YtngdpnlgnpdkcaaGreatDoorHWC04
import Derived.Test.YtngdpnlgnpdkcaaGreatDoorHWC06
import Derived.OwnWalk
set_option linter.unusedSimpArgs false
set_option linter.unusedVariables false
namespace Go.Proofs.YtngdpnlgnpdkcaaGreatDoor
open Go Go.RowKit
theorem Made.put {w : World} {base g cap N : Nat} {vs : List Value} {L : List (List Int)} {n : Nat} {v : Value} {l : List Int} (hr : w.ownsRow base 43 1 (.slice (some ⟨g, 0, none⟩) N cap) N vs) (hm : Made w vs L) (hL : L.length = N) (hv : IntsT w v l) (hn : n < N) :
  (w.setCell ⟨g, n, none⟩ v).ownsRow base 43 1 (.slice (some ⟨g, 0, none⟩) N cap) N (vs.set n v) ∧ Made (w.setCell ⟨g, n, none⟩ v) (vs.set n v) (L.set n l) ∧ Keep (fun q => q = g) w (w.setCell ⟨g, n, none⟩ v) := by
 have k : Keep (fun q => q = g) w (w.setCell ⟨g, n, none⟩ v) := Keep.set (X := fun q => q = g) (Keep.refl _ _) rfl _
 have hni : ∀ b, b = g → ¬ IsInt w b := fun b e => by
  subst e
  obtain ⟨c, hc⟩ := own_ty hr (k := b) rfl
  exact notInt hc (by decide)
 have hvs := hm.1
 refine ⟨own_set hr n (by omega) v, ⟨by rw [List.length_set, List.length_set]; exact hvs, fun i u m hu hl => ?_⟩, k⟩
 by_cases hi : n = i
 ·subst hi
  rw [List.getElem?_set_self (by omega)] at hu hl
  obtain rfl := Option.some.inj hu
  obtain rfl := Option.some.inj hl
  exact hv.keep k hni
 ·rw [List.getElem?_set_ne hi] at hu hl
  exact (hm.2 i u m hu hl).keep k hni
theorem Made.one {w : World} {base g cap N : Nat} {vs : List Value} {S : List (List Int)} (hr : w.ownsRow base 43 1 (.slice (some ⟨g, 0, none⟩) N cap) N vs) (hm : Made w vs S) (hL : S.length = N) {n : Nat} (hn : n < N) : ∃ a c, w.cell? ⟨g, n, none⟩ = some (.slice a (S.getD n []).length c) ∧ IntsR w w.heap.size (.slice a (S.getD n []).length c) (S.getD n []) := by
 have hvs := hm.1
 have h1 : vs[n]? = some (vs[n]'(by omega)) := List.getElem?_eq_getElem (by omega)
 have h2 : S[n]? = some (S[n]'(by omega)) := List.getElem?_eq_getElem (by omega)
 have hT := hm.2 n _ _ h1 h2
 obtain ⟨a, c, ha⟩ := hT.form
 have e : S.getD n [] = S[n]'(by omega) := by rw [List.getD_eq_getElem?_getD, h2]; rfl
 rw [e]
 rw [ha] at h1
 exact ⟨a, c, own_get hr n h1, by rw [← ha]; exact hT.1⟩
set_option maxRecDepth 100000 in
set_option maxHeartbeats 6400000 in
theorem fixround_made (a1 a2 a3 : Option Addr) (c1 c2 c3 : Nat) (P : PP) (hv : Value) (has : List (List Int)) (w : World) (ad : Nat → Addr) (h : PW w w.heap.size ad a1 a2 a3 c1 c2 c3 P) (hS : ErrS w ad) (hh : SetsR w w.heap.size hv has) (hg : P.GoodS has) :
  Calls Tryz.prog 54 #[pval a1 a2 a3 c1 c2 c3 P, hv] w fun e w' => ∃ a c vs, e = .returned (.tuple #[.slice a has.length c, .nilIface]) ∧ w'.ownsRow w.heap.size 43 1 (.slice a has.length c) has.length vs ∧ Made w' vs (P.roundV has) ∧ (P.roundV has).length = has.length ∧ Ext w w' := by
 obtain ⟨ah, ch, rfl⟩ := hh.form
 have hhl := hh.len
 have Hg := hid hg
 obtain ⟨hf1, hf2, hf3⟩ := hg.1.few
 have hN6 : has.length ≤ 120 := by have := nodesV_le P hg.1; have := hg.2.1; omega
 obtain ⟨W, hW⟩ : ∃ W, W = w.alloc (.cells (pcells a1 a2 a3 c1 c2 c3 P) 26) := ⟨_, rfl⟩
 have HX : Hid (Ext w W) := hid (by rw [hW]; exact (Ext.refl _).alloc _)
 have HBx : Hid (Blk W w.heap.size (pcells a1 a2 a3 c1 c2 c3 P) 26) := hid (by rw [hW]; exact Blk.new _ _ _)
 have HWe : Hid (W = w.alloc (.cells #[.slice a1 P.vars.length c1, .slice a2 P.funs.length c2, .slice a3 P.stmts.length c3] 26)) := hid (by rw [hW]; rfl)
 have HE1 := hid (edges_fix a1 a2 a3 c1 c2 c3 P (.slice ah has.length ch) has W ad ((h.ext HX.out).lift HX.out.size) (hS.ext HX.out) ((hh.ext HX.out).lift HX.out.size) hg)
 have HO := fun w1 (x : Ext W w1) => hid (consof_yes a1 a2 a3 c1 c2 c3 P w1 w1.heap.size ad ((h.ext (HX.out.trans x)).lift (HX.out.trans x).size))
 have HH := hid (hh.ext HX.out)
 have HS := hid (hS.ext HX.out)
 have hEl := edgesL_len hg.1 has
 have HRA := hid (roundV_at hg)
 have HA := hid (edgesL_are hg)
 obtain ⟨EL, hEL⟩ : ∃ EL, EL = P.edgesL has := ⟨_, rfl⟩
 rw [← hEL] at HE1 hEl HRA HA
 have d0 := HBx.out.av 0 rfl
 have d1 := HBx.out.av 1 rfl
 have d2 := HBx.out.av 2 rfl
 simp only [pcells, qA0, qA1, qA2] at d0 d1 d2
 rw [HWe.out] at d0 d1 d2
 unfold pval at HE1 HO ⊢
 clear hW h hS hh hg hEL
 go_enter Tryz.func54, Tryz.ntmps54
 go_wp2_with fail
 rw [← HWe.out]
 refine HE1.out.mono ?_
 intro e w1 hx
 obtain ⟨ae, ce, rfl, hr, _, hx1⟩ := hx
 have Hr1 := hid hr
 have Hx1 := hid hx1
 have HO1 := HO w1 hx1
 clear HE1 HO hr hx1 d0 d1 d2
 have d0 := (HBx.out.ext Hx1.out).av 0 rfl
 have d1 := (HBx.out.ext Hx1.out).av 1 rfl
 have d2 := (HBx.out.ext Hx1.out).av 2 rfl
 simp only [pcells, qA0, qA1, qA2] at d0 d1 d2
 go_wp2_with fail
 refine HO1.out.mono ?_
 intro e w2 hx
 obtain ⟨v2, rs, rfl, hi, hx2⟩ := hx
 obtain ⟨bv, dv, rfl⟩ := row_form hi.row
 rw [show P.rulesV.length = P.stmts.length from P.rulesUp_len _] at hi ⊢
 have HI := hid hi
 have Hx2 := hid (Hx1.out.trans hx2)
 have HrE := hid (Hr1.out.ext hx2)
 have HH2 := hid (HH.out.ext Hx2.out)
 have HS2 := hid (HS.out.ext Hx2.out)
 have Hxw2 := hid (HX.out.trans Hx2.out)
 have Hlw : Hid (w.heap.size ≤ w2.heap.size) := hid Hxw2.out.size
 clear HO1 hi hx2 d0 d1 d2 Hr1 HH HS
 go_wp2
 go_loopw [9, 35] (fun t9 t35 wr => ∃ (k : Nat) (vs : List Value), t35 = .int .i64 (k : Int) ∧ k ≤ has.length ∧ wr.ownsRow w2.heap.size 43 1 t9 k vs ∧ Made wr vs (has.take k) ∧ Ext w2 wr) (fun _ t35 _ => has.length - (intOf t35).toNat)
 case atStart => exact ⟨0, [], rfl, Nat.zero_le _, World.ownsRow_nil _ _ _ _, ⟨rfl, fun i v l h => by cases h⟩, Ext.refl _⟩
 case round =>
  obtain ⟨k, vs, rfl, hk, hr, hm, hx⟩ := hrel
  obtain ⟨a9, c9, rfl⟩ := row_form hr
  have Hr := hid hr
  have Hm := hid hm
  have Hx := hid hx
  clear hr hm hx
  by_cases hlt : k < has.length
  ·obtain ⟨y, l, b, c, hya, hl, hc, hI⟩ := (HH2.out.ext Hx.out).at hlt
   subst hya
   have hll := srt_few (Hg.out.ok.ok l (List.mem_of_getElem? hl)).1
   have HC := hid (clone_big (.slice b l.length c) l wr w.heap.size hI (by omega))
   have Hl := hid hl
   clear hl hI
   go_wp2_with fail
   refine HC.out.mono ?_
   intro e w3 hx
   obtain ⟨v3, rfl, hx3, hr3⟩ := hx
   have HT := hid (IntsT.row hr3)
   obtain ⟨a3', c3', rfl⟩ := hr3.form
   have Hx3 := hid hx3
   clear HC hr3 hx3 hc
   have hxa : Hid (Ext w2 (w3.alloc (.cells #[.slice a3' l.length c3'] 43))) := hid ((Hx.out.trans Hx3.out).alloc _)
   have hx3a : Hid (Ext wr (w3.alloc (.cells #[.slice a3' l.length c3'] 43))) := hid (Hx3.out.alloc _)
   have Hra := hid (own_ext Hr.out hx3a.out)
   have Hma := hid ((Hm.out.ext hx3a.out).snoc (HT.out.ext ((Ext.refl w3).alloc (.cells #[.slice a3' l.length c3'] 43))))
   go_wp2_with (at_builtin; refine wpList_append_el w2.heap.size hxa.out.size 39 43 (.slice none 0 0) 1 24 Tryz.underlying39 rows_info rfl (by omega) (by omega) rfl _ _ rfl (.slice a9 k c9) k vs rfl Hra.out w3.heap.size [.slice a3' l.length c3'] rfl (by simp [Value.oneCell']) rfl (Blk.new _ _ _) (by omega) ?_; intro v' w' h1 h2 h4; obtain ⟨a', c', rfl⟩ := row_form h1; have h3 := hid (Keep.new hxa.out h2 (fun k hk => (World.ownsRow.lt Hra.out k hk).1)); have hm5 := hid (Hma.out.keep h2 (fun b e => by obtain ⟨c, hc⟩ := own_ty Hra.out e; exact IsInt.not hc (by decide))); have h1 := hid h1; clear h2 h4)
   go_roundw
   case rel =>
    refine ⟨k + 1, _, by go_num, by omega, h1.out, ?_, h3.out⟩
    rw [List.take_add_one, Hl.out]
    exact hm5.out
   case measure => simp [intOf]; omega
  ·obtain rfl : k = has.length := by omega
   rw [List.take_of_length_le (Nat.le_refl _)] at Hm
   obtain ⟨V, hV⟩ : ∃ V, V = wr := ⟨_, rfl⟩
   subst hV
   clear hlt hk
   go_wp2
   go_loopw [47] (fun t47 wr => ∃ (k : Nat) (vs : List Value) (S : List (List Int)), t47 = .int .i64 (k : Int) ∧ k ≤ P.stmts.length ∧ RoundAt P has EL k 0 S ∧ wr.ownsRow w2.heap.size 43 1 (.slice a9 has.length c9) has.length vs ∧ Made wr vs S ∧ Ext w2 wr) (fun t47 _ => P.stmts.length - (intOf t47).toNat)
   case atStart => exact ⟨0, vs, has, rfl, Nat.zero_le _, RoundAt.start Hg.out EL, Hr.out, Hm.out, Hx.out⟩
   case round =>
    clear Hr Hm Hx
    obtain ⟨k, vs, S, rfl, hk, hra, hr, hm, hx⟩ := hrel
    have HRd := hid hra
    have Hrow := hid hr
    have Hmd := hid hm
    have Hx := hid hx
    have HSl := hid hra.len
    clear hra hr hm hx
    by_cases hlt : k < P.stmts.length
    ·obtain ⟨g, cp, hge⟩ := own_some HI.out.row (by rw [show P.rulesV.length = P.stmts.length from P.rulesUp_len _]; omega)
     simp only [Value.slice.injEq] at hge
     obtain ⟨rfl, -, rfl⟩ := hge
     obtain ⟨x, hxk, hxr⟩ := rules_at HI.out.eq hlt
     have hrow := own_ext HI.out.row Hx.out
     rw [show P.rulesV.length = P.stmts.length from P.rulesUp_len _] at hrow
     obtain ⟨q0, q1, q2, q3, q4⟩ := own_r hrow hxk
     have hT := HI.out.args x (List.mem_of_getElem? hxk)
     obtain ⟨aa, ca, hav⟩ := hT.form
     obtain ⟨r, xv⟩ := x
     simp only at hav hxr q0 q1 q2 q3 q4
     subst hav
     obtain ⟨wA, hwA⟩ : ∃ wA, wA = wr.alloc (.cells #[.string r.kind, .int .i64 r.a, .int .i64 r.b, .int .i64 r.k, .slice aa r.args.length ca] 87) := ⟨_, rfl⟩
     have hxA : Ext wr wA := by rw [hwA]; exact (Ext.refl _).alloc _
     have HwAe := hid hwA
     have HwA := hid hxA
     have HBr : Hid (Blk wA wr.heap.size #[.string r.kind, .int .i64 r.a, .int .i64 r.b, .int .i64 r.k, .slice aa r.args.length ca] 87) := hid (by rw [hwA]; exact Blk.new _ _ _)
     have hra := rule_a_in Hg.out.1 hlt
     rw [← hxr] at hra
     have hrb := fun hb => base_b_in Hg.out.1 hlt hb
     rw [← hxr] at hrb
     have hob := objects_few Hg.out.1
     have Hrr := hid hxr
     have hnv := nodes_vars P
     have hlen := Hg.out.2.1
     obtain ⟨A, hA⟩ := Int.eq_ofNat_of_zero_le hra.1
     have hAl : A < has.length := by omega
     have m0 := HBr.out.kc (X := fun _ => False) (fun e => e) 0 rfl
     have m1 := HBr.out.kc (X := fun _ => False) (fun e => e) 1 rfl
     have m2 := HBr.out.kc (X := fun _ => False) (fun e => e) 2 rfl
     simp only [qA0, qA1, qA2] at m0 m1 m2
     cases hkb : (r.kind.toList == [98, 97, 115, 101]) with
     | true =>
      have hkl : r.kind.toList = bBase.toList := (eq_of_beq hkb).trans (eq_of_beq bBase_list).symm
      have Hkb : Hid ((P.ruleV k (P.stAt k)).kind.toList = bBase.toList) := hid (by rw [← Hrr.out]; exact hkl)
      have hb := hrb hkl
      have Hb : Hid (0 ≤ r.b ∧ r.b < 1000) := hid (by omega)
      obtain ⟨g9, cp9, hge⟩ := own_some Hrow.out (by omega)
      simp only [Value.slice.injEq] at hge
      obtain ⟨rfl, -, rfl⟩ := hge
      obtain ⟨al, cl, hcl, hIl⟩ := Made.one Hrow.out Hmd.out HSl.out hAl
      have Hidx : Hid (A < has.length) := hid hAl
      have hlk : chkE (S.getD A []) = 0 := HRd.out.ok _ (getD_mem (by rw [HSl.out]; exact hAl))
      obtain ⟨la, hla⟩ : ∃ la, la = S.getD A [] := ⟨_, rfl⟩
      rw [← hla] at hcl hIl hlk
      obtain ⟨lj, hlj⟩ : ∃ lj, lj = sset (la ++ [r.b]) := ⟨_, rfl⟩
      have Hst := hid (RoundAt.base HRd.out Hkb.out (by rw [← Hrr.out]; exact hA) (by rw [← Hrr.out]) Hb.out hAl)
      rw [← hla, ← hlj] at Hst
      have hbk : chkE [r.b] = 0 := chkE_zero.2 ⟨fun z hz => by obtain rfl := List.mem_singleton.1 hz; exact Hb.out, List.pairwise_singleton _ _⟩
      have HJ := fun bq wa (y : Ext wA wa) (hB : Blk wa bq #[.int .i64 r.b] 3) => hid (fixjoin_any (.slice al la.length cl) (.slice (some ⟨bq, 0, none⟩) 1 1) la [r.b] wa wa.heap.size ad (HS2.out.ext (Hx.out.trans (HwA.out.trans y))) (ElR.lift (hIl.old ((HwA.out.trans y).old _)) (HwA.out.trans y).size) (IntsR.blk (l := [r.b]) hB rfl (by simp)) hlk hbk)
      rw [← hlj] at HJ
      have c0 : ∀ w1, Keep (fun _ => False) wA w1 → w1.cell? ⟨g9, A, none⟩ = some (.slice al la.length cl) := fun w1 k => (HwA.out.trans k.ext).cellx hcl
      have hll : (la.length : Int) ≤ 9223372036854775807 := by have := srt_few hlk; omega
      rw [hA] at m1
      clear hcl hIl hlk hla hlj hbk hrb hb hkl hwA hxA hxk hxr hrow hT hra hnv hlen hA
      go_wp2
      rw [← HwAe.out]
      refine wp_flowT (fun _ => False) (by kernel_rfl) (by kernel_rfl) ?_
      repeat (apply FlowT.d; (intro w1 hk; unfold does; go_simp; (try go_ints); (first | exact DetR.mk | (simp only [↓IntWalk.iteOmega, Oper.doesUpon_value]; exact DetR.mk) | (simp only [↓IntWalk.iteOmega]; go_simp; (try go_ints); exact DetR.mk))); simp only [Act.put, qS0, qS1, qS2])
      refine FlowT.s (fun v w' => (∃ b, v = .slice (some ⟨b, 0, none⟩) 1 1) ∧ (∀ b, v = .slice (some ⟨b, 0, none⟩) 1 1 → Blk w' b #[.int .i64 r.b] 3) ∧ Ext wA w') 10 rfl (by kernel_rfl) (fun _ _ _ ⟨h1, h2, h3⟩ y => ⟨h1, fun b e => (h2 b e).ext y, h3.trans y⟩) (fun wa hC hk2 => ?_) ?_
      ·unfold does
       go_simp
       exact ⟨hk2.alloc _, ⟨_, rfl⟩, fun b e => by
        obtain rfl : wa.heap.size = b := by simpa using e
        exact Blk.new _ _ _, hC.alloc _⟩
      rintro _ ⟨_, ⟨bq, rfl⟩, _, _⟩
      simp only [Act.put, qS0, qS1, qS2]
      repeat (apply FlowT.d; (intro w1 hk; unfold does; go_simp; (try go_ints); (first | exact DetR.mk | (simp only [↓IntWalk.iteOmega, Oper.doesUpon_value]; exact DetR.mk) | (simp only [↓IntWalk.iteOmega]; go_simp; (try go_ints); exact DetR.mk))); simp only [Act.put, qS0, qS1, qS2])
      refine FlowT.s (fun v w' => (∃ x c, v = .slice x lj.length c) ∧ (∀ x c, v = .slice x lj.length c → IntsT w' (.slice x lj.length c) lj) ∧ Ext wA w') 11 rfl (by kernel_rfl) (fun _ _ _ ⟨h1, h2, h3⟩ y => ⟨h1, fun x c e => (h2 x c e).ext y, h3.trans y⟩) (fun wa hC hk2 => ?_) ?_
      ·obtain ⟨_, hB, hxa⟩ := hC
       have HJa := HJ bq wa hxa (hB _ rfl)
       unfold does
       go_simp
       refine CallR.act (HJa.out.mono ?_)
       rintro e wb ⟨v, rfl, ⟨x, c, rfl⟩, hT, hx⟩
       refine ⟨_, rfl, hk2.trans (hx.keep _), ⟨x, c, rfl⟩, fun x' c' e => ?_, hxa.trans hx⟩
       rw [← e]
       exact hT
      rintro _ ⟨_, ⟨xj, cj, rfl⟩, _, _⟩
      simp only [Act.put, qS0, qS1, qS2]
      repeat (apply FlowT.d; (intro w1 hk; unfold does; go_simp; (try go_ints); (first | exact DetR.mk | (simp only [↓IntWalk.iteOmega, Oper.doesUpon_value]; exact DetR.mk) | (simp only [↓IntWalk.iteOmega]; go_simp; (try go_ints); exact DetR.mk))); simp only [Act.put, qS0, qS1, qS2])
      refine FlowT.last (fun _ w' => w'.ownsRow w2.heap.size 43 1 (.slice (some ⟨g9, 0, none⟩) has.length c9) has.length (vs.set A (.slice xj lj.length cj)) ∧ Made w' (vs.set A (.slice xj lj.length cj)) (S.set A lj) ∧ Ext w2 w') 13 rfl (by kernel_rfl) (by kernel_rfl) (fun wa hC hk2 => ?_) (fun _ w6 hR => ?_)
      ·obtain ⟨_, hT, hxa⟩ := hC
       have hT := hT _ _ rfl
       have hrw := own_ext Hrow.out (HwA.out.trans hxa)
       have hmw := Hmd.out.ext (HwA.out.trans hxa)
       obtain ⟨p1, p2, p3⟩ := Made.put hrw hmw HSl.out hT Hidx.out
       obtain ⟨u, hu⟩ : ∃ u, vs[A]? = some u := ⟨_, List.getElem?_eq_getElem (by rw [Hmd.out.1, HSl.out]; exact Hidx.out)⟩
       have z0 := own_get hrw A hu
       have y0 := own_free hrw A
       have hbase := (own_blk hrw).choose_spec.2.1
       have hxx := Keep.new (Hx.out.trans (HwA.out.trans hxa)) p3 fun b e => by rw [e]; exact hbase
       clear hrw hmw hbase
       unfold does
       go_simp
       try exact ⟨p1, p2, hxx⟩
      obtain ⟨h1, h2, h3⟩ := hR
      simp only [Act.put, qS0, qS1, qS2]
      have Hn1 := hid h1
      have Hn2 := hid h2
      have Hn3 := hid h3
      clear h1 h2 h3
      clear m0 m1 m2 c0 HJ hkb
      go_wp2
      go_roundw
      case rel => exact ⟨k + 1, _, _, by go_num, by omega, Hst.out, Hn1.out, Hn2.out, Hn3.out⟩
      case measure => simp [intOf]; omega
     | false =>
      have Hkb : Hid ((P.ruleV k (P.stAt k)).kind.toList ≠ bBase.toList) := hid (by
       rw [← Hrr.out]
       intro h
       rw [h, bBase_list] at hkb
       cases hkb)
      have HxA := hid (Hx.out.trans HwA.out)
      have Hr2 := hid (own_ext Hrow.out HwA.out)
      have Hm2 := hid (Hmd.out.ext HwA.out)
      have m0' := HBr.out.av 0 rfl
      simp only [qA0, qA1, qA2] at m0'
      rw [HwAe.out] at m0'
      clear hrb hwA hxA hxk hxr hrow hT hra hnv hlen hA m0 m1 m2
      go_wp2
      rw [← HwAe.out]
      go_roundw
      case rel => exact ⟨k + 1, vs, S, by go_num, by omega, HRd.out.skip Hkb.out, Hr2.out, Hm2.out, HxA.out⟩
      case measure => simp [intOf]; omega
    ·obtain rfl : k = P.stmts.length := by omega
     obtain ⟨U, hU⟩ : ∃ U, U = wr := ⟨_, rfl⟩
     subst hU
     clear hlt hk
     go_wp2
     go_loopw [70] (fun t70 wr => ∃ (m : Nat) (vs : List Value) (S : List (List Int)), t70 = .int .i64 (m : Int) ∧ m ≤ EL.length ∧ RoundAt P has EL P.stmts.length m S ∧ wr.ownsRow w2.heap.size 43 1 (.slice a9 has.length c9) has.length vs ∧ Made wr vs S ∧ Ext w2 wr) (fun t70 _ => EL.length - (intOf t70).toNat)
     case atStart => exact ⟨0, vs, S, rfl, Nat.zero_le _, HRd.out, Hrow.out, Hmd.out, Hx.out⟩
     case round =>
      clear HRd Hrow Hmd Hx HSl
      obtain ⟨m, vs, S, rfl, hm1, hra, hr, hm, hx⟩ := hrel
      have HRd := hid hra
      have Hrow := hid hr
      have Hmd := hid hm
      have Hx := hid hx
      have HSl := hid hra.len
      clear hra hr hm hx
      by_cases hlt : m < EL.length
      ·obtain ⟨ge, cp, hge⟩ := own_some HrE.out (by omega)
       simp only [Value.slice.injEq] at hge
       obtain ⟨rfl, -, rfl⟩ := hge
       obtain ⟨⟨x, z⟩, hxk⟩ : ∃ x, EL[m]? = some x := ⟨_, List.getElem?_eq_getElem hlt⟩
       obtain ⟨q0, q1⟩ := own_e (own_ext HrE.out Hx.out) hxk
       have hin := edges0_in Hg.out.1 Hg.out.ok _ ((HA.out.mem _).1 (List.mem_of_getElem? hxk)).1
       unfold PP.InN at hin
       obtain ⟨i1, i2, i3, i4⟩ := hin
       simp only at i1 i2 i3 i4
       have hlen := Hg.out.2.1
       obtain ⟨A, rfl⟩ := Int.eq_ofNat_of_zero_le i1
       obtain ⟨B, rfl⟩ := Int.eq_ofNat_of_zero_le i3
       have hAl : A < has.length := by omega
       have hBl : B < has.length := by omega
       obtain ⟨wA, hwA⟩ : ∃ wA, wA = wr.alloc (.cells #[.int .i64 (A : Int), .int .i64 (B : Int)] 62) := ⟨_, rfl⟩
       have hxA : Ext wr wA := by rw [hwA]; exact (Ext.refl _).alloc _
       have HwAe := hid hwA
       have HwA := hid hxA
       have HBe : Hid (Blk wA wr.heap.size #[.int .i64 (A : Int), .int .i64 (B : Int)] 62) := hid (by rw [hwA]; exact Blk.new _ _ _)
       have m0 := HBe.out.kc (X := fun _ => False) (fun e => e) 0 rfl
       have m1 := HBe.out.kc (X := fun _ => False) (fun e => e) 1 rfl
       simp only [qA0, qA1, qA2] at m0 m1
       obtain ⟨y, l, bl, cl', hya, hl, hc, hI⟩ := (HH2.out.ext Hx.out).at hAl
       subst hya
       have hDl : has.getD A [] = l := by rw [List.getD_eq_getElem?_getD, hl]; rfl
       have hlk' : chkE l = 0 := (Hg.out.ok.ok l (List.mem_of_getElem? hl)).1
       obtain ⟨g9, cp9, hge⟩ := own_some Hrow.out (by omega)
       simp only [Value.slice.injEq] at hge
       obtain ⟨rfl, -, rfl⟩ := hge
       obtain ⟨al, cl, hcl, hIl⟩ := Made.one Hrow.out Hmd.out HSl.out hBl
       have Hidx : Hid (B < has.length) := hid hBl
       have hlk : chkE (S.getD B []) = 0 := HRd.out.ok _ (getD_mem (by rw [HSl.out]; exact hBl))
       obtain ⟨la, hla⟩ : ∃ la, la = S.getD B [] := ⟨_, rfl⟩
       rw [← hla] at hcl hIl hlk
       obtain ⟨lj, hlj⟩ : ∃ lj, lj = sset (la ++ l) := ⟨_, rfl⟩
       have Hst := hid (RoundAt.edge HRd.out hxk (fun l hl => (Hg.out.ok.ok l hl).1) hAl hBl)
       rw [← hla, hDl, ← hlj] at Hst
       have HJ := fun wa (y : Ext wA wa) => hid (fixjoin_any (.slice al la.length cl) (.slice bl l.length cl') la l wa wa.heap.size ad (HS2.out.ext (Hx.out.trans (HwA.out.trans y))) (ElR.lift (hIl.old ((HwA.out.trans y).old _)) (HwA.out.trans y).size) (ElR.lift (hI.old ((HwA.out.trans y).old _)) (Nat.le_trans Hlw.out (Hx.out.trans (HwA.out.trans y)).size)) hlk hlk')
       rw [← hlj] at HJ
       have c0 : ∀ w1, Keep (fun _ => False) wA w1 → w1.cell? ⟨g9, B, none⟩ = some (.slice al la.length cl) := fun w1 k => (HwA.out.trans k.ext).cellx hcl
       have c1' : ∀ w1, Keep (fun _ => False) wA w1 → w1.cell? (y.add A) = some (.slice bl l.length cl') := fun w1 k => (HwA.out.trans k.ext).cellx hc
       have hll : (la.length : Int) ≤ 9223372036854775807 := by have := srt_few hlk; omega
       have hll2 : (l.length : Int) ≤ 9223372036854775807 := by have := srt_few hlk'; omega
       clear hcl hIl hlk hla hlj hwA hxA hxk hlen hl hc hI hDl hlk' i1 i2 i3 i4
       go_wp2
       rw [← HwAe.out]
       clear q0 q1
       refine wp_flowT (fun _ => False) (by kernel_rfl) (by kernel_rfl) ?_
       repeat (apply FlowT.d; (intro w1 hk; unfold does; go_simp; (try go_ints); (first | exact DetR.mk | (simp only [↓IntWalk.iteOmega, Oper.doesUpon_value]; exact DetR.mk) | (simp only [↓IntWalk.iteOmega]; go_simp; (try go_ints); exact DetR.mk))); simp only [Act.put, qS0, qS1, qS2])
       refine FlowT.s (fun v w' => (∃ x c, v = .slice x lj.length c) ∧ (∀ x c, v = .slice x lj.length c → IntsT w' (.slice x lj.length c) lj) ∧ Ext wA w') 13 rfl (by kernel_rfl) (fun _ _ _ ⟨h1, h2, h3⟩ y => ⟨h1, fun x c e => (h2 x c e).ext y, h3.trans y⟩) (fun wa hC hk2 => ?_) ?_
       ·have hxa : Ext wA wa := hC
        have HJa := HJ wa hxa
        unfold does
        go_simp
        refine CallR.act (HJa.out.mono ?_)
        rintro e wb ⟨v, rfl, ⟨x, c, rfl⟩, hT, hx⟩
        refine ⟨_, rfl, hk2.trans (hx.keep _), ⟨x, c, rfl⟩, fun x' c' e => ?_, hxa.trans hx⟩
        rw [← e]
        exact hT
       rintro _ ⟨_, ⟨xj, cj, rfl⟩, _, _⟩
       simp only [Act.put, qS0, qS1, qS2]
       repeat (apply FlowT.d; (intro w1 hk; unfold does; go_simp; (try go_ints); (first | exact DetR.mk | (simp only [↓IntWalk.iteOmega, Oper.doesUpon_value]; exact DetR.mk) | (simp only [↓IntWalk.iteOmega]; go_simp; (try go_ints); exact DetR.mk))); simp only [Act.put, qS0, qS1, qS2])
       refine FlowT.last (fun _ w' => w'.ownsRow w2.heap.size 43 1 (.slice (some ⟨g9, 0, none⟩) has.length c9) has.length (vs.set B (.slice xj lj.length cj)) ∧ Made w' (vs.set B (.slice xj lj.length cj)) (S.set B lj) ∧ Ext w2 w') 15 rfl (by kernel_rfl) (by kernel_rfl) (fun wa hC hk2 => ?_) (fun _ w6 hR => ?_)
       ·obtain ⟨_, hT, hxa⟩ := hC
        have hT := hT _ _ rfl
        have hrw := own_ext Hrow.out (HwA.out.trans hxa)
        have hmw := Hmd.out.ext (HwA.out.trans hxa)
        obtain ⟨p1, p2, p3⟩ := Made.put hrw hmw HSl.out hT Hidx.out
        obtain ⟨u, hu⟩ : ∃ u, vs[B]? = some u := ⟨_, List.getElem?_eq_getElem (by rw [Hmd.out.1, HSl.out]; exact Hidx.out)⟩
        have z0 := own_get hrw B hu
        have y0 := own_free hrw B
        have hbase := (own_blk hrw).choose_spec.2.1
        have hxx := Keep.new (Hx.out.trans (HwA.out.trans hxa)) p3 fun b e => by rw [e]; exact hbase
        clear hrw hmw hbase
        unfold does
        go_simp
        try exact ⟨p1, p2, hxx⟩
       obtain ⟨h1, h2, h3⟩ := hR
       simp only [Act.put, qS0, qS1, qS2]
       have Hn1 := hid h1
       have Hn2 := hid h2
       have Hn3 := hid h3
       clear h1 h2 h3
       clear m0 m1 c0 c1' HJ
       go_wp2
       go_roundw
       case rel => exact ⟨m + 1, _, _, by go_num, by omega, Hst.out, Hn1.out, Hn2.out, Hn3.out⟩
       case measure => simp [intOf]; omega
      ·obtain rfl : m = EL.length := by omega
       have He : Hid (S = P.roundV has) := hid (HRd.out.uniq HRA.out)
       have HF : Hid (Made wr vs (P.roundV has)) := hid (by rw [← He.out]; exact Hmd.out)
       have HFl : Hid ((P.roundV has).length = has.length) := hid (by rw [← He.out]; exact HSl.out)
       go_wp2
       go_ret2
       exact ⟨_, _, vs, rfl, own_low Hrow.out Hlw.out, HF.out, HFl.out, Hxw2.out.trans Hx.out⟩
theorem fixround_ok (a1 a2 a3 : Option Addr) (c1 c2 c3 : Nat) (P : PP) (hv : Value) (has : List (List Int)) (w : World) (ad : Nat → Addr) (h : PW w w.heap.size ad a1 a2 a3 c1 c2 c3 P) (hS : ErrS w ad) (hh : SetsR w w.heap.size hv has) (hg : P.GoodS has) :
  Calls Tryz.prog 54 #[pval a1 a2 a3 c1 c2 c3 P, hv] w fun e w' => ∃ a c, e = .returned (.tuple #[.slice a has.length c, .nilIface]) ∧ SetsR w' w'.heap.size (.slice a has.length c) (P.roundV has) ∧ Ext w w' :=
 (fixround_made a1 a2 a3 c1 c2 c3 P hv has w ad h hS hh hg).mono fun e w' ⟨a, c, vs, he, hr, hm, hl, hx⟩ => by
  refine ⟨a, c, he, ?_, hx⟩
  have := SetsR.made (v := .slice a has.length c) (L := P.roundV has) (by rw [hl]; exact hr) hm
  exact this
theorem first_of {p : Nat → Prop} : ∀ n, p n → ∃ m, p m ∧ ∀ k, k < m → ¬ p k := fun n => by
 induction n using Nat.strongRecOn with
 | _ n ih =>
  intro hn
  rcases Classical.em (∃ k, k < n ∧ p k) with ⟨k, hk, hp⟩ | h
  ·exact ih k hk hp
  ·exact ⟨n, hn, fun k hk hp => h ⟨k, hk, hp⟩⟩
theorem iter_total {P : PP} (hw : P.Well) : ∀ n, (∀ m, m < n → P.roundV (P.iterV m) ≠ P.iterV m) → n ≤ total (P.iterV n)
 | 0, _ => Nat.zero_le _
 | n + 1, h => by
  have h1 := iter_total hw n fun m hm => h m (by omega)
  have h2 := iter_grows hw n (h n (by omega))
  omega
theorem least_exists {P : PP} (hw : P.Well) : ∃ n S, LeastAt P n S := by
 have h : ∃ n, P.roundV (P.iterV n) = P.iterV n := by
  rcases Classical.em (∃ n, P.roundV (P.iterV n) = P.iterV n) with h | h
  ·exact h
  ·have h1 := iter_total hw 200000 fun m _ e => h ⟨m, e⟩
   have h2 := iter_few hw 200000
   omega
 obtain ⟨n, hn⟩ := h
 obtain ⟨m, hm, hf⟩ := first_of (p := fun n => P.roundV (P.iterV n) = P.iterV n) n hn
 exact ⟨m, P.iterV m, rfl, hm, hf⟩
theorem LeastAt.few {P : PP} (hw : P.Well) {n : Nat} {S : List (List Int)} (h : LeastAt P n S) : n ≤ 120000 := by
 have h1 := iter_total hw n fun m hm => h.first m hm
 have h2 := iter_few hw n
 omega
theorem made_nil (w : World) (N : Nat) : Made w (List.replicate N (.slice none 0 0)) (List.replicate N []) := by
 refine ⟨by simp, fun i v l hv hl => ?_⟩
 obtain rfl := List.eq_of_mem_replicate (List.mem_of_getElem? hv)
 obtain rfl := List.eq_of_mem_replicate (List.mem_of_getElem? hl)
 exact IntsT.nil w
set_option maxRecDepth 100000 in
set_option maxHeartbeats 3200000 in
theorem fixleast_ok (a1 a2 a3 : Option Addr) (c1 c2 c3 : Nat) (P : PP) (w : World) (ad : Nat → Addr) (h : PW w w.heap.size ad a1 a2 a3 c1 c2 c3 P) (hS : ErrS w ad) (n : Nat) (S : List (List Int)) (hL : LeastAt P n S) :
  Calls Tryz.prog 20 #[pval a1 a2 a3 c1 c2 c3 P] w fun e w' => ∃ a c, e = .returned (.tuple #[.slice a P.nodesV c, .int .i64 (n : Int), .nilIface]) ∧ SetsR w' w'.heap.size (.slice a P.nodesV c) S ∧ Ext w w' := by
 have Hw := hid h.well
 have HLe := hid hL
 have hn12 := hL.few h.well
 obtain ⟨hf1, hf2, hf3⟩ := h.well.few
 obtain ⟨W, hW⟩ : ∃ W, W = w.alloc (.cells (pcells a1 a2 a3 c1 c2 c3 P) 26) := ⟨_, rfl⟩
 have HX : Hid (Ext w W) := hid (by rw [hW]; exact (Ext.refl _).alloc _)
 have HBx : Hid (Blk W w.heap.size (pcells a1 a2 a3 c1 c2 c3 P) 26) := hid (by rw [hW]; exact Blk.new _ _ _)
 have HWe : Hid (W = w.alloc (.cells #[.slice a1 P.vars.length c1, .slice a2 P.funs.length c2, .slice a3 P.stmts.length c3] 26)) := hid (by rw [hW]; rfl)
 have HK := hid (check_well (h.errs.ext HX.out) (h.prog.ext HX.out) h.z1 h.z2 h.well)
 have HNo := fun w1 (x : Ext w w1) => hid (prognodes_any a1 a2 a3 c1 c2 c3 P w1 w.heap.size ad (h.errs.ext x) (h.prog.ext x) h.z1 h.z2 h.well)
 have HPW := hid h
 have HS := hid hS
 have hN6 := nodesV_le P h.well
 have HRo := fun w1 (x : Ext w w1) hv has (hh : SetsR w1 w1.heap.size hv has) (hg : P.GoodS has) => hid (fixround_ok a1 a2 a3 c1 c2 c3 P hv has w1 ad ((HPW.out.ext x).lift x.size) (HS.out.ext x) hh hg)
 have HGd := fun k => hid (iterV_good h.well k)
 obtain ⟨N, hN⟩ : ∃ N, N = P.nodesV := ⟨_, rfl⟩
 rw [← hN] at HNo hN6 ⊢
 have HN := hid hN
 have d0 := HBx.out.av 0 rfl
 have d1 := HBx.out.av 1 rfl
 have d2 := HBx.out.av 2 rfl
 simp only [pcells, qA0, qA1, qA2] at d0 d1 d2
 rw [HWe.out] at d0 d1 d2
 unfold pval at HK HNo HRo ⊢
 clear hW h hS hL hN
 go_enter Tryz.func20, Tryz.ntmps20
 go_wp2_with fail
 rw [← HWe.out]
 refine HK.out.mono ?_
 intro e w1 hx
 obtain ⟨rfl, hx1⟩ := hx
 have Hx1 := hid hx1
 have HN1 := HNo w1 (HX.out.trans hx1)
 clear HK hx1 d0 d1 d2 HNo
 have d0 := (HBx.out.ext Hx1.out).av 0 rfl
 have d1 := (HBx.out.ext Hx1.out).av 1 rfl
 have d2 := (HBx.out.ext Hx1.out).av 2 rfl
 simp only [pcells, qA0, qA1, qA2] at d0 d1 d2
 go_wp2_with fail
 refine HN1.out.mono ?_
 intro e w2 hx
 obtain ⟨rfl, hx2⟩ := hx
 have Hx2 := hid (Hx1.out.trans hx2)
 obtain ⟨bi, hbi, hbz, hbs, hbb⟩ := info_parts rows_info
 clear HN1 hx2 d0 d1 d2
 go_wp2_with (at_make; refine wpList_make_full w2 rfl _ _ _ rfl w2.heap.size 43 bi (.slice none 0 0) 1 Tryz.underlying39 hbi hbz hbs .i64 .i64 (N : Int) (N : Int) N rfl rfl rfl rfl (by rw [hbb]; omega) (by unfold maxLen; omega) (Nat.le_refl _) ?_; intro w3 hrow hgr)
 have hx3 : Ext w2 w3 := Keep.new (Ext.refl w2) (grown_keep hgr) (fun k hk => by cases hk)
 rw [show (Value.slice none 0 0).cells = #[Value.slice none 0 0] from rfl, toList_madeCells_one, Nat.mul_one] at hrow
 have Hx3 := hid (Hx2.out.trans hx3)
 have HS0 : Hid (SetsR w3 w3.heap.size (.slice (some ⟨w2.heap.size, 0, none⟩) N N) (P.iterV 0)) := hid (by
  have h1 := SetsR.made (v := .slice (some ⟨w2.heap.size, 0, none⟩) N N) (L := List.replicate N []) (by rw [List.length_replicate]; exact hrow) (made_nil w3 N)
  have e0 : P.iterV 0 = List.replicate N [] := by rw [HN.out]; rfl
  exact e0 ▸ h1)
 clear hrow hgr hx3 hbi hbz hbs hbb
 go_wp2
 go_loopw [6, 7] (fun t6 t7 wr => ∃ (k : Nat) (a : Option Addr) (c : Nat), t7 = .int .i64 (k : Int) ∧ t6 = .slice a N c ∧ k ≤ n ∧ SetsR wr wr.heap.size (.slice a N c) (P.iterV k) ∧ Ext W wr) (fun _ t7 _ => 200000 - (intOf t7).toNat)
 case atStart => exact ⟨0, _, _, rfl, rfl, Nat.zero_le _, HS0.out, Hx3.out⟩
 case round =>
  clear HS0 Hx3
  obtain ⟨k, a, c, rfl, rfl, hk, hs, hx⟩ := hrel
  have Hx := hid hx
  have Hs := hid hs
  have hlen : (P.iterV k).length = N := by rw [HN.out]; exact (HGd k).out.2.1
  have HC := HRo wr (HX.out.trans hx) (.slice a N c) (P.iterV k) hs (HGd k).out
  have d0 := (HBx.out.ext hx).av 0 rfl
  have d1 := (HBx.out.ext hx).av 1 rfl
  have d2 := (HBx.out.ext hx).av 2 rfl
  simp only [pcells, qA0, qA1, qA2] at d0 d1 d2
  rw [hlen] at HC
  clear hs hx hlen HRo
  go_wp2_with fail
  refine HC.out.mono ?_
  intro e w5 hx
  obtain ⟨a5, c5, rfl, hs5, hx5⟩ := hx
  have Hx5 := hid (Hx.out.trans hx5)
  have Hs5 := hid hs5
  have Hso := hid ((Hs.out.ext hx5).lift hx5.size)
  have HSm := hid (fixsame_any (.slice a5 N c5) (.slice a N c) (P.roundV (P.iterV k)) (P.iterV k) w5 w5.heap.size hs5 ((Hs.out.ext hx5).lift hx5.size))
  obtain ⟨d, hd⟩ : ∃ d, d = decide (P.roundV (P.iterV k) = P.iterV k) := ⟨_, rfl⟩
  rw [← hd] at HSm
  have Hd := hid hd
  clear HC hs5 hx5 d0 d1 d2 hd
  go_wp2_with fail
  refine HSm.out.mono ?_
  intro e w6 hx
  obtain ⟨rfl, hx6⟩ := hx
  have Hx6 := hid (Hx5.out.trans hx6)
  have Hs6 := hid ((Hs5.out.ext hx6).lift hx6.size)
  have Hso6 := hid ((Hso.out.ext hx6).lift hx6.size)
  clear HSm
  cases d with
  | true =>
   have hfix : P.roundV (P.iterV k) = P.iterV k := of_decide_eq_true Hd.out.symm
   have hkn : k = n := by
    rcases Nat.lt_or_ge k n with g | g
    ·exact absurd hfix (HLe.out.first k g)
    ·omega
   subst hkn
   have HF : Hid (SetsR w6 w6.heap.size (.slice a N c) S) := hid (by
    rw [HLe.out.eq]
    exact Hso6.out)
   clear hx6 hfix
   go_wp2
   refine bodyPost_ret (v := .tuple #[.slice a N c, .int .i64 (k : Int), .nilIface]) (by simp [results, Tryz.results20, go_sem]) rfl ?_
   exact ⟨a, c, rfl, HF.out, HX.out.trans Hx6.out⟩
  | false =>
   have hne : P.roundV (P.iterV k) ≠ P.iterV k := of_decide_eq_false Hd.out.symm
   have hkn : k < n := by
    rcases Nat.lt_or_ge k n with g | g
    ·exact g
    ·obtain rfl : k = n := by omega
     exact absurd (by rw [← HLe.out.eq]; exact HLe.out.fix) hne
   have Hs7 : Hid (SetsR w6 w6.heap.size (.slice a5 N c5) (P.iterV (k + 1))) := hid Hs6.out
   clear hx6 hne
   go_wp2
   go_roundw
   case rel => exact ⟨k + 1, a5, c5, by go_num, rfl, by omega, Hs7.out, Hx6.out⟩
   case measure => simp [intOf]; omega
end Go.Proofs.YtngdpnlgnpdkcaaGreatDoor
namespace Go.Proofs.YtngdpnlgnpdkcaaGreatDoor
open Go Go.RowKit
open Go.Maps (Keyed)
theorem WhyOk.low {P : PP} {S : List (List Int)} {l : List ST} (h : WhyOk P S l) : LowL l := fun j s hs => by
 obtain ⟨k, _, _, h3⟩ := h.fol j s hs
 rcases h3 with ⟨_, _, g1, g2⟩ | ⟨_, g1, f, _, g2, g3, _⟩ | ⟨_, f, _, v, _, g1, g2, _, _, g3, g4, _⟩ <;> omega
def roundUp (P : PP) (l : List ST) (k : Nat) : List ST := (P.rulesV.take k).foldl (ruleS P) l
theorem roundUp_succ {P : PP} {l : List ST} {k : Nat} {r : RV} (h : P.rulesV[k]? = some r) : roundUp P l (k + 1) = ruleS P (roundUp P l k) r := by
 unfold roundUp
 rw [List.take_add_one, h, List.foldl_append]; rfl
theorem roundUp_pre (P : PP) (l : List ST) (k : Nat) : l <+: roundUp P l k := fold_pre (ruleS_pre P) _ l
theorem roundUp_all (P : PP) (l : List ST) : roundUp P l P.rulesV.length = roundS P l := by unfold roundUp; rw [List.take_length]; rfl
theorem WhyOk.roundUp {P : PP} {S : List (List Int)} {l : List ST} (h : WhyOk P S l) (hg : P.GoodS S) (hc : ClosedP P S) (k : Nat) : WhyOk P S (Go.Proofs.YtngdpnlgnpdkcaaGreatDoor.roundUp P l k) := WhyOk.rules hg hc _ h fun _ hr => List.mem_of_mem_take hr
def whyLen (w : World) (g : Nat) : Nat := match w.cell? ⟨g, 4, none⟩ with | some (.slice _ n _) => n | _ => 0
theorem FindAt.len {w : World} {G F : Nat → Prop} {g : Nat} {ad : Nat → Addr} {P : PP} {vr : Value} {l : List ST} (h : FindAt w G F g ad P vr l) : whyLen w g = l.length := by
 obtain ⟨_, _, _, _, _, _, vl, _, _, h⟩ := h
 obtain ⟨a, c, rfl⟩ := row_form h.lrow
 have b4 := h.blk.av 4 rfl
 simp only [qA0, qA1, qA2] at b4
 unfold whyLen
 rw [b4]
def findMes (v : Value) (w : World) (g : Nat) : Nat := 2 * (16000 - whyLen w g) + match v with | .bool true => 1 | _ => 0
theorem findB_new {w : World} {n1 : Nat} {ad : Nat → Addr} {a1 a2 a3 : Option Addr} {c1 c2 c3 : Nat} {P : PP} (h : PWF w (fun b => b < n1) ad a1 a2 a3 c1 c2 c3 P) (hn : n1 = w.heap.size) (vr : Value) :
  FindB ((w.alloc (.map #[] 0)).alloc (.cells #[.slice a1 P.vars.length c1, .slice a2 P.funs.length c2, .slice a3 P.stmts.length c3, vr, .slice none 0 0, .map (some w.heap.size)] 85)) (fun b => b < n1) (fun b => b < n1) (w.heap.size + 1) ad a1 a2 a3 c1 c2 c3 P vr (.slice none 0 0) w.heap.size (fun _ => none) [] := by
 obtain ⟨wA, hA⟩ : ∃ wA, wA = w.alloc (.map #[] 0) := ⟨_, rfl⟩
 have sA : wA.heap.size = w.heap.size + 1 := by rw [hA, heap_size_alloc]
 have xA : Ext w wA := by rw [hA]; exact (Ext.refl _).alloc _
 have k1 : KMap Tryz.prog 91 twoV wA w.heap.size (fun _ => none) := by rw [hA]; exact KMap.new _ _ _ _
 rw [← hA]
 obtain ⟨wC, hC⟩ : ∃ wC, wC = wA.alloc (.cells #[.slice a1 P.vars.length c1, .slice a2 P.funs.length c2, .slice a3 P.stmts.length c3, vr, .slice none 0 0, .map (some w.heap.size)] 85) := ⟨_, rfl⟩
 have xC : Ext wA wC := by rw [hC]; exact (Ext.refl _).alloc _
 have hb : Blk wC (w.heap.size + 1) #[.slice a1 P.vars.length c1, .slice a2 P.funs.length c2, .slice a3 P.stmts.length c3, vr, .slice none 0 0, .map (some w.heap.size)] 85 := by rw [← sA, hC]; exact Blk.new _ _ _
 rw [← hC]
 have xx := xA.trans xC
 have hsz := xx.size
 exact ⟨hb, show ¬ (w.heap.size + 1 < n1) by omega, fun _ h => h, fun b hb => Nat.lt_of_lt_of_le (show b < w.heap.size from hn ▸ hb) hsz, h.ext xx, World.ownsRow_nil _ _ _ _, fun _ h => (by cases h), k1.ext xC, show ¬ (w.heap.size < n1) by omega, ⟨fun i s h => by simp at h, fun _ _ => rfl⟩⟩
theorem key_wfact2 {n o : Int} (h1 : (Lit.int .i64 n).wf = true) (h2 : (Lit.int .i64 o).wf = true) : ∃ l, keyOf Tryz.prog 91 (twoV (n, o)) = some l :=
 ⟨_, keyOf_two Tryz.underlying91 rfl rfl rfl rfl (by kernel_rfl) (by kernel_rfl) (by kernel_rfl) (by kernel_rfl) Tryz.underlying3 (by kernel_rfl) (m := 306 - 1) (by kernel_rfl) h1 h2⟩
def FoundW (P : PP) (S : List (List Int)) (base : Nat) (none6 : Value) (n o : Int) (e : Ending) (w' : World) : Prop := ∃ l, WhyOk P S l ∧ roundS P l = l ∧
 (((n, o) ∉ facts l ∧ e = .returned (.tuple #[.slice none 0 0, none6])) ∨
  ∃ (i : Nat) (s : ST) (M : List Int) (v : Value), l[i]? = some s ∧ s.fact = (n, o) ∧ Marked l M i ∧ e = .returned (.tuple #[v, .nilIface]) ∧ w'.ownsRow base 47 5 v (neededUp l M l.length).length ((neededUp l M l.length).flatMap stCells))
set_option maxRecDepth 100000 in
set_option maxHeartbeats 6400000 in
theorem whyfind_any (a1 a2 a3 : Option Addr) (c1 c2 c3 : Nat) (P : PP) (S : List (List Int)) (n o : Int) (w : World) (ad : Nat → Addr) (h : PW w w.heap.size ad a1 a2 a3 c1 c2 c3 P) (h6 : w.cell? ⟨0, 0, none⟩ = some (.iface 273 (.pointer (some (ad 6))))) (hg : P.GoodS S) (hc : ClosedP P S) (hn : (Lit.int .i64 n).wf = true) (ho : (Lit.int .i64 o).wf = true) :
  Calls Tryz.prog 10 #[pval a1 a2 a3 c1 c2 c3 P, .int .i64 n, .int .i64 o] w fun e w' => FoundW P S w.heap.size (.iface 273 (.pointer (some (ad 6)))) n o e w' ∧ Ext w w' := by
 obtain ⟨W, hW⟩ : ∃ W, W = w.alloc (.cells (pcells a1 a2 a3 c1 c2 c3 P) 26) := ⟨_, rfl⟩
 have HX : Hid (Ext w W) := hid (by rw [hW]; exact (Ext.refl _).alloc _)
 have HBx : Hid (Blk W w.heap.size (pcells a1 a2 a3 c1 c2 c3 P) 26) := hid (by rw [hW]; exact Blk.new _ _ _)
 have HWe : Hid (W = w.alloc (.cells #[.slice a1 P.vars.length c1, .slice a2 P.funs.length c2, .slice a3 P.stmts.length c3] 26)) := hid (by rw [hW]; rfl)
 have HPW := hid (h.ext HX.out)
 have HR0 := hid (consof_yes a1 a2 a3 c1 c2 c3 P W w.heap.size ad HPW.out)
 have Hg := hid hg
 have Hc := hid hc
 have H6 := hid h6
 obtain ⟨lk, hlk⟩ := key_wfact2 hn ho
 have Hlk := hid hlk
 have p0 := HBx.out.av 0 rfl
 have p1 := HBx.out.av 1 rfl
 have p2 := HBx.out.av 2 rfl
 simp only [pcells, qA0, qA1, qA2] at p0 p1 p2
 rw [HWe.out] at p0 p1 p2
 unfold pval
 unfold pval at HR0
 clear hW h h6 hg hc hn ho hlk
 go_enter Tryz.func10, Tryz.ntmps10
 go_wp2_with fail
 rw [← HWe.out]
 refine HR0.out.mono ?_
 intro e w1 hx
 obtain ⟨v, rs, rfl, hT, hx1⟩ := hx
 obtain ⟨ar, cr, rfl⟩ := row_form hT.row
 have Hx1 := hid hx1
 have HT := hid hT
 have HPF : Hid (PWF w1 (fun b => b < w1.heap.size) ad a1 a2 a3 c1 c2 c3 P) := hid (PWF.of (HPW.out.ext hx1) (HX.out.trans hx1).size)
 have HF0 := hid (findB_new HPF.out rfl (.slice ar P.rulesV.length cr))
 obtain ⟨W5, hW5⟩ : ∃ W5, W5 = ((w1.alloc (.map #[] 0)).alloc (.cells #[.slice a1 P.vars.length c1, .slice a2 P.funs.length c2, .slice a3 P.stmts.length c3, .slice ar P.rulesV.length cr, .slice none 0 0, .map (some w1.heap.size)] 85)) := ⟨_, rfl⟩
 rw [← hW5] at HF0
 have HX5 : Hid (Ext w1 W5) := hid (by rw [hW5]; exact ((Ext.refl _).alloc _).alloc _)
 have HW5 := hid hW5
 have hmm := @run_makeMap Tryz.prog
 have hrl : P.rulesV.length ≤ 80 := by
  have := HPF.out.well.few
  unfold PP.rulesV PP.rulesUp
  rw [List.length_map, List.length_range]
  omega
 clear p0 p1 p2
 have p0 := (HBx.out.ext hx1).av 0 rfl
 have p1 := (HBx.out.ext hx1).av 1 rfl
 have p2 := (HBx.out.ext hx1).av 2 rfl
 simp only [pcells, qA0, qA1, qA2] at p0 p1 p2
 clear HR0 hx1 hT hW5
 go_wp2
 rw [← HW5.out]
 clear p0 p1 p2 hmm
 obtain ⟨g, hgd⟩ : ∃ g, g = w1.heap.size + 1 := ⟨_, rfl⟩
 rw [← hgd] at HF0
 rw [← hgd]
 obtain ⟨F, hF⟩ : ∃ F : Nat → Prop, F = fun b => b < w1.heap.size := ⟨_, rfl⟩
 rw [← hF] at HF0
 have HFb : Hid (∀ b, b < w1.heap.size → F b) := hid fun b hb => by rw [hF]; exact hb
 have HFl : Hid (∀ b, F b → b < w1.heap.size) := hid fun b hb => by rw [hF] at hb; exact hb
 clear hgd hF
 go_loopw [11] (fun t11 wr => ∃ (b : Bool) (l : List ST), t11 = .bool b ∧ FindAt wr F F g ad P (.slice ar P.rulesV.length cr) l ∧ WhyOk P S l ∧ (b = false → roundS P l = l) ∧ Keep (fun b => ¬ F b) W5 wr) (fun t11 wr => findMes t11 wr g)
 case atStart => exact ⟨true, [], rfl, ⟨_, _, _, _, _, _, _, _, _, HF0.out⟩, WhyOk.nil P S, fun h => (by cases h), Keep.refl _ _⟩
 case round =>
  clear HF0
  obtain ⟨b, l, rfl, hS, hW, hfix, hK⟩ := hrel
  have HWo := hid hW
  have HKo := hid hK
  have HSo := hid hS
  obtain ⟨wO, hwO⟩ : ∃ x, x = wr := ⟨_, rfl⟩
  subst hwO
  clear hW hK
  cases b with
  | true =>
   clear hfix hS
   go_wp2
   go_loopw [11, 32] (fun t11 t32 wr => ∃ k : Nat, t32 = .int .i64 (k : Int) ∧ k ≤ P.rulesV.length ∧ t11 = .bool (decide (l.length < (roundUp P l k).length)) ∧ FindAt wr F F g ad P (.slice ar P.rulesV.length cr) (roundUp P l k) ∧ Keep (fun b => ¬ F b) wO wr) (fun _ t32 _ => P.rulesV.length - (intOf t32).toNat)
   case atStart => exact ⟨0, rfl, Nat.zero_le _, by unfold roundUp; rw [List.take_zero, List.foldl_nil, decide_eq_false (Nat.lt_irrefl _)], HSo.out, Keep.refl _ _⟩
   case round =>
    obtain ⟨k, rfl, hk, rfl, hS, hK⟩ := hrel
    by_cases hlt : k < P.rulesV.length
    ·have hrs : rs.length = P.rulesV.length := by rw [← HT.out.eq, List.length_map]
     obtain ⟨x, hx⟩ : ∃ x, rs[k]? = some x := ⟨_, List.getElem?_eq_getElem (by omega)⟩
     have hrx : P.rulesV[k]? = some x.r := by rw [← HT.out.eq, List.getElem?_map, hx]; rfl
     have Hrx := hid hrx
     have HKK := hid ((HKo.out.trans hK))
     have hrow := row_keep (own_ext HT.out.row HX5.out) HKK.out fun b hb hx => hx (HFb.out b (World.ownsRow.lt HT.out.row b hb).2)
     obtain ⟨g8, cp8, hge⟩ := own_some hrow (by omega)
     simp only [Value.slice.injEq] at hge
     obtain ⟨rfl, -, rfl⟩ := hge
     have hit := HT.out.args x (List.mem_of_getElem? hx)
     obtain ⟨aa, ca, hxv⟩ := hit.form
     obtain ⟨q0, q1, q2, q3, q4⟩ := own_rr hrow hx
     rw [hxv] at q4
     have hif : IntsF w1 F (.slice aa x.r.args.length ca) x.r.args := IntsF.ofR (by rw [← hxv]; exact hit.1) HFb.out
     obtain ⟨wA, hwA⟩ : ∃ wA, wA = wr.alloc (.cells #[.string x.r.kind, .int .i64 x.r.a, .int .i64 x.r.b, .int .i64 x.r.k, .slice aa x.r.args.length ca] 87) := ⟨_, rfl⟩
     have hxA : Ext wr wA := by rw [hwA]; exact (Ext.refl _).alloc _
     have hfa : IntsF wA F (.slice aa x.r.args.length ca) x.r.args := ((hif.keep (HX5.out.keep fun _ => False) (fun _ _ h => h) fun _ h => h).keep HKK.out (fun b h hx => hx h) fun _ h => h).keep (hxA.keep fun _ => False) (fun _ _ h => h) fun _ h => h
     have HE := hid (whyrule_any P S (roundUp P l k) x.r aa ca wA F F g ad (hS.ext hxA) (HWo.out.roundUp Hg.out Hc.out k) Hg.out Hc.out (List.mem_of_getElem? hrx) hfa)
     unfold RV.val at HE
     have Hs : Hid (roundUp P l (k + 1) = ruleS P (roundUp P l k) x.r) := hid (roundUp_succ hrx)
     have Hl1 := hid (roundUp_pre P l k).length_le
     have Hl2 := hid (ruleS_pre P (roundUp P l k) x.r).length_le
     have HxA := hid hxA
     have HwA := hid hwA
     have HK1 := hid hK
     clear hS hK hrow hit hif hfa hxv hx hrx hrs hxA hwA
     go_wp2_with fail
     rw [← HwA.out]
     refine HE.out.mono ?_
     intro z w8 hz
     obtain ⟨rfl, hS8, hK8⟩ := hz
     have HS8 := hid hS8
     have HK8 := hid hK8
     clear hS8 hK8 HE q0 q1 q2 q3 q4
     have Hbe : Hid (l.length < (roundUp P l (k + 1)).length ↔ ((roundUp P l k).length < (ruleS P (roundUp P l k) x.r).length ∨ l.length < (roundUp P l k).length)) := hid (by
      rw [Hs.out]
      have h1 := Hl1.out
      have h2 := Hl2.out
      omega)
     cases hd : decide ((roundUp P l k).length < (ruleS P (roundUp P l k) x.r).length) with
     | true =>
      go_wp2
      go_roundw
      case rel =>
       refine ⟨k + 1, by go_num, by omega, ?_, ?_, ?_⟩
       ·rw [decide_eq_true (Hbe.out.2 (.inl (of_decide_eq_true hd)))]
       ·rw [Hs.out]; exact HS8.out
       ·exact (HK1.out.ext_r HxA.out).trans HK8.out
      case measure => simp [intOf]; omega
     | false =>
      go_wp2
      go_roundw
      case rel =>
       refine ⟨k + 1, by go_num, by omega, ?_, ?_, ?_⟩
       ·congr 1
        exact decide_eq_decide.2 ⟨fun h => Hbe.out.2 (.inr h), fun h => (Hbe.out.1 h).resolve_left (of_decide_eq_false hd)⟩
       ·rw [Hs.out]; exact HS8.out
       ·exact (HK1.out.ext_r HxA.out).trans HK8.out
      case measure => simp [intOf]; omega
    ·obtain rfl : k = P.rulesV.length := by omega
     rw [roundUp_all] at hS ⊢
     have HSz := hid hS
     have HKz := hid hK
     have HWz := hid (HWo.out.round Hg.out Hc.out)
     clear hS hK
     go_wp2
     go_roundw
     case rel =>
      refine ⟨_, roundS P l, rfl, HSz.out, HWz.out, fun h => ?_, HKo.out.trans HKz.out⟩
      have h1 := of_decide_eq_false h
      have h2 := roundS_pre P l
      have h3 : l = roundS P l := h2.eq_of_length (Nat.le_antisymm h2.length_le (by omega))
      rw [← h3, ← h3]
     case measure =>
      have h1 := HSo.out.len
      have h2 := HSz.out.len
      have h3 := (roundS_pre P l).length_le
      have h4 := HWz.out.few Hg.out
      unfold findMes
      rw [h1, h2]
      by_cases hd : l.length < (roundS P l).length
      ·rw [decide_eq_true hd]; simp only; omega
      ·rw [decide_eq_false hd]; simp only; omega
  | false =>
   have Hfix := hid (hfix rfl)
   obtain ⟨b1, b2, b3, d1, d2, d3, vl, m, f, h⟩ := hS
   have HB := hid h
   have b4 := h.blk.av 4 rfl
   have b5 := h.blk.av 5 rfl
   simp only [qA0, qA1, qA2] at b4 b5
   have hL := look_at h.map Hlk.out
   simp only at hL
   by_cases hin : (n, o) ∈ facts l
   ·obtain ⟨s, hs, hse⟩ := List.mem_map.1 hin
    obtain ⟨i, hi⟩ := List.getElem?_of_mem hs
    have hil := (List.getElem?_eq_some_iff.1 hi).1
    have hf : f (n, o) = some (.int .i64 (i : Int)) := by rw [← hse]; exact h.at_.at_ i s hi
    rw [hf] at hL
    simp only [Option.getD_some, Option.isSome_some] at hL
    have HN := hid (needed_any vl l i wO h.lrow hil (Nat.le_trans (HWo.out.few Hg.out) (by decide)) HWo.out.low)
    have Hi := hid hi
    have Hse := hid hse
    obtain ⟨al, cl, rfl⟩ := row_form h.lrow
    clear h hfix hs hse hi hf hin hil
    go_wp2_with fail
    refine HN.out.mono ?_
    intro z w8 hz
    obtain ⟨v', M, rfl, hMk, hrow, hx8⟩ := hz
    have HMk := hid hMk
    have Hrow := hid hrow
    have Hx8 := hid hx8
    clear hMk hrow hx8 HN hL b4 b5
    go_wp2
    go_ret2
    refine ⟨⟨l, HWo.out, Hfix.out, .inr ⟨i, s, M, v', Hi.out, Hse.out, HMk.out, rfl, own_low Hrow.out ?_⟩⟩, ?_⟩
    ·exact Nat.le_trans ((HX.out.trans Hx1.out).trans HX5.out).size HKo.out.size
    ·refine (Keep.new ((HX.out.trans Hx1.out).trans HX5.out) HKo.out fun b hb => ?_).trans Hx8.out
     rcases Nat.lt_or_ge b w1.heap.size with g1 | g1
     ·exact absurd (HFb.out b g1) hb
     ·exact Nat.le_trans (HX.out.trans Hx1.out).size g1
   ·have hf : f (n, o) = none := h.at_.no _ hin
    rw [hf] at hL
    simp only [Option.getD_none, Option.isSome_none] at hL
    have Hno := hid hin
    have HXo : Hid (Ext w wO) := hid (Keep.new ((HX.out.trans Hx1.out).trans HX5.out) HKo.out fun b hb => by
     rcases Nat.lt_or_ge b w1.heap.size with g1 | g1
     ·exact absurd (HFb.out b g1) hb
     ·exact Nat.le_trans (HX.out.trans Hx1.out).size g1)
    have e6 : ∀ wx, Keep (fun _ => False) wO wx → wx.cell? ⟨0, 0, none⟩ = some (.iface 273 (.pointer (some (ad 6)))) := fun wx kk => kk.ext.cellx (HXo.out.cellx H6.out)
    clear h hfix hin hf
    go_wp2
    refine wp_flowT (fun _ => False) (by kernel_rfl) (by kernel_rfl) ?_
    repeat (apply FlowT.d; (intro w1 hk; unfold does; go_simp; (try go_ints); (first | exact DetR.mk | (simp only [↓IntWalk.iteOmega, Oper.doesUpon_value]; exact DetR.mk) | (simp only [↓IntWalk.iteOmega]; go_simp; (try go_ints); exact DetR.mk))); simp only [Act.put, qS0, qS1, qS2])
    refine FlowT.fin fun w8 hx8 hk8 => ?_
    have Hx8 := hid hx8
    clear hx8 hk8 hL b4 b5 e6
    go_wp2
    go_ret2
    exact ⟨⟨l, HWo.out, Hfix.out, .inl ⟨Hno.out, rfl⟩⟩, HXo.out.trans Hx8.out⟩
end Go.Proofs.YtngdpnlgnpdkcaaGreatDoor
namespace Go.Proofs.YtngdpnlgnpdkcaaGreatDoor
open Go Go.RowKit
def boundV (P : PP) (s : ST) (i : Int) : Bool := (decide (0 ≤ s.stmt) && decide (s.stmt < P.stmts.length)) && (decide (-1 ≤ s.frm) && decide (s.frm < i)) && (decide (-1 ≤ s.via) && decide (s.via < i))
def stval (s : ST) : Value := .agg #[.int .i64 s.node, .int .i64 s.obj, .int .i64 s.stmt, .int .i64 s.frm, .int .i64 s.via]
set_option maxRecDepth 100000 in
set_option maxHeartbeats 3200000 in
theorem whybound_any (a1 a2 a3 : Option Addr) (c1 c2 c3 : Nat) (P : PP) (s : ST) (i : Int) (w : World) (hl : P.stmts.length ≤ 1000000) :
  Calls Tryz.prog 109 #[pval a1 a2 a3 c1 c2 c3 P, stval s, .int .i64 i] w fun e w' => e = .returned (.bool (boundV P s i)) ∧ Ext w w' := by
 obtain ⟨n, o, st, fr, vi⟩ := s
 obtain ⟨W1, hW1⟩ : ∃ W1, W1 = w.alloc (.cells #[.slice a1 P.vars.length c1, .slice a2 P.funs.length c2, .slice a3 P.stmts.length c3] 26) := ⟨_, rfl⟩
 obtain ⟨W, hW⟩ : ∃ W, W = W1.alloc (.cells #[.int .i64 n, .int .i64 o, .int .i64 st, .int .i64 fr, .int .i64 vi] 47) := ⟨_, rfl⟩
 have x1 : Ext w W1 := by rw [hW1]; exact (Ext.refl _).alloc _
 have x2 : Ext W1 W := by rw [hW]; exact (Ext.refl _).alloc _
 have HX := hid (x1.trans x2)
 have HWe : Hid (W = (w.alloc (.cells #[.slice a1 P.vars.length c1, .slice a2 P.funs.length c2, .slice a3 P.stmts.length c3] 26)).alloc (.cells #[.int .i64 n, .int .i64 o, .int .i64 st, .int .i64 fr, .int .i64 vi] 47)) := hid (by rw [hW, hW1])
 unfold pval stval
 clear hW hW1 x1 x2
 have HR : ∀ b1 b2 b3 b4 b5 b6 : Bool, decide (0 ≤ st) = b1 → decide (st < P.stmts.length) = b2 → decide (-1 ≤ fr) = b3 → decide (fr < i) = b4 → decide (-1 ≤ vi) = b5 → decide (vi < i) = b6 → boundV P ⟨n, o, st, fr, vi⟩ i = (b1 && b2 && (b3 && b4) && (b5 && b6)) := fun b1 b2 b3 b4 b5 b6 h1 h2 h3 h4 h5 h6 => by
  unfold boundV
  rw [h1, h2, h3, h4, h5, h6]
 have HRe := hid HR
 clear HR
 go_enter Tryz.func109, Tryz.ntmps109
 cases h1 : decide (0 ≤ st) <;> cases h2 : decide (st < P.stmts.length) <;> cases h3 : decide (-1 ≤ fr) <;> cases h4 : decide (fr < i) <;> cases h5 : decide (-1 ≤ vi) <;> cases h6 : decide (vi < i) <;>
 (have Hb := hid (HRe.out _ _ _ _ _ _ h1 h2 h3 h4 h5 h6)
  go_wp2
  go_ret
  rw [← HWe.out]
  exact ⟨by rw [Hb.out]; rfl, HX.out⟩)
def needsV (k : List UInt8) : Bool × Bool := (!(k == [98, 97, 115, 101]), (k == [108, 111, 97, 100]) || (k == [115, 116, 111, 114, 101]) || (k == [99, 97, 108, 108]))
set_option maxRecDepth 100000 in
set_option maxHeartbeats 3200000 in
theorem whyneeds_any (k : ByteArray) (w : World) : Calls Tryz.prog 110 #[.string k] w fun e w' => e = .returned (.tuple #[.bool (needsV k.toList).1, .bool (needsV k.toList).2]) ∧ Ext w w' := by
 unfold needsV
 go_enter Tryz.func110, Tryz.ntmps110
 cases h1 : (k.toList == [98, 97, 115, 101]) <;> cases h2 : (k.toList == [108, 111, 97, 100]) <;> cases h3 : (k.toList == [115, 116, 111, 114, 101]) <;> cases h4 : (k.toList == [99, 97, 108, 108]) <;>
 (go_wp2
  go_ret2
  exact ⟨rfl, Ext.refl _⟩)
set_option maxRecDepth 100000 in
set_option maxRecDepth 100000 in
set_option maxHeartbeats 1600000 in
theorem eindexe_any (v : Value) (l : List (Int × Int)) (e : Int × Int) (w : World) (base : Nat) (h : ERow base w v l) :
  Calls Tryz.prog 183 #[v, .agg #[.int .i64 e.1, .int .i64 e.2]] w fun x w' => ∃ r : Int, x = .returned (.int .i64 r) ∧ IdxR (e ∈ l) r ∧ Ext w w' := by
 obtain ⟨a, b⟩ := e
 obtain ⟨av, cv, rfl⟩ := row_form h
 have hml : (l.length : Int) ≤ 9223372036854775807 := by
  rcases h.2 with ⟨_, h⟩ | ⟨_, cap, _, _, _, _, h4, h5, _⟩
  ·omega
  ·simp only [maxLen] at h5; omega
 obtain ⟨W, hW⟩ : ∃ W, W = w.alloc (.cells #[.int .i64 a, .int .i64 b] 62) := ⟨_, rfl⟩
 have HX : Hid (Ext w W) := hid (by rw [hW]; exact (Ext.refl _).alloc _)
 have HBx : Hid (Blk W w.heap.size #[.int .i64 a, .int .i64 b] 62) := hid (by rw [hW]; exact Blk.new _ _ _)
 have HR := hid (h.ext HX.out)
 have HWe := hid hW
 clear h hW
 simp only
 go_enter Tryz.func183, Tryz.ntmps183
 go_wp2
 rw [← HWe.out]
 go_loopw [8] (fun t8 wr => ∃ k : Nat, t8 = .int .i64 (k : Int) ∧ k ≤ l.length ∧ (∀ j t, j < k → l[j]? = some t → ((a, b) : Int × Int) ≠ t) ∧ Ext W wr) (fun t8 _ => l.length - (intOf t8).toNat)
 case atStart => exact ⟨0, rfl, Nat.zero_le _, fun j t h => by omega, Ext.refl _⟩
 case round =>
  obtain ⟨k, rfl, hk, hne, hx⟩ := hrel
  have Hne := hid hne
  have Hx := hid hx
  clear hne hx
  by_cases hlt : k < l.length
  ·obtain ⟨⟨c, d⟩, hc⟩ : ∃ t, l[k]? = some t := ⟨_, List.getElem?_eq_getElem hlt⟩
   have hrow := HR.out.ext Hx.out
   obtain ⟨g8, cp8, hge⟩ := own_some hrow (by omega)
   simp only [Value.slice.injEq] at hge
   obtain ⟨rfl, -, rfl⟩ := hge
   have q0 : ∀ wx, Keep (fun _ => False) wr wx → wx.cell? ⟨g8, k * 2, none⟩ = some (.int .i64 c) := fun wx kk => (own_e2 (hrow.ext kk.ext) hc).1
   have q1 : ∀ wx, Keep (fun _ => False) wr wx → wx.cell? ⟨g8, k * 2 + 1, none⟩ = some (.int .i64 d) := fun wx kk => (own_e2 (hrow.ext kk.ext) hc).2
   have d0 := (HBx.out.ext Hx.out).kc (X := fun _ => False) (fun e => e) 0 rfl
   have d1 := (HBx.out.ext Hx.out).kc (X := fun _ => False) (fun e => e) 1 rfl
   simp only [qA0, qA1, qA2] at d0 d1
   have Hc := hid hc
   clear hrow hc
   go_wp2
   refine wp_flowT (fun _ => False) (by kernel_rfl) (by kernel_rfl) ?_
   repeat (apply FlowT.d; (intro w1 hk; unfold does; go_simp; (try go_ints); (first | exact DetR.mk | (simp only [↓IntWalk.iteOmega, Oper.doesUpon_value]; exact DetR.mk) | (simp only [↓IntWalk.iteOmega]; go_simp; (try go_ints); exact DetR.mk))); simp only [Act.put, qS0, qS1, qS2])
   refine FlowT.fin fun w2 hx2 hk2 => ?_
   have Hx2 := hid (Hx.out.trans hx2)
   clear hx2 hk2 q0 q1 d0 d1
   cases he : (a == c && b == d) with
   | true =>
    have hab : ((a, b) : Int × Int) = (c, d) := by simpa using he
    have Hin := hid (IdxR.yes (k := k) (show ((a, b) : Int × Int) ∈ l by rw [hab]; exact List.mem_of_getElem? Hc.out) (by omega))
    clear hab
    go_wp2
    go_ret
    exact ⟨(k : Int), rfl, Hin.out, HX.out.trans Hx2.out⟩
   | false =>
    have Hf : Hid (((a, b) : Int × Int) ≠ (c, d)) := hid fun h => by
     obtain ⟨rfl, rfl⟩ := Prod.mk.inj h
     simp at he
    go_wp2
    go_roundw
    case rel =>
     refine ⟨k + 1, by go_num, by omega, fun j u hj hu => ?_, Hx2.out⟩
     by_cases hjk : j = k
     ·subst hjk
      obtain rfl := Option.some.inj (Hc.out.symm.trans hu)
      exact Hf.out
     ·exact Hne.out j u (by omega) hu
    case measure => simp [intOf]; omega
  ·obtain rfl : k = l.length := by omega
   have Hnot := hid (IdxR.no (show ¬ ((a, b) : Int × Int) ∈ l from fun ht => by
    obtain ⟨j, hj⟩ := List.getElem?_of_mem ht
    exact Hne.out j _ (List.getElem?_eq_some_iff.1 hj).1 hj rfl))
   go_wp2
   go_ret
   exact ⟨(-1 : Int), rfl, Hnot.out, HX.out.trans Hx.out⟩
set_option maxRecDepth 100000 in
set_option maxHeartbeats 1600000 in
theorem econtainse_any (v : Value) (l : List (Int × Int)) (e : Int × Int) (w : World) (base : Nat) (h : ERow base w v l) :
  Calls Tryz.prog 169 #[v, .agg #[.int .i64 e.1, .int .i64 e.2]] w fun x w' => x = .returned (.bool (decide (e ∈ l))) ∧ Ext w w' := by
 obtain ⟨av, cv, rfl⟩ := row_form h
 obtain ⟨W, hW⟩ : ∃ W, W = w.alloc (.cells #[.int .i64 e.1, .int .i64 e.2] 62) := ⟨_, rfl⟩
 have HX : Hid (Ext w W) := hid (by rw [hW]; exact (Ext.refl _).alloc _)
 have H := hid (eindexe_any (.slice av l.length cv) l e W base (h.ext HX.out))
 have HWe := hid hW
 clear h hW
 go_enter Tryz.func169, Tryz.ntmps169
 go_wp2_with fail
 rw [← HWe.out]
 refine H.out.mono ?_
 intro x w1 hx
 obtain ⟨r, rfl, hiff, hx1⟩ := hx
 have hr := hiff.1
 have Hiff := hid hiff.2
 have Hx1 := hid (HX.out.trans hx1)
 clear hiff H hx1
 go_wp2
 go_ret
 refine ⟨congrArg (fun n => Ending.returned (Value.bool n)) ?_, Hx1.out⟩
 exact decide_eq_decide.2 Hiff.out
set_option maxRecDepth 100000 in
set_option maxHeartbeats 3200000 in
theorem whycalled_any (a1 a2 a3 : Option Addr) (c1 c2 c3 : Nat) (P : PP) (r : RV) (aa : Option Addr) (ca : Nat) (o : Int) (e : Int × Int) (w : World) (n0 : Nat) (ad : Nat → Addr) (h : PW w n0 ad a1 a2 a3 c1 c2 c3 P) (ho : 0 ≤ o ∧ o < 1000) (ha : IntsR w n0 (.slice aa r.args.length ca) r.args) :
  Calls Tryz.prog 143 #[pval a1 a2 a3 c1 c2 c3 P, r.val (.slice aa r.args.length ca), .int .i64 o, .int .i64 e.1, .int .i64 e.2] w fun x w' => x = .returned (.bool (decide (e ∈ P.callsOf r o))) ∧ Ext w w' := by
 have hw := h.well
 obtain ⟨W1, hW1⟩ : ∃ W1, W1 = w.alloc (.cells (pcells a1 a2 a3 c1 c2 c3 P) 26) := ⟨_, rfl⟩
 obtain ⟨W, hW⟩ : ∃ W, W = W1.alloc (.cells #[.string r.kind, .int .i64 r.a, .int .i64 r.b, .int .i64 r.k, .slice aa r.args.length ca] 87) := ⟨_, rfl⟩
 have x1 : Ext w W1 := by rw [hW1]; exact (Ext.refl _).alloc _
 have x2 : Ext W1 W := by rw [hW]; exact (Ext.refl _).alloc _
 have s1 : W1.heap.size = w.heap.size + 1 := by rw [hW1, heap_size_alloc]
 have HX := hid (x1.trans x2)
 have HBp : Hid (Blk W w.heap.size (pcells a1 a2 a3 c1 c2 c3 P) 26) := hid ((show Blk W1 w.heap.size _ 26 by rw [hW1]; exact Blk.new _ _ _).ext x2)
 have HBx : Hid (Blk W (w.heap.size + 1) #[.string r.kind, .int .i64 r.a, .int .i64 r.b, .int .i64 r.k, .slice aa r.args.length ca] 87) := hid (by rw [← s1, hW]; exact Blk.new _ _ _)
 have HWe : Hid (W = (w.alloc (.cells #[.slice a1 P.vars.length c1, .slice a2 P.funs.length c2, .slice a3 P.stmts.length c3] 26)).alloc (.cells #[.string r.kind, .int .i64 r.a, .int .i64 r.b, .int .i64 r.k, .slice aa r.args.length ca] 87)) := hid (by rw [hW, hW1]; rfl)
 have HPW := hid (h.ext HX.out)
 have Hw := hid hw
 have HA := hid (ha.old (HX.out.old n0))
 have al := ha.form
 have hal : (r.args.length : Int) ≤ 9223372036854775807 := by obtain ⟨a, cap, h1, h2, h3, _⟩ := ha; omega
 have HF := hid (progfun_any a1 a2 a3 c1 c2 c3 P o W n0 ad HPW.out ho)
 unfold pval at HF
 obtain ⟨Fn, hFn⟩ : ∃ Fn, Fn = P.funV o := ⟨_, rfl⟩
 rw [← hFn] at HF
 have HFe := hid hFn
 have p0 := HBp.out.av 0 rfl
 have p1 := HBp.out.av 1 rfl
 have p2 := HBp.out.av 2 rfl
 simp only [pcells, qA0, qA1, qA2] at p0 p1 p2
 rw [HWe.out] at p0 p1 p2
 unfold RV.val pval
 clear hFn h ha hw hW hW1 x1 x2 s1 al
 go_enter Tryz.func143, Tryz.ntmps143
 go_wp2_with fail
 rw [← HWe.out]
 refine HF.out.mono ?_
 intro x w1 hx
 obtain ⟨rfl, hx1⟩ := hx
 have Hx1 := hid hx1
 have HBx1 := hid (HBx.out.ext hx1)
 have HBp1 := hid (HBp.out.ext hx1)
 have HA1 := hid (HA.out.old (hx1.old n0))
 have HPW1 := hid (HPW.out.ext hx1)
 clear HF hx1 p0 p1 p2
 by_cases hF0 : 0 ≤ Fn
 ·obtain ⟨N, rfl⟩ := Int.eq_ofNat_of_zero_le hF0
  have hN : N < P.funs.length := by have := funV_lt (P := P) (o := o) (by rw [← HFe.out]; exact hF0); rw [← HFe.out] at this; omega
  obtain ⟨yf, f, afp, cfp, hyf, hfk, e0, e1, e2, hIp⟩ := HPW1.out.prog.funs.at hN
  subst hyf
  have hfm : f ∈ P.funs := List.mem_of_getElem? hfk
  have hpf := (PP.goodF (PP.funs_ok Hw.out.1) hfm).few
  obtain ⟨q, hq⟩ : ∃ q, q = calledV f r := ⟨_, rfl⟩
  have Hq : Hid (P.callsOf r o = q) := hid (by
   unfold PP.callsOf
   rw [if_pos (by rw [← HFe.out]; omega), ← HFe.out, hq]
   show calledV ((P.funs.getD N _)) r = _
   rw [List.getD_eq_getElem?_getD, hfk]; rfl)
  have HCl := fun wx (x : Ext w1 wx) => hid (conscalled_any f r (.slice afp f.params.length cfp) (.slice aa r.args.length ca) wx n0 (hIp.old (x.old _)) (HA1.out.old (x.old _)) (by omega))
  rw [← hq] at HCl
  unfold RV.val at HCl
  have f0 : ∀ wx, Keep (fun _ => False) w1 wx → wx.cell? (yf.add (N * 3)) = some (.string f.name) := fun wx kk => kk.ext.cellx e0
  have f1' : ∀ wx, Keep (fun _ => False) w1 wx → wx.cell? ⟨(yf.add (N * 3)).block, (yf.add (N * 3)).off + 1, none⟩ = some (.slice afp f.params.length cfp) := fun wx kk => kk.ext.cellx e1
  have f2 : ∀ wx, Keep (fun _ => False) w1 wx → wx.cell? ⟨(yf.add (N * 3)).block, (yf.add (N * 3)).off + 2, none⟩ = some (.int .i64 f.ret) := fun wx kk => kk.ext.cellx e2
  have b1 := HBp1.out.kc (X := fun _ => False) (fun e => e) 1 rfl
  have m0 := HBx1.out.kc (X := fun _ => False) (fun e => e) 0 rfl
  have m1' := HBx1.out.kc (X := fun _ => False) (fun e => e) 1 rfl
  have m2' := HBx1.out.kc (X := fun _ => False) (fun e => e) 2 rfl
  have m3 := HBx1.out.kc (X := fun _ => False) (fun e => e) 3 rfl
  have m4 := HBx1.out.kc (X := fun _ => False) (fun e => e) 4 rfl
  simp only [pcells, qA0, qA1, qA2] at b1 m0 m1' m2' m3 m4
  clear hfk e0 e1 e2 hIp hfm hq
  go_wp2
  refine wp_flow (fun _ => False) (by kernel_rfl) (by kernel_rfl) ?_
  apply Flow.d 0 _ rfl (by simp) (by kernel_rfl)
  ·intro w1 hk; unfold does; go_simp; (try go_ints); exact DetR.mk
  simp only [qA0, qA1, qA2, Act.put, qS0, qS1, qS2]
  apply Flow.d 1 _ rfl (by simp) (by kernel_rfl)
  ·intro w1 hk; unfold does; go_simp; (try go_ints); exact DetR.mk
  simp only [qA0, qA1, qA2, Act.put, qS0, qS1, qS2]
  apply Flow.d 2 _ rfl (by simp) (by kernel_rfl)
  ·intro w1 hk; unfold does; go_simp; (try go_ints); exact DetR.mk
  simp only [qA0, qA1, qA2, Act.put, qS0, qS1, qS2]
  apply Flow.d 3 _ rfl (by simp) (by kernel_rfl)
  ·intro w1 hk; unfold does; go_simp; (try go_ints); exact DetR.mk
  simp only [qA0, qA1, qA2, Act.put, qS0, qS1, qS2]
  apply Flow.d 4 _ rfl (by simp) (by kernel_rfl)
  ·intro w1 hk; unfold does; go_simp; (try go_ints); exact DetR.mk
  simp only [qA0, qA1, qA2, Act.put, qS0, qS1, qS2]
  apply Flow.d 5 _ rfl (by simp) (by kernel_rfl)
  ·intro w1 hk; unfold does; go_simp; (try go_ints); exact DetR.mk
  simp only [qA0, qA1, qA2, Act.put, qS0, qS1, qS2]
  apply Flow.d 6 _ rfl (by simp) (by kernel_rfl)
  ·intro w1 hk; unfold does; go_simp; (try go_ints); exact DetR.mk
  simp only [qA0, qA1, qA2, Act.put, qS0, qS1, qS2]
  apply Flow.d 7 _ rfl (by simp) (by kernel_rfl)
  ·intro w1 hk; unfold does; go_simp; (try go_ints); exact DetR.mk
  simp only [qA0, qA1, qA2, Act.put, qS0, qS1, qS2]
  apply Flow.d 8 _ rfl (by simp) (by kernel_rfl)
  ·intro w1 hk; unfold does; go_simp; (try go_ints); exact DetR.mk
  simp only [qA0, qA1, qA2, Act.put, qS0, qS1, qS2]
  apply Flow.d 10 _ rfl (by simp) (by kernel_rfl)
  ·intro w1 hk; unfold does; go_simp; (try go_ints); exact DetR.mk
  simp only [qA0, qA1, qA2, Act.put, qS0, qS1, qS2]
  apply Flow.d 11 _ rfl (by simp) (by kernel_rfl)
  ·intro w1 hk; unfold does; go_simp; (try go_ints); exact DetR.mk
  simp only [qA0, qA1, qA2, Act.put, qS0, qS1, qS2]
  apply Flow.d 12 _ rfl (by simp) (by kernel_rfl)
  ·intro w1 hk; unfold does; go_simp; (try go_ints); exact DetR.mk
  simp only [qA0, qA1, qA2, Act.put, qS0, qS1, qS2]
  refine Flow.one 9 _ rfl (by kernel_rfl) (fun v w' => (∃ a c, v = .slice a q.length c) ∧ ERow w.heap.size w' v q ∧ Ext w1 w') (fun _ _ _ ⟨h1, h2, h3⟩ y => ⟨h1, h2.ext y, h3.trans y⟩) (fun w2 hC hk2 => ?_) ?_
  ·unfold does
   go_simp
   refine CallR.act ((HCl w2 hC).out.mono ?_)
   rintro e w3 ⟨v, rfl, hr, hx⟩
   exact ⟨v, rfl, hk2.trans (hx.keep _), row_form hr, hr.low (HX.out.trans (Hx1.out.trans hC)).size, hC.trans hx⟩
  rintro _ ⟨_, ⟨a8, c8, rfl⟩, _, _⟩
  simp only [qA0, qA1, qA2, Act.put, qS0, qS1, qS2]
  refine Flow.one 13 _ rfl (by kernel_rfl) (fun v w' => v = .bool (decide (e ∈ q)) ∧ Ext w1 w') (fun _ _ _ ⟨h1, h3⟩ y => ⟨h1, h3.trans y⟩) (fun w2 hC hk2 => ?_) ?_
  ·obtain ⟨_, h5, h6⟩ := hC
   have HE := econtainse_any (.slice a8 q.length c8) q e w2 w.heap.size h5
   unfold does
   go_simp
   refine CallR.act (HE.mono ?_)
   rintro _ w3 ⟨rfl, hx⟩
   exact ⟨_, rfl, hk2.trans (hx.keep _), rfl, h6.trans hx⟩
  rintro _ ⟨_, rfl, _⟩
  simp only [qA0, qA1, qA2, Act.put, qS0, qS1, qS2]
  apply Flow.d 14 _ rfl (by simp) (by kernel_rfl)
  ·intro w1 hk; unfold does; go_simp; (try go_ints); exact DetR.mk
  simp only [qA0, qA1, qA2, Act.put, qS0, qS1, qS2]
  apply Flow.d 15 _ rfl (by simp) (by kernel_rfl)
  ·intro w1 hk; unfold does; go_simp; (try go_ints); exact DetR.mk
  simp only [qA0, qA1, qA2, Act.put, qS0, qS1, qS2]
  refine Flow.fin (by kernel_rfl) fun w4 hC4 hk4 => ?_
  obtain ⟨_, h6⟩ := hC4
  have Hx4 := hid (HX.out.trans (Hx1.out.trans h6))
  clear h6 hk4 HCl f0 f1' f2 b1 m0 m1' m2' m3 m4
  go_wp2
  go_ret
  exact ⟨by rw [Hq.out]; rfl, Hx4.out⟩
 ·have Hno : Hid (P.callsOf r o = []) := hid (by
   unfold PP.callsOf
   rw [if_neg (by rw [← HFe.out]; exact hF0)])
  have hF1 : Fn < 0 := by omega
  clear HFe
  go_wp2
  refine wp_flowT (fun _ => False) (by kernel_rfl) (by kernel_rfl) ?_
  repeat (apply FlowT.d; (intro w1 hk; unfold does; go_simp; (try go_ints); (first | exact DetR.mk | (simp only [↓IntWalk.iteOmega, Oper.doesUpon_value]; exact DetR.mk) | (simp only [↓IntWalk.iteOmega]; go_simp; (try go_ints); exact DetR.mk))); simp only [Act.put, qS0, qS1, qS2])
  refine FlowT.fin fun w4 hx4 hk4 => ?_
  have Hx4 := hid (HX.out.trans (Hx1.out.trans hx4))
  clear hx4 hk4
  go_wp2
  go_ret
  exact ⟨by rw [Hno.out]; rfl, Hx4.out⟩
def folB (P : PP) (r : RV) (s x y : ST) : Bool :=
 bif r.kind.toList == [98, 97, 115, 101] then (s.node == r.a) && (s.obj == r.b) else
 bif !(x.obj == s.obj) then false else
 bif r.kind.toList == [99, 111, 112, 121] then (x.node == r.a) && (s.node == r.b) else
 bif r.kind.toList == [108, 111, 97, 100] then (y.node == r.a) && (y.obj == x.node) && (s.node == r.b) else
 bif r.kind.toList == [115, 116, 111, 114, 101] then (y.node == r.b) && (y.obj == s.node) && decide (s.node < P.nodesV) && (x.node == r.a) else
 (y.node == r.a) && decide ((x.node, s.node) ∈ P.callsOf r y.obj)
def st0 : ST := ⟨0, 0, 0, 0, 0⟩
def shapeV (r : RV) (s : ST) : Bool := ((needsV r.kind.toList).1 == decide (0 ≤ s.frm)) && ((needsV r.kind.toList).2 == decide (0 ≤ s.via))
def stepE (P : PP) (L : List ST) (i : Nat) (s : ST) : Nat :=
 bif !boundV P s i then 2 else
 bif !shapeV (P.ruleV s.stmt.toNat (P.stAt s.stmt.toNat)) s then 3 else
 bif !folB P (P.ruleV s.stmt.toNat (P.stAt s.stmt.toNat)) s (L.getD s.frm.toNat st0) (L.getD s.via.toNat st0) then 6 else 0
theorem stepE_le (P : PP) (L : List ST) (i : Nat) (s : ST) : stepE P L i s ≤ 6 := by
 unfold stepE
 cases boundV P s i with
 | false => exact (by decide : 2 ≤ 6)
 | true =>
 cases shapeV (P.ruleV s.stmt.toNat (P.stAt s.stmt.toNat)) s with
 | false => exact (by decide : 3 ≤ 6)
 | true =>
 cases folB P (P.ruleV s.stmt.toNat (P.stAt s.stmt.toNat)) s (L.getD s.frm.toNat st0) (L.getD s.via.toNat st0) with
 | false => exact Nat.le_refl _
 | true => exact Nat.zero_le _
theorem stepE_zero {P : PP} {L : List ST} {i : Nat} {s : ST} : stepE P L i s = 0 ↔ boundV P s i = true ∧ shapeV (P.ruleV s.stmt.toNat (P.stAt s.stmt.toNat)) s = true ∧ folB P (P.ruleV s.stmt.toNat (P.stAt s.stmt.toNat)) s (L.getD s.frm.toNat st0) (L.getD s.via.toNat st0) = true := by
 unfold stepE
 cases boundV P s i with
 | false => exact ⟨fun h => (by cases h), fun h => (by cases h.1)⟩
 | true =>
 cases shapeV (P.ruleV s.stmt.toNat (P.stAt s.stmt.toNat)) s with
 | false => exact ⟨fun h => (by cases h), fun h => (by cases h.2.1)⟩
 | true =>
 cases folB P (P.ruleV s.stmt.toNat (P.stAt s.stmt.toNat)) s (L.getD s.frm.toNat st0) (L.getD s.via.toNat st0) with
 | false => exact ⟨fun h => (by cases h), fun h => (by cases h.2.2)⟩
 | true => exact ⟨fun _ => ⟨rfl, rfl, rfl⟩, fun _ => rfl⟩
theorem boundV_iff {P : PP} {s : ST} {i : Nat} : boundV P s i = true ↔ (0 ≤ s.stmt ∧ s.stmt < P.stmts.length) ∧ (-1 ≤ s.frm ∧ s.frm < i) ∧ (-1 ≤ s.via ∧ s.via < i) := by
 unfold boundV
 simp only [Bool.and_eq_true, decide_eq_true_eq]
 exact ⟨fun h => ⟨h.1.1, h.1.2, h.2⟩, fun h => ⟨⟨h.1, h.2.1⟩, h.2.2⟩⟩
def SoS (P : PP) (S : List (List Int)) (s : ST) : Prop := (0 ≤ s.node ∧ s.node < P.nodesV) ∧ s.obj ∈ S.getD s.node.toNat []
theorem beq_int' {a b : Int} (h : (a == b) = true) : a = b := eq_of_beq h
theorem getD_at {L : List ST} {f : Nat} (h : f < L.length) : L[f]? = some (L.getD f st0) := by
 rw [List.getD_eq_getElem?_getD, List.getElem?_eq_getElem h]; rfl
theorem stepE_fol {P : PP} {S : List (List Int)} {L : List ST} {i : Nat} {s : ST} (hg : P.GoodS S) (hc : ClosedP P S) (hs : L[i]? = some s) (hprev : ∀ (j : Nat) t, j < i → L[j]? = some t → SoS P S t) (h : stepE P L i s = 0) : FolS P L s i ∧ SoS P S s := by
 obtain ⟨h1, h2, h3⟩ := stepE_zero.1 h
 obtain ⟨⟨b1, b2⟩, ⟨b3, b4⟩, b5, b6⟩ := boundV_iff.1 h1
 have hil := (List.getElem?_eq_some_iff.1 hs).1
 obtain ⟨k, hk⟩ := Int.eq_ofNat_of_zero_le b1
 rw [hk, Int.toNat_natCast] at h2 h3
 have hkl : k < P.stmts.length := by omega
 have hrv : P.ruleV k (P.stAt k) ∈ P.rulesV := List.mem_map.2 ⟨k, List.mem_range.2 hkl, rfl⟩
 have hbb := eq_of_beq bBase_list
 unfold shapeV needsV at h2
 unfold folB at h3
 rw [Bool.and_eq_true] at h2
 obtain ⟨h2a, h2b⟩ := h2
 have h2a := eq_of_beq h2a
 have h2b := eq_of_beq h2b
 rcases rule_kinds hg.1 hrv with g | g | g
 ·rw [hbb] at g
  rw [g] at h2a h2b h3
  simp only [beq_self_eq_true, cond_true, Bool.not_true, Bool.and_eq_true] at h2a h3
  obtain ⟨h3a, h3b⟩ := h3
  have h3a := beq_int' h3a
  have h3b := beq_int' h3b
  have n1 := of_decide_eq_false h2a.symm
  have n2 := of_decide_eq_false (h2b.symm.trans (by decide))
  have ha := rule_a_in hg.1 hkl
  have hnv := nodes_vars P
  refine ⟨⟨k, hk, hkl, .inl ⟨by rw [hbb]; exact g, by unfold ST.fact; rw [h3a, h3b], by omega, by omega⟩⟩, ⟨by omega, by omega⟩, ?_⟩
  rw [h3a, h3b]
  exact hc.base k hkl (by rw [hbb]; exact g)
 ·have q1 : ((P.ruleV k (P.stAt k)).kind.toList == [98, 97, 115, 101]) = false := by rw [g]; decide
  have q2 : ((P.ruleV k (P.stAt k)).kind.toList == [99, 111, 112, 121]) = true := by rw [g]; decide
  rw [q1] at h2a h3
  rw [g] at h2b
  rw [q2] at h3
  have n1 := of_decide_eq_true h2a.symm
  have n2 := of_decide_eq_false (h2b.symm.trans (by decide))
  obtain ⟨f, hf⟩ := Int.eq_ofNat_of_zero_le n1
  rw [hf, Int.toNat_natCast] at h3
  have hfi : f < i := by omega
  have hx := getD_at (L := L) (f := f) (by omega)
  generalize L.getD f st0 = x at *
  cases hxo : (x.obj == s.obj) with
  | false => rw [hxo] at h3; simp at h3
  | true =>
   rw [hxo] at h3
   simp only [Bool.not_true, cond_false, cond_true, Bool.and_eq_true] at h3
   obtain ⟨h3a, h3b⟩ := h3
   have h3a := beq_int' h3a
   have h3b := beq_int' h3b
   have hxo := beq_int' hxo
   have hse : SndE P S ((P.ruleV k (P.stAt k)).a, (P.ruleV k (P.stAt k)).b) := sndE_of hg hc hrv (by unfold PP.redges; rw [show ((P.ruleV k (P.stAt k)).kind.toList == kCopy) = true from q2, cond_true]; exact List.mem_singleton.2 rfl)
   have hxs := hprev f x hfi hx
   refine ⟨⟨k, hk, hkl, .inr (.inl ⟨g, by omega, f, x, hf, hfi, hx, by unfold ST.fact; rw [h3a, hxo], h3b⟩)⟩, ?_, ?_⟩
   ·rw [h3b]; exact hse.2.1
   ·rw [h3b]
    refine hse.2.2 _ ?_
    rw [← hxo]
    have := hxs.2
    rw [h3a] at this
    exact this
 ·have hg1 := g
  obtain ⟨k1, k2⟩ := fired_kinds g
  rw [hbb] at k1
  have q1 : ((P.ruleV k (P.stAt k)).kind.toList == [98, 97, 115, 101]) = false := by
   cases e : ((P.ruleV k (P.stAt k)).kind.toList == [98, 97, 115, 101]) with
   | false => rfl
   | true => exact absurd (eq_of_beq e) k1
  have q2 : ((P.ruleV k (P.stAt k)).kind.toList == [99, 111, 112, 121]) = false := by
   cases e : ((P.ruleV k (P.stAt k)).kind.toList == [99, 111, 112, 121]) with
   | false => rfl
   | true => exact absurd (eq_of_beq e) k2
  unfold RV.fired at g
  rw [q1] at h2a h3
  rw [q2] at h3
  have n1 := of_decide_eq_true h2a.symm
  have n2 := of_decide_eq_true (h2b.symm.trans g)
  obtain ⟨f, hf⟩ := Int.eq_ofNat_of_zero_le n1
  obtain ⟨v, hv⟩ := Int.eq_ofNat_of_zero_le n2
  rw [hf, hv, Int.toNat_natCast, Int.toNat_natCast] at h3
  have hfi : f < i := by omega
  have hvi : v < i := by omega
  have hx := getD_at (L := L) (f := f) (by omega)
  have hy := getD_at (L := L) (f := v) (by omega)
  generalize L.getD f st0 = x at *
  generalize L.getD v st0 = y at *
  have hxs := hprev f x hfi hx
  have hys := hprev v y hvi hy
  cases hxo : (x.obj == s.obj) with
  | false => rw [hxo] at h3; simp at h3
  | true =>
   rw [hxo] at h3
   simp only [Bool.not_true, cond_false] at h3
   have hxo := beq_int' hxo
   have key : y.node = (P.ruleV k (P.stAt k)).pivot → (x.node, s.node) ∈ P.fires (P.ruleV k (P.stAt k)) y.obj → FolS P L s i ∧ SoS P S s := fun p1 p2 => by
    have hpo := hys.2
    rw [p1] at hpo
    have hse := sndE_of hg hc hrv (fires_in hg1 hpo p2)
    refine ⟨⟨k, hk, hkl, .inr (.inr ⟨hg1, f, x, v, y, hf, hfi, hx, hxo, hv, hvi, hy, p1, p2⟩)⟩, hse.2.1, hse.2.2 _ ?_⟩
    rw [← hxo]; exact hxs.2
   cases hl : ((P.ruleV k (P.stAt k)).kind.toList == kLoad) with
   | true =>
    have hle := eq_of_beq hl
    rw [show ((P.ruleV k (P.stAt k)).kind.toList == [108, 111, 97, 100]) = true from hl, cond_true, Bool.and_eq_true, Bool.and_eq_true] at h3
    obtain ⟨⟨r1, r2⟩, r3⟩ := h3
    have r1 := beq_int' r1
    have r2 := beq_int' r2
    have r3 := beq_int' r3
    refine key ?_ ?_
    ·unfold RV.pivot
     rw [show ((P.ruleV k (P.stAt k)).kind.toList == kStore) = false by rw [hle]; decide, cond_false]
     exact r1
    ·unfold PP.fires
     rw [show ((P.ruleV k (P.stAt k)).kind.toList == kCall) = false by rw [hle]; decide, cond_false, if_neg (by rw [r2]; have := hxs.1; omega), hl, cond_true, r2, r3]
     exact List.mem_singleton.2 rfl
   | false =>
    rw [show ((P.ruleV k (P.stAt k)).kind.toList == [108, 111, 97, 100]) = false from hl, cond_false] at h3
    cases hst : ((P.ruleV k (P.stAt k)).kind.toList == kStore) with
    | true =>
     have hse := eq_of_beq hst
     rw [show ((P.ruleV k (P.stAt k)).kind.toList == [115, 116, 111, 114, 101]) = true from hst, cond_true, Bool.and_eq_true, Bool.and_eq_true, Bool.and_eq_true] at h3
     obtain ⟨⟨⟨r1, r2⟩, r3⟩, r4⟩ := h3
     have r1 := beq_int' r1
     have r2 := beq_int' r2
     have r3 := of_decide_eq_true r3
     have r4 := beq_int' r4
     refine key ?_ ?_
     ·unfold RV.pivot
      rw [hst, cond_true]
      exact r1
     ·unfold PP.fires
      rw [show ((P.ruleV k (P.stAt k)).kind.toList == kCall) = false by rw [hse]; decide, cond_false, if_neg (by rw [r2]; omega), hl, cond_false, r2, r4]
      exact List.mem_singleton.2 rfl
    | false =>
     rw [show ((P.ruleV k (P.stAt k)).kind.toList == [115, 116, 111, 114, 101]) = false from hst, cond_false, Bool.and_eq_true] at h3
     obtain ⟨r1, r2⟩ := h3
     have r1 := beq_int' r1
     have r2 := of_decide_eq_true r2
     have hca : ((P.ruleV k (P.stAt k)).kind.toList == kCall) = true := by rw [hl, hst] at g; exact g
     refine key ?_ ?_
     ·unfold RV.pivot
      rw [hst, cond_false]
      exact r1
     ·unfold PP.fires
      rw [hca, cond_true]
      exact r2
def StepsOk (P : PP) (L : List ST) (n : Nat) : Prop := ∀ (j : Nat) t, j < n → L[j]? = some t → stepE P L j t = 0
theorem StepsOk.succ {P : PP} {L : List ST} {n : Nat} {s : ST} (h : StepsOk P L n) (hs : L[n]? = some s) (h0 : stepE P L n s = 0) : StepsOk P L (n + 1) := fun j t hj ht => by
 rcases Nat.lt_or_ge j n with g | g
 ·exact h j t g ht
 ·obtain rfl : j = n := by omega
  obtain rfl := Option.some.inj (hs.symm.trans ht)
  exact h0
theorem StepsOk.snd {P : PP} {S : List (List Int)} {L : List ST} (hg : P.GoodS S) (hc : ClosedP P S) : ∀ {n : Nat}, StepsOk P L n → ∀ (j : Nat) t, j < n → L[j]? = some t → FolS P L t j ∧ SoS P S t
 | 0, _, _, _, h, _ => absurd h (Nat.not_lt_zero _)
 | n + 1, h, j, t, hj, ht => by
  have ih := StepsOk.snd hg hc (n := n) (fun a b ha hb => h a b (by omega) hb)
  rcases Nat.lt_or_ge j n with g | g
  ·exact ih j t g ht
  ·obtain rfl : j = n := by omega
   exact stepE_fol hg hc ht (fun a b ha hb => (ih a b ha hb).2) (h j t hj ht)
theorem fol_stepE {P : PP} {L : List ST} {i : Nat} {s : ST} (hw : P.Well) (hs : L[i]? = some s) (hn : s.node < P.nodesV) (h : FolS P L s i) : stepE P L i s = 0 := by
 obtain ⟨k, hk, hkl, hc⟩ := h
 have hil := (List.getElem?_eq_some_iff.1 hs).1
 have hbb := eq_of_beq bBase_list
 have hgd : ∀ {f : Nat} {x : ST}, L[f]? = some x → L.getD f st0 = x := fun h => by rw [List.getD_eq_getElem?_getD, h]; rfl
 refine stepE_zero.2 ?_
 rw [boundV_iff, hk, Int.toNat_natCast]
 unfold shapeV needsV folB
 rcases hc with ⟨g1, g2, g3, g4⟩ | ⟨g1, g2, f, x, g3, g4, g5, g6, g7⟩ | ⟨g1, f, x, v, z, g2, g3, g4, g5, g6, g7, g8, g9, g10⟩
 ·obtain ⟨q1, q2⟩ := Prod.mk.inj g2
  rw [hbb] at g1
  rw [g1, g3, g4, q1, q2]
  refine ⟨⟨⟨by omega, by omega⟩, ⟨by omega, by omega⟩, by omega, by omega⟩, by decide, ?_⟩
  simp
 ·obtain ⟨q1, q2⟩ := Prod.mk.inj g6
  rw [g1, g2, g3, Int.toNat_natCast, hgd g5, q1, q2, g7]
  refine ⟨⟨⟨by omega, by omega⟩, ⟨by omega, by omega⟩, by omega, by omega⟩, ?_, ?_⟩
  ·rw [decide_eq_true (by omega : (0 : Int) ≤ (f : Int))]; decide
  ·simp [kCopy]
 ·obtain ⟨k1, k2⟩ := fired_kinds g1
  rw [hbb] at k1
  rw [g2, g6, Int.toNat_natCast, Int.toNat_natCast, hgd g4, hgd g8]
  have q1 : ((P.ruleV k (P.stAt k)).kind.toList == [98, 97, 115, 101]) = false := by
   cases e : ((P.ruleV k (P.stAt k)).kind.toList == [98, 97, 115, 101]) with
   | false => rfl
   | true => exact absurd (eq_of_beq e) k1
  have q2 : ((P.ruleV k (P.stAt k)).kind.toList == [99, 111, 112, 121]) = false := by
   cases e : ((P.ruleV k (P.stAt k)).kind.toList == [99, 111, 112, 121]) with
   | false => rfl
   | true => exact absurd (eq_of_beq e) k2
  have g1' := g1
  unfold RV.fired at g1'
  refine ⟨⟨⟨by omega, by omega⟩, ⟨by omega, by omega⟩, by omega, by omega⟩, ?_, ?_⟩
  ·rw [q1, show (((P.ruleV k (P.stAt k)).kind.toList == [108, 111, 97, 100]) || ((P.ruleV k (P.stAt k)).kind.toList == [115, 116, 111, 114, 101]) || ((P.ruleV k (P.stAt k)).kind.toList == [99, 97, 108, 108])) = true from g1', decide_eq_true (by omega : (0 : Int) ≤ (f : Int)), decide_eq_true (by omega : (0 : Int) ≤ (v : Int))]; rfl
  ·rw [q1, q2, g5, beq_self_eq_true, Bool.not_true, cond_false, cond_false, cond_false]
   unfold PP.fires at g10
   unfold RV.pivot at g9
   cases hl : ((P.ruleV k (P.stAt k)).kind.toList == kLoad) with
   | true =>
    have hle := eq_of_beq hl
    rw [show ((P.ruleV k (P.stAt k)).kind.toList == kStore) = false by rw [hle]; decide, cond_false] at g9
    rw [show ((P.ruleV k (P.stAt k)).kind.toList == [108, 111, 97, 100]) = true from hl, cond_true]
    rw [show ((P.ruleV k (P.stAt k)).kind.toList == kCall) = false by rw [hle]; decide, cond_false] at g10
    by_cases ho : (P.nodesV : Int) ≤ z.obj
    ·rw [if_pos ho] at g10; cases g10
    ·rw [if_neg ho, hl, cond_true] at g10
     obtain ⟨p1, p2⟩ := Prod.mk.inj (List.mem_singleton.1 g10)
     rw [g9, p1, p2]
     simp
   | false =>
    rw [show ((P.ruleV k (P.stAt k)).kind.toList == [108, 111, 97, 100]) = false from hl, cond_false]
    cases hst : ((P.ruleV k (P.stAt k)).kind.toList == kStore) with
    | true =>
     have hse := eq_of_beq hst
     rw [hst, cond_true] at g9
     rw [show ((P.ruleV k (P.stAt k)).kind.toList == [115, 116, 111, 114, 101]) = true from hst, cond_true]
     rw [show ((P.ruleV k (P.stAt k)).kind.toList == kCall) = false by rw [hse]; decide, cond_false] at g10
     by_cases ho : (P.nodesV : Int) ≤ z.obj
     ·rw [if_pos ho] at g10; cases g10
     ·rw [if_neg ho, hl, cond_false] at g10
      obtain ⟨p1, p2⟩ := Prod.mk.inj (List.mem_singleton.1 g10)
      rw [g9, p1, p2, decide_eq_true (by omega)]
      simp
    | false =>
     rw [show ((P.ruleV k (P.stAt k)).kind.toList == [115, 116, 111, 114, 101]) = false from hst, cond_false]
     rw [hst, cond_false] at g9
     have hca : ((P.ruleV k (P.stAt k)).kind.toList == kCall) = true := by rw [hl, hst] at g1'; exact g1'
     rw [hca, cond_true] at g10
     rw [g9, decide_eq_true g10]
     simp
def ProofIs (P : PP) (L : List ST) (c : Nat) (p : Int) : Prop :=
 (2000 < L.length ∧ c = 8 ∧ p = -1) ∨ (L.length ≤ 2000 ∧ StepsOk P L L.length ∧ c = 0 ∧ p = -1) ∨
 (L.length ≤ 2000 ∧ ∃ (i : Nat) (s : ST), L[i]? = some s ∧ StepsOk P L i ∧ stepE P L i s ≠ 0 ∧ c = stepE P L i s ∧ p = (i : Int))
theorem ProofIs.uniq {P : PP} {L : List ST} {c d : Nat} {p q : Int} (h : ProofIs P L c p) (g : ProofIs P L d q) : c = d ∧ p = q := by
 rcases h with ⟨h1, h2, h3⟩ | ⟨h1, h2, h3, h4⟩ | ⟨h1, i, s, h2, h3, h4, h5, h6⟩ <;> rcases g with ⟨g1, g2, g3⟩ | ⟨g1, g2, g3, g4⟩ | ⟨g1, j, t, g2, g3, g4, g5, g6⟩
 ·exact ⟨h2.trans g2.symm, h3.trans g3.symm⟩
 ·omega
 ·omega
 ·omega
 ·exact ⟨h3.trans g3.symm, h4.trans g4.symm⟩
 ·exact absurd (h2 j t (List.getElem?_eq_some_iff.1 g2).1 g2) g4
 ·omega
 ·exact absurd (g2 i s (List.getElem?_eq_some_iff.1 h2).1 h2) h4
 ·have hij : i = j := by
   rcases Nat.lt_trichotomy i j with k | k | k
   ·exact absurd (g3 i s k h2) h4
   ·exact k
   ·exact absurd (h3 j t k g2) g4
  subst hij
  obtain rfl := Option.some.inj (h2.symm.trans g2)
  exact ⟨h5.trans g5.symm, h6.trans g6.symm⟩
def ProofErr (ad : Nat → Addr) (P : PP) (L : List ST) (w : World) (v : Value) : Prop :=
 (2000 < L.length ∧ v = evOf ad 8) ∨ (L.length ≤ 2000 ∧ StepsOk P L L.length ∧ v = .nilIface) ∨
 (L.length ≤ 2000 ∧ ∃ (i : Nat) (s : ST) (b : Nat), L[i]? = some s ∧ StepsOk P L i ∧ stepE P L i s ≠ 0 ∧ v = .iface 126 (.pointer (some ⟨b, 0, none⟩)) ∧ Blk w b #[.int .i64 (i : Int), evOf ad (stepE P L i s)] 128)
theorem needs_kind {P : PP} (hw : P.Well) {k : Nat} (hk : k < P.stmts.length) : needsV (P.ruleV k (P.stAt k)).kind.toList = (!((P.stAt k).isK kAddr || (P.stAt k).isK kNew || (P.stAt k).isK kFun), (P.stAt k).isK kLoad || (P.stAt k).isK kStore || (P.stAt k).isK kCall) := by
 have hbb := eq_of_beq bBase_list
 have hcl := eq_of_beq bCall_list
 have hks : ∀ (ks : List UInt8), (P.stAt k).kind.toList = ks → ((P.stAt k).isK kAddr = (ks == kAddr)) ∧ ((P.stAt k).isK kNew = (ks == kNew)) ∧ ((P.stAt k).isK kFun = (ks == kFun)) ∧ ((P.stAt k).isK kLoad = (ks == kLoad)) ∧ ((P.stAt k).isK kStore = (ks == kStore)) ∧ ((P.stAt k).isK kCall = (ks == kCall)) := fun ks e => by
  unfold PS.isK
  rw [e]
  exact ⟨rfl, rfl, rfl, rfl, rfl, rfl⟩
 have hkd := kind_cases (hw.2 k (P.stAt k) hk (stAt_some hk))
 unfold needsV PP.ruleV
 have go : ∀ ks, (P.stAt k).kind.toList = ks → needsV (bif ks == kAddr then bBase.toList else bif ks == kNew then bBase.toList else bif ks == kFun then bBase.toList else bif ks == kCall then bCall.toList else ks) = (!((ks == kAddr) || (ks == kNew) || (ks == kFun)), (ks == kLoad) || (ks == kStore) || (ks == kCall)) → needsV (P.ruleV k (P.stAt k)).kind.toList = (!((P.stAt k).isK kAddr || (P.stAt k).isK kNew || (P.stAt k).isK kFun), (P.stAt k).isK kLoad || (P.stAt k).isK kStore || (P.stAt k).isK kCall) := fun ks e h => by
  obtain ⟨q1, q2, q3, q4, q5, q6⟩ := hks ks e
  unfold PP.ruleV
  rw [q1, q2, q3, q4, q5, q6, ← h]
  cases ks == kAddr with
  | true => rfl
  | false =>
  cases ks == kNew with
  | true => rfl
  | false =>
  cases ks == kFun with
  | true => rfl
  | false =>
  cases ks == kCall with
  | true => rfl
  | false => exact congrArg needsV e
 show needsV (P.ruleV k (P.stAt k)).kind.toList = _
 rcases hkd with h | h | h | h | h | h | h
 ·exact go kAddr (eq_of_beq h) (by rw [hbb, hcl]; decide)
 ·exact go kCopy (eq_of_beq h) (by rw [hbb, hcl]; decide)
 ·exact go kLoad (eq_of_beq h) (by rw [hbb, hcl]; decide)
 ·exact go kStore (eq_of_beq h) (by rw [hbb, hcl]; decide)
 ·exact go kNew (eq_of_beq h) (by rw [hbb, hcl]; decide)
 ·exact go kFun (eq_of_beq h) (by rw [hbb, hcl]; decide)
 ·exact go kCall (eq_of_beq h) (by rw [hbb, hcl]; decide)
def fixedP : PP := ⟨[⟨#[97]⟩, ⟨#[98]⟩], [], [⟨⟨#[97, 100, 100, 114]⟩, 0, 1, []⟩, ⟨⟨#[99, 111, 112, 121]⟩, 1, 0, []⟩]⟩
theorem fixed_well : fixedP.Well := by
 refine ⟨by decide +kernel, fun j t hj ht => ?_⟩
 have hj2 : j < 2 := hj
 rcases (by omega : j = 0 ∨ j = 1) with rfl | rfl
 ·obtain rfl := Option.some.inj ht
  decide +kernel
 ·obtain rfl := Option.some.inj ht
  decide +kernel
theorem fixed_least : LeastAt fixedP 2 [[1], [1]] := by
 refine ⟨by decide +kernel, by decide +kernel, fun m hm => ?_⟩
 rcases (by omega : m = 0 ∨ m = 1) with rfl | rfl <;> decide +kernel
theorem fixed_nodes : fixedP.nodesV = 2 := by decide +kernel
def fixedS : Array Value := #[.string ⟨#[97, 100, 100, 114]⟩, .int .i64 0, .int .i64 1, .slice none 0 0, .string ⟨#[99, 111, 112, 121]⟩, .int .i64 1, .int .i64 0, .slice none 0 0]
theorem fixed_prog {w : World} {a b n0 : Nat} (ha : Blk w a #[.string ⟨#[97]⟩, .string ⟨#[98]⟩] 9) (hb : Blk w b fixedS 76) (h1 : a < n0) (h2 : b < n0) : ProgR w n0 (.slice (some ⟨a, 0, none⟩) 2 2) (.slice none 0 0) (.slice (some ⟨b, 0, none⟩) 2 2) fixedP := by
 refine ⟨⟨_, 2, rfl, by decide, by decide, fun _ => ⟨_, rfl⟩, fun y hy _ => ?_⟩, ⟨_, 0, rfl, by decide, by decide, fun h => absurd h (by decide), fun y hy => by cases hy⟩, ⟨_, 2, rfl, by decide, by decide, fun _ => ⟨_, rfl⟩, fun y hy _ => ?_⟩⟩
 ·obtain rfl := Option.some.inj hy
  refine ⟨h1, fun i hi s hs => ?_⟩
  have hi2 : i < 2 := hi
  rcases (by omega : i = 0 ∨ i = 1) with rfl | rfl
  ·obtain rfl := Option.some.inj hs
   exact ha.av 0 rfl
  ·obtain rfl := Option.some.inj hs
   exact ha.av 1 rfl
 ·obtain rfl := Option.some.inj hy
  refine ⟨h2, fun i hi s hs => ?_⟩
  have hi2 : i < 2 := hi
  have hn : IntsR w n0 (.slice none 0 0) [] := ⟨none, 0, rfl, by decide, by decide, fun h => absurd h (by decide), fun y hy => by cases hy⟩
  rcases (by omega : i = 0 ∨ i = 1) with rfl | rfl
  ·obtain rfl := Option.some.inj hs
   exact ⟨.slice none 0 0, hb.av 0 rfl, hb.av 1 rfl, hb.av 2 rfl, hb.av 3 rfl, hn⟩
  ·obtain rfl := Option.some.inj hs
   exact ⟨.slice none 0 0, hb.av 4 rfl, hb.av 5 rfl, hb.av 6 rfl, hb.av 7 rfl, hn⟩
def rectL (A B : Nat) : List (Int × Int) := (List.range A).flatMap fun a : Nat => (List.range B).map fun b : Nat => ((a : Int), (b : Int))
theorem WhyOk.steps {P : PP} {S : List (List Int)} {l : List ST} (hw : P.Well) (h : WhyOk P S l) : StepsOk P l l.length := fun j t _ ht => fol_stepE hw ht (h.snd t (List.mem_of_getElem? ht)).1.2 (h.fol j t ht)
theorem because_two {m : List ST} {s : ST} (h : WhyOk fixedP [[1], [1]] (m ++ [s])) (hs : s.fact = (1, 1)) : (m ++ [s]).length = 2 := by
 have hn : fixedP.nodesV = 2 := fixed_nodes
 have h1 := nodup_le (facts (m ++ [s])) [(0, 1), (1, 1)] h.nd fun x hx => by
  obtain ⟨t, ht, rfl⟩ := List.mem_map.1 hx
  obtain ⟨⟨k1, k2⟩, k3⟩ := h.snd t ht
  rw [hn] at k2
  unfold ST.fact
  rcases (by omega : t.node = 0 ∨ t.node = 1) with e | e
  ·rw [e] at k3 ⊢
   rw [List.mem_singleton.1 (show t.obj ∈ [1] from k3)]
   exact List.mem_cons_self
  ·rw [e] at k3 ⊢
   rw [List.mem_singleton.1 (show t.obj ∈ [1] from k3)]
   exact List.mem_cons_of_mem _ List.mem_cons_self
 unfold facts at h1
 rw [List.length_map] at h1
 have h1 : (m ++ [s]).length ≤ 2 := h1
 rcases Nat.lt_or_ge m.length 1 with g | g
 ·exfalso
  obtain rfl := List.eq_nil_of_length_eq_zero (show m.length = 0 by omega)
  have hf := h.fol 0 s rfl
  obtain ⟨k, hk, hkl, hc⟩ := hf
  have hk2 : k < 2 := hkl
  rcases hc with ⟨c1, c2, _⟩ | ⟨_, _, f, x, _, c4, _⟩ | ⟨_, f, x, v, y, _, c4, _⟩
  ·rw [hs] at c2
   obtain ⟨d1, d2⟩ := Prod.mk.inj c2
   rcases (by omega : k = 0 ∨ k = 1) with rfl | rfl
   ·exact absurd d1 (by decide +kernel)
   ·exact absurd c1 (by decide +kernel)
  ·omega
  ·omega
 ·rw [List.length_append, List.length_singleton] at h1 ⊢
  omega
def StepsR (w : World) (n0 : Nat) (v : Value) (l : List ST) : Prop := ElR n0 v l.length fun i y => ∀ s, l[i]? = some s → w.cell? (y.add (i * 5)) = some (.int .i64 s.node) ∧ w.cell? ((y.add (i * 5)).add 1) = some (.int .i64 s.obj) ∧ w.cell? ((y.add (i * 5)).add 2) = some (.int .i64 s.stmt) ∧ w.cell? ((y.add (i * 5)).add 3) = some (.int .i64 s.frm) ∧ w.cell? ((y.add (i * 5)).add 4) = some (.int .i64 s.via)
section
variable {w w' : World} {n0 n1 : Nat} {v : Value} {l : List ST}
theorem StepsR.old (h : StepsR w n0 v l) (k : Old n0 w w') : StepsR w' n0 v l :=
 ElR.mono h (Nat.le_refl _) fun i y _ hy hE s hs => by
  obtain ⟨h1, h2, h3, h4, h5⟩ := hE s hs
  exact ⟨k.cellx h1 (by rw [add_block]; exact hy), k.cellx h2 (by rw [add_block, add_block]; exact hy), k.cellx h3 (by rw [add_block, add_block]; exact hy), k.cellx h4 (by rw [add_block, add_block]; exact hy), k.cellx h5 (by rw [add_block, add_block]; exact hy)⟩
theorem StepsR.ext (h : StepsR w n0 v l) (x : Ext w w') : StepsR w' n0 v l := h.old (x.old _)
theorem StepsR.lift (h : StepsR w n0 v l) (hn : n0 ≤ n1) : StepsR w n1 v l := ElR.lift h hn
theorem StepsR.form2 (h : StepsR w n0 v l) : ∃ a c, v = .slice a l.length c := by
 obtain ⟨a, cap, h1, _⟩ := h
 exact ⟨a, cap, h1⟩
theorem StepsR.len (h : StepsR w n0 v l) : (l.length : Int) ≤ 9223372036854775807 := by
 obtain ⟨_, _, _, h2, h3, _⟩ := h
 omega
theorem StepsR.some (h : StepsR w n0 v l) (hl : 0 < l.length) : ∃ y c, v = .slice (some y) l.length c := by
 obtain ⟨a, cap, h1, _, _, h4, _⟩ := h
 obtain ⟨y, rfl⟩ := h4 hl
 exact ⟨y, cap, h1⟩
theorem StepsR.at5 {y : Addr} {n c : Nat} (h : StepsR w n0 (.slice (Option.some y) n c) l) {i : Nat} {x : ST} (hx : l[i]? = Option.some x) :
  w.cell? (y.add (i * 5)) = Option.some (.int .i64 x.node) ∧ w.cell? ⟨(y.add (i * 5)).block, (y.add (i * 5)).off + 1, none⟩ = Option.some (.int .i64 x.obj) ∧ w.cell? ⟨(y.add (i * 5)).block, (y.add (i * 5)).off + 2, none⟩ = Option.some (.int .i64 x.stmt) ∧ w.cell? ⟨(y.add (i * 5)).block, (y.add (i * 5)).off + 3, none⟩ = Option.some (.int .i64 x.frm) ∧ w.cell? ⟨(y.add (i * 5)).block, (y.add (i * 5)).off + 4, none⟩ = Option.some (.int .i64 x.via) := by
 obtain ⟨a', cap', h1, _, _, h4, h5⟩ := h
 have hil := (List.getElem?_eq_some_iff.1 hx).1
 simp only [Value.slice.injEq] at h1
 obtain ⟨h1, -, -⟩ := h1
 obtain ⟨e0, e1, e2, e3, e4⟩ := (h5 y h1.symm (by omega)).2 i hil x hx
 rw [add_posU _ _ (by decide)] at e1 e2 e3 e4
 exact ⟨e0, e1, e2, e3, e4⟩
theorem StepsR.own {base : Nat} {t : TypeId} (h : w.ownsRow base t 5 v l.length (l.flatMap stCells)) (h0 : w.heap.size ≤ n0) : StepsR w n0 v l :=
 ElR.own h h0 fun g hc i hi s hs => by
  have c : ∀ j u, (stCells s)[j]? = Option.some u → j < 5 → w.cell? (((⟨g, 0, none⟩ : Addr).add (i * 5)).add j) = Option.some u := fun j u hv hj => by
   rw [show ((⟨g, 0, none⟩ : Addr).add (i * 5)).add j = (⟨g, 0, none⟩ : Addr).add (i * 5 + j) from Go.Deep.add_add _ _ _]
   exact hc _ _ ((fm_get stCells 5 stCells_len l i j s hs hj).trans hv)
  exact ⟨by have := c 0 _ rfl (by omega); simpa [Go.Deep.add_add] using this, c 1 _ rfl (by omega), c 2 _ rfl (by omega), c 3 _ rfl (by omega), c 4 _ rfl (by omega)⟩
end
end Go.Proofs.YtngdpnlgnpdkcaaGreatDoor
