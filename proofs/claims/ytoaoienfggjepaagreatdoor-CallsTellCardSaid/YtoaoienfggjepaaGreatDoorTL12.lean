/- Texts of one proof, put together: E4 E5 WG WH WI. -/
import Derived.Test.YtoaoienfggjepaaGreatDoorTL07
import Derived.Test.YtoaoienfggjepaaGreatDoorTL11
import Derived.OwnWalk

/- A round of rules (fix.Round), of a well program and sets that are well. -/
namespace Go.Proofs.YtoaoienfggjepaaGreatDoor
set_option linter.unusedSimpArgs false
set_option linter.unusedVariables false
open Go Go.RowKit

theorem Made.put {w : World} {base g cap N : Nat} {vs : List Value} {L : List (List Int)} {n : Nat} {v : Value} {l : List Int} (hr : w.ownsRow base 22 1 (.slice (some ⟨g, 0, none⟩) N cap) N vs) (hm : Made w vs L) (hL : L.length = N) (hv : IntsT w v l) (hn : n < N) :
    (w.setCell ⟨g, n, none⟩ v).ownsRow base 22 1 (.slice (some ⟨g, 0, none⟩) N cap) N (vs.set n v) ∧ Made (w.setCell ⟨g, n, none⟩ v) (vs.set n v) (L.set n l) ∧ Keep (fun q => q = g) w (w.setCell ⟨g, n, none⟩ v) := by
  have k : Keep (fun q => q = g) w (w.setCell ⟨g, n, none⟩ v) := Keep.set (X := fun q => q = g) (Keep.refl _ _) rfl _
  have hni : ∀ b, b = g → ¬ IsInt w b := fun b e => by
    subst e
    obtain ⟨c, hc⟩ := own_ty hr (k := b) rfl
    exact notInt hc (by decide)
  have hvs := hm.1
  refine ⟨own_set hr n (by omega) v, ⟨by rw [List.length_set, List.length_set]; exact hvs, fun i u m hu hl => ?_⟩, k⟩
  by_cases hi : n = i
  · subst hi
    rw [List.getElem?_set_self (by omega)] at hu hl
    obtain rfl := Option.some.inj hu
    obtain rfl := Option.some.inj hl
    exact hv.keep k hni
  · rw [List.getElem?_set_ne hi] at hu hl
    exact (hm.2 i u m hu hl).keep k hni
/-- One of the lists of a row that was made. -/
theorem Made.one {w : World} {base g cap N : Nat} {vs : List Value} {S : List (List Int)} (hr : w.ownsRow base 22 1 (.slice (some ⟨g, 0, none⟩) N cap) N vs) (hm : Made w vs S) (hL : S.length = N) {n : Nat} (hn : n < N) : ∃ a c, w.cell? ⟨g, n, none⟩ = some (.slice a (S.getD n []).length c) ∧ IntsR w w.heap.size (.slice a (S.getD n []).length c) (S.getD n []) := by
  have hvs := hm.1
  have h1 : vs[n]? = some (vs[n]'(by omega)) := List.getElem?_eq_getElem (by omega)
  have h2 : S[n]? = some (S[n]'(by omega)) := List.getElem?_eq_getElem (by omega)
  have hT := hm.2 n _ _ h1 h2
  obtain ⟨a, c, ha⟩ := hT.form
  have e : S.getD n [] = S[n]'(by omega) := by rw [List.getD_eq_getElem?_getD, h2]; rfl
  rw [e]
  rw [ha] at h1
  exact ⟨a, c, own_get hr n h1, by rw [← ha]; exact hT.1⟩

set_option maxRecDepth 100000 in
set_option maxHeartbeats 6400000 in
theorem fixround_made (a1 a2 a3 : Option Addr) (c1 c2 c3 : Nat) (P : PP) (hv : Value) (has : List (List Int)) (w : World) (ad : Nat → Addr) (h : PW w w.heap.size ad a1 a2 a3 c1 c2 c3 P) (hS : ErrS w ad) (hh : SetsR w w.heap.size hv has) (hg : P.GoodS has) :
    Calls Tryz.prog 33 #[pval a1 a2 a3 c1 c2 c3 P, hv] w fun e w' => ∃ a c vs, e = .returned (.tuple #[.slice a has.length c, .nilIface]) ∧ w'.ownsRow w.heap.size 22 1 (.slice a has.length c) has.length vs ∧ Made w' vs (P.roundV has) ∧ (P.roundV has).length = has.length ∧ Ext w w' := by
  obtain ⟨ah, ch, rfl⟩ := hh.form
  have hhl := hh.len
  have Hg := hid hg
  obtain ⟨hf1, hf2, hf3⟩ := hg.1.few
  have hN6 : has.length ≤ 120 := by have := nodesV_le P hg.1; have := hg.2.1; omega
  obtain ⟨W, hW⟩ : ∃ W, W = w.alloc (.cells (pcells a1 a2 a3 c1 c2 c3 P) 39) := ⟨_, rfl⟩
  have HX : Hid (Ext w W) := hid (by rw [hW]; exact (Ext.refl _).alloc _)
  have HBx : Hid (Blk W w.heap.size (pcells a1 a2 a3 c1 c2 c3 P) 39) := hid (by rw [hW]; exact Blk.new _ _ _)
  have HWe : Hid (W = w.alloc (.cells #[.slice a1 P.vars.length c1, .slice a2 P.funs.length c2, .slice a3 P.stmts.length c3] 39)) := hid (by rw [hW]; rfl)
  have HE1 := hid (edges_fix a1 a2 a3 c1 c2 c3 P (.slice ah has.length ch) has W ad ((h.ext HX.out).lift HX.out.size) (hS.ext HX.out) ((hh.ext HX.out).lift HX.out.size) hg)
  have HO := fun w1 (x : Ext W w1) => hid (consof_yes a1 a2 a3 c1 c2 c3 P w1 w1.heap.size ad ((h.ext (HX.out.trans x)).lift (HX.out.trans x).size))
  have HH := hid (hh.ext HX.out)
  have HS := hid (hS.ext HX.out)
  have hEl := edgesL_len hg.1 has
  have HRA := hid (roundV_at hg)
  have HA := hid (edgesL_are hg)
  obtain ⟨EL, hEL⟩ : ∃ EL, EL = P.edgesL has := ⟨_, rfl⟩
  rw [← hEL] at HE1 hEl HRA HA
  have d0 := HBx.out.av 0 rfl
  have d1 := HBx.out.av 1 rfl
  have d2 := HBx.out.av 2 rfl
  simp only [pcells, List.getElem_toArray, List.getElem_cons_zero, List.getElem_cons_succ] at d0 d1 d2
  rw [HWe.out] at d0 d1 d2
  unfold pval at HE1 HO ⊢
  clear hW h hS hh hg hEL
  go_enter Tryz.func33, Tryz.ntmps33
  go_wp2_with fail
  rw [← HWe.out]
  refine HE1.out.mono ?_
  intro e w1 hx
  obtain ⟨ae, ce, rfl, hr, _, hx1⟩ := hx
  have Hr1 := hid hr
  have Hx1 := hid hx1
  have HO1 := HO w1 hx1
  clear HE1 HO hr hx1 d0 d1 d2
  have d0 := (HBx.out.ext Hx1.out).av 0 rfl
  have d1 := (HBx.out.ext Hx1.out).av 1 rfl
  have d2 := (HBx.out.ext Hx1.out).av 2 rfl
  simp only [pcells, List.getElem_toArray, List.getElem_cons_zero, List.getElem_cons_succ] at d0 d1 d2
  go_wp2_with fail
  refine HO1.out.mono ?_
  intro e w2 hx
  obtain ⟨v2, rs, rfl, hi, hx2⟩ := hx
  obtain ⟨bv, dv, rfl⟩ := row_form hi.row
  rw [show P.rulesV.length = P.stmts.length from P.rulesUp_len _] at hi ⊢
  have HI := hid hi
  have Hx2 := hid (Hx1.out.trans hx2)
  have HrE := hid (Hr1.out.ext hx2)
  have HH2 := hid (HH.out.ext Hx2.out)
  have HS2 := hid (HS.out.ext Hx2.out)
  have Hxw2 := hid (HX.out.trans Hx2.out)
  have Hlw : Hid (w.heap.size ≤ w2.heap.size) := hid Hxw2.out.size
  clear HO1 hi hx2 d0 d1 d2 Hr1 HH HS
  go_wp2
  go_loopw [9, 35] (fun t9 t35 wr => ∃ (k : Nat) (vs : List Value), t35 = .int .i64 (k : Int) ∧ k ≤ has.length ∧ wr.ownsRow w2.heap.size 22 1 t9 k vs ∧ Made wr vs (has.take k) ∧ Ext w2 wr) (fun _ t35 _ => has.length - (intOf t35).toNat)
  case atStart => exact ⟨0, [], rfl, Nat.zero_le _, World.ownsRow_nil _ _ _ _, ⟨rfl, fun i v l h => by cases h⟩, Ext.refl _⟩
  case round =>
    obtain ⟨k, vs, rfl, hk, hr, hm, hx⟩ := hrel
    obtain ⟨a9, c9, rfl⟩ := row_form hr
    have Hr := hid hr
    have Hm := hid hm
    have Hx := hid hx
    clear hr hm hx
    by_cases hlt : k < has.length
    · obtain ⟨y, l, b, c, hya, hl, hc, hI⟩ := (HH2.out.ext Hx.out).at hlt
      subst hya
      have hll := srt_few (Hg.out.ok.ok l (List.mem_of_getElem? hl)).1
      have HC := hid (clone_big (.slice b l.length c) l wr w.heap.size hI (by omega))
      have Hl := hid hl
      clear hl hI
      go_wp2_with fail
      refine HC.out.mono ?_
      intro e w3 hx
      obtain ⟨v3, rfl, hx3, hr3⟩ := hx
      have HT := hid (IntsT.row hr3)
      obtain ⟨a3', c3', rfl⟩ := hr3.form
      have Hx3 := hid hx3
      clear HC hr3 hx3 hc
      have hxa : Hid (Ext w2 (w3.alloc (.cells #[.slice a3' l.length c3'] 22))) := hid ((Hx.out.trans Hx3.out).alloc _)
      have hx3a : Hid (Ext wr (w3.alloc (.cells #[.slice a3' l.length c3'] 22))) := hid (Hx3.out.alloc _)
      have Hra := hid (own_ext Hr.out hx3a.out)
      have Hma := hid ((Hm.out.ext hx3a.out).snoc (HT.out.ext ((Ext.refl w3).alloc (.cells #[.slice a3' l.length c3'] 22))))
      go_wp2_with (at_builtin; refine wpList_append_el w2.heap.size hxa.out.size 44 22 (.slice none 0 0) 1 24 Tryz.underlying44 rows_info rfl (by omega) (by omega) rfl _ _ rfl (.slice a9 k c9) k vs rfl Hra.out w3.heap.size [.slice a3' l.length c3'] rfl (by simp [Value.oneCell']) rfl (Blk.new _ _ _) (by omega) ?_; intro v' w' h1 h2 h4; obtain ⟨a', c', rfl⟩ := row_form h1; have h3 := hid (Keep.new hxa.out h2 (fun k hk => (World.ownsRow.lt Hra.out k hk).1)); have hm5 := hid (Hma.out.keep h2 (fun b e => by obtain ⟨c, hc⟩ := own_ty Hra.out e; exact IsInt.not hc (by decide))); have h1 := hid h1; clear h2 h4)
      go_roundw
      case rel =>
        refine ⟨k + 1, _, by go_num, by omega, h1.out, ?_, h3.out⟩
        rw [List.take_add_one, Hl.out]
        exact hm5.out
      case measure => simp [intOf]; omega
    · obtain rfl : k = has.length := by omega
      rw [List.take_of_length_le (Nat.le_refl _)] at Hm
      obtain ⟨V, hV⟩ : ∃ V, V = wr := ⟨_, rfl⟩
      subst hV
      clear hlt hk
      go_wp2
      go_loopw [47] (fun t47 wr => ∃ (k : Nat) (vs : List Value) (S : List (List Int)), t47 = .int .i64 (k : Int) ∧ k ≤ P.stmts.length ∧ RoundAt P has EL k 0 S ∧ wr.ownsRow w2.heap.size 22 1 (.slice a9 has.length c9) has.length vs ∧ Made wr vs S ∧ Ext w2 wr) (fun t47 _ => P.stmts.length - (intOf t47).toNat)
      case atStart => exact ⟨0, vs, has, rfl, Nat.zero_le _, RoundAt.start Hg.out EL, Hr.out, Hm.out, Hx.out⟩
      case round =>
        clear Hr Hm Hx
        obtain ⟨k, vs, S, rfl, hk, hra, hr, hm, hx⟩ := hrel
        have HRd := hid hra
        have Hrow := hid hr
        have Hmd := hid hm
        have Hx := hid hx
        have HSl := hid hra.len
        clear hra hr hm hx
        by_cases hlt : k < P.stmts.length
        · obtain ⟨g, cp, hge⟩ := own_some HI.out.row (by rw [show P.rulesV.length = P.stmts.length from P.rulesUp_len _]; omega)
          simp only [Value.slice.injEq] at hge
          obtain ⟨rfl, -, rfl⟩ := hge
          obtain ⟨x, hxk, hxr⟩ := rules_at HI.out.eq hlt
          have hrow := own_ext HI.out.row Hx.out
          rw [show P.rulesV.length = P.stmts.length from P.rulesUp_len _] at hrow
          obtain ⟨q0, q1, q2, q3, q4⟩ := own_r hrow hxk
          have hT := HI.out.args x (List.mem_of_getElem? hxk)
          obtain ⟨aa, ca, hav⟩ := hT.form
          obtain ⟨r, xv⟩ := x
          simp only at hav hxr q0 q1 q2 q3 q4
          subst hav
          obtain ⟨wA, hwA⟩ : ∃ wA, wA = wr.alloc (.cells #[.string r.kind, .int .i64 r.a, .int .i64 r.b, .int .i64 r.k, .slice aa r.args.length ca] 123) := ⟨_, rfl⟩
          have hxA : Ext wr wA := by rw [hwA]; exact (Ext.refl _).alloc _
          have HwAe := hid hwA
          have HwA := hid hxA
          have HBr : Hid (Blk wA wr.heap.size #[.string r.kind, .int .i64 r.a, .int .i64 r.b, .int .i64 r.k, .slice aa r.args.length ca] 123) := hid (by rw [hwA]; exact Blk.new _ _ _)
          have hra := rule_a_in Hg.out.1 hlt
          rw [← hxr] at hra
          have hrb := fun hb => base_b_in Hg.out.1 hlt hb
          rw [← hxr] at hrb
          have hob := objects_few Hg.out.1
          have Hrr := hid hxr
          have hnv := nodes_vars P
          have hlen := Hg.out.2.1
          obtain ⟨A, hA⟩ := Int.eq_ofNat_of_zero_le hra.1
          have hAl : A < has.length := by omega
          have m0 := HBr.out.kc (X := fun _ => False) (fun e => e) 0 rfl
          have m1 := HBr.out.kc (X := fun _ => False) (fun e => e) 1 rfl
          have m2 := HBr.out.kc (X := fun _ => False) (fun e => e) 2 rfl
          simp only [List.getElem_toArray, List.getElem_cons_zero, List.getElem_cons_succ] at m0 m1 m2
          cases hkb : (r.kind.toList == [98, 97, 115, 101]) with
          | true =>
            have hkl : r.kind.toList = bBase.toList := (eq_of_beq hkb).trans (eq_of_beq bBase_list).symm
            have Hkb : Hid ((P.ruleV k (P.stAt k)).kind.toList = bBase.toList) := hid (by rw [← Hrr.out]; exact hkl)
            have hb := hrb hkl
            have Hb : Hid (0 ≤ r.b ∧ r.b < 1000) := hid (by omega)
            obtain ⟨g9, cp9, hge⟩ := own_some Hrow.out (by omega)
            simp only [Value.slice.injEq] at hge
            obtain ⟨rfl, -, rfl⟩ := hge
            obtain ⟨al, cl, hcl, hIl⟩ := Made.one Hrow.out Hmd.out HSl.out hAl
            have Hidx : Hid (A < has.length) := hid hAl
            have hlk : chkE (S.getD A []) = 0 := HRd.out.ok _ (getD_mem (by rw [HSl.out]; exact hAl))
            obtain ⟨la, hla⟩ : ∃ la, la = S.getD A [] := ⟨_, rfl⟩
            rw [← hla] at hcl hIl hlk
            obtain ⟨lj, hlj⟩ : ∃ lj, lj = sset (la ++ [r.b]) := ⟨_, rfl⟩
            have Hst := hid (RoundAt.base HRd.out Hkb.out (by rw [← Hrr.out]; exact hA) (by rw [← Hrr.out]) Hb.out hAl)
            rw [← hla, ← hlj] at Hst
            have hbk : chkE [r.b] = 0 := chkE_zero.2 ⟨fun z hz => by obtain rfl := List.mem_singleton.1 hz; exact Hb.out, List.pairwise_singleton _ _⟩
            have HJ := fun bq wa (y : Ext wA wa) (hB : Blk wa bq #[.int .i64 r.b] 3) => hid (fixjoin_any (.slice al la.length cl) (.slice (some ⟨bq, 0, none⟩) 1 1) la [r.b] wa wa.heap.size ad (HS2.out.ext (Hx.out.trans (HwA.out.trans y))) (ElR.lift (hIl.old ((HwA.out.trans y).old _)) (HwA.out.trans y).size) (IntsR.blk (l := [r.b]) hB rfl (by simp)) hlk hbk)
            rw [← hlj] at HJ
            have c0 : ∀ w1, Keep (fun _ => False) wA w1 → w1.cell? ⟨g9, A, none⟩ = some (.slice al la.length cl) := fun w1 k => (HwA.out.trans k.ext).cellx hcl
            have hll : (la.length : Int) ≤ 9223372036854775807 := by have := srt_few hlk; omega
            rw [hA] at m1
            clear hcl hIl hlk hla hlj hbk hrb hb hkl hwA hxA hxk hxr hrow hT hra hnv hlen hA
            go_wp2
            rw [← HwAe.out]
            refine wp_flowT (fun _ => False) (by kernel_rfl) (by kernel_rfl) ?_
            repeat (apply FlowT.d; (intro w1 hk; unfold does; go_simp; (try go_ints); (first | exact DetR.mk | (simp only [↓IntWalk.iteOmega, Oper.doesUpon_value]; exact DetR.mk) | (simp only [↓IntWalk.iteOmega]; go_simp; (try go_ints); exact DetR.mk))); simp only [Act.put, List.setIfInBounds_toArray, List.set_cons_zero, List.set_cons_succ])
            refine FlowT.s (fun v w' => (∃ b, v = .slice (some ⟨b, 0, none⟩) 1 1) ∧ (∀ b, v = .slice (some ⟨b, 0, none⟩) 1 1 → Blk w' b #[.int .i64 r.b] 3) ∧ Ext wA w') 10 rfl (by kernel_rfl) (fun _ _ _ ⟨h1, h2, h3⟩ y => ⟨h1, fun b e => (h2 b e).ext y, h3.trans y⟩) (fun wa hC hk2 => ?_) ?_
            · unfold does
              go_simp
              exact ⟨hk2.alloc _, ⟨_, rfl⟩, fun b e => by
                obtain rfl : wa.heap.size = b := by simpa using e
                exact Blk.new _ _ _, hC.alloc _⟩
            rintro _ ⟨_, ⟨bq, rfl⟩, _, _⟩
            simp only [Act.put, List.setIfInBounds_toArray, List.set_cons_zero, List.set_cons_succ]
            repeat (apply FlowT.d; (intro w1 hk; unfold does; go_simp; (try go_ints); (first | exact DetR.mk | (simp only [↓IntWalk.iteOmega, Oper.doesUpon_value]; exact DetR.mk) | (simp only [↓IntWalk.iteOmega]; go_simp; (try go_ints); exact DetR.mk))); simp only [Act.put, List.setIfInBounds_toArray, List.set_cons_zero, List.set_cons_succ])
            refine FlowT.s (fun v w' => (∃ x c, v = .slice x lj.length c) ∧ (∀ x c, v = .slice x lj.length c → IntsT w' (.slice x lj.length c) lj) ∧ Ext wA w') 11 rfl (by kernel_rfl) (fun _ _ _ ⟨h1, h2, h3⟩ y => ⟨h1, fun x c e => (h2 x c e).ext y, h3.trans y⟩) (fun wa hC hk2 => ?_) ?_
            · obtain ⟨_, hB, hxa⟩ := hC
              have HJa := HJ bq wa hxa (hB _ rfl)
              unfold does
              go_simp
              refine CallR.act (HJa.out.mono ?_)
              rintro e wb ⟨v, rfl, ⟨x, c, rfl⟩, hT, hx⟩
              refine ⟨_, rfl, hk2.trans (hx.keep _), ⟨x, c, rfl⟩, fun x' c' e => ?_, hxa.trans hx⟩
              rw [← e]
              exact hT
            rintro _ ⟨_, ⟨xj, cj, rfl⟩, _, _⟩
            simp only [Act.put, List.setIfInBounds_toArray, List.set_cons_zero, List.set_cons_succ]
            repeat (apply FlowT.d; (intro w1 hk; unfold does; go_simp; (try go_ints); (first | exact DetR.mk | (simp only [↓IntWalk.iteOmega, Oper.doesUpon_value]; exact DetR.mk) | (simp only [↓IntWalk.iteOmega]; go_simp; (try go_ints); exact DetR.mk))); simp only [Act.put, List.setIfInBounds_toArray, List.set_cons_zero, List.set_cons_succ])
            refine FlowT.last (fun _ w' => w'.ownsRow w2.heap.size 22 1 (.slice (some ⟨g9, 0, none⟩) has.length c9) has.length (vs.set A (.slice xj lj.length cj)) ∧ Made w' (vs.set A (.slice xj lj.length cj)) (S.set A lj) ∧ Ext w2 w') 13 rfl (by kernel_rfl) (by kernel_rfl) (fun wa hC hk2 => ?_) (fun _ w6 hR => ?_)
            · obtain ⟨_, hT, hxa⟩ := hC
              have hT := hT _ _ rfl
              have hrw := own_ext Hrow.out (HwA.out.trans hxa)
              have hmw := Hmd.out.ext (HwA.out.trans hxa)
              obtain ⟨p1, p2, p3⟩ := Made.put hrw hmw HSl.out hT Hidx.out
              obtain ⟨u, hu⟩ : ∃ u, vs[A]? = some u := ⟨_, List.getElem?_eq_getElem (by rw [Hmd.out.1, HSl.out]; exact Hidx.out)⟩
              have z0 := own_get hrw A hu
              have y0 := own_free hrw A
              have hbase := (own_blk hrw).choose_spec.2.1
              have hxx := Keep.new (Hx.out.trans (HwA.out.trans hxa)) p3 fun b e => by rw [e]; exact hbase
              clear hrw hmw hbase
              unfold does
              go_simp
              try exact ⟨p1, p2, hxx⟩
            obtain ⟨h1, h2, h3⟩ := hR
            simp only [Act.put, List.setIfInBounds_toArray, List.set_cons_zero, List.set_cons_succ]
            have Hn1 := hid h1
            have Hn2 := hid h2
            have Hn3 := hid h3
            clear h1 h2 h3
            clear m0 m1 m2 c0 HJ hkb
            go_wp2
            go_roundw
            case rel => exact ⟨k + 1, _, _, by go_num, by omega, Hst.out, Hn1.out, Hn2.out, Hn3.out⟩
            case measure => simp [intOf]; omega
          | false =>
            have Hkb : Hid ((P.ruleV k (P.stAt k)).kind.toList ≠ bBase.toList) := hid (by
              rw [← Hrr.out]
              intro h
              rw [h, bBase_list] at hkb
              cases hkb)
            have HxA := hid (Hx.out.trans HwA.out)
            have Hr2 := hid (own_ext Hrow.out HwA.out)
            have Hm2 := hid (Hmd.out.ext HwA.out)
            have m0' := HBr.out.av 0 rfl
            simp only [List.getElem_toArray, List.getElem_cons_zero, List.getElem_cons_succ] at m0'
            rw [HwAe.out] at m0'
            clear hrb hwA hxA hxk hxr hrow hT hra hnv hlen hA m0 m1 m2
            go_wp2
            rw [← HwAe.out]
            go_roundw
            case rel => exact ⟨k + 1, vs, S, by go_num, by omega, HRd.out.skip Hkb.out, Hr2.out, Hm2.out, HxA.out⟩
            case measure => simp [intOf]; omega
        · obtain rfl : k = P.stmts.length := by omega
          obtain ⟨U, hU⟩ : ∃ U, U = wr := ⟨_, rfl⟩
          subst hU
          clear hlt hk
          go_wp2
          go_loopw [70] (fun t70 wr => ∃ (m : Nat) (vs : List Value) (S : List (List Int)), t70 = .int .i64 (m : Int) ∧ m ≤ EL.length ∧ RoundAt P has EL P.stmts.length m S ∧ wr.ownsRow w2.heap.size 22 1 (.slice a9 has.length c9) has.length vs ∧ Made wr vs S ∧ Ext w2 wr) (fun t70 _ => EL.length - (intOf t70).toNat)
          case atStart => exact ⟨0, vs, S, rfl, Nat.zero_le _, HRd.out, Hrow.out, Hmd.out, Hx.out⟩
          case round =>
            clear HRd Hrow Hmd Hx HSl
            obtain ⟨m, vs, S, rfl, hm1, hra, hr, hm, hx⟩ := hrel
            have HRd := hid hra
            have Hrow := hid hr
            have Hmd := hid hm
            have Hx := hid hx
            have HSl := hid hra.len
            clear hra hr hm hx
            by_cases hlt : m < EL.length
            · obtain ⟨ge, cp, hge⟩ := own_some HrE.out (by omega)
              simp only [Value.slice.injEq] at hge
              obtain ⟨rfl, -, rfl⟩ := hge
              obtain ⟨⟨x, z⟩, hxk⟩ : ∃ x, EL[m]? = some x := ⟨_, List.getElem?_eq_getElem hlt⟩
              obtain ⟨q0, q1⟩ := own_e (own_ext HrE.out Hx.out) hxk
              have hin := edges0_in Hg.out.1 Hg.out.ok _ ((HA.out.mem _).1 (List.mem_of_getElem? hxk)).1
              unfold PP.InN at hin
              obtain ⟨i1, i2, i3, i4⟩ := hin
              simp only at i1 i2 i3 i4
              have hlen := Hg.out.2.1
              obtain ⟨A, rfl⟩ := Int.eq_ofNat_of_zero_le i1
              obtain ⟨B, rfl⟩ := Int.eq_ofNat_of_zero_le i3
              have hAl : A < has.length := by omega
              have hBl : B < has.length := by omega
              obtain ⟨wA, hwA⟩ : ∃ wA, wA = wr.alloc (.cells #[.int .i64 (A : Int), .int .i64 (B : Int)] 126) := ⟨_, rfl⟩
              have hxA : Ext wr wA := by rw [hwA]; exact (Ext.refl _).alloc _
              have HwAe := hid hwA
              have HwA := hid hxA
              have HBe : Hid (Blk wA wr.heap.size #[.int .i64 (A : Int), .int .i64 (B : Int)] 126) := hid (by rw [hwA]; exact Blk.new _ _ _)
              have m0 := HBe.out.kc (X := fun _ => False) (fun e => e) 0 rfl
              have m1 := HBe.out.kc (X := fun _ => False) (fun e => e) 1 rfl
              simp only [List.getElem_toArray, List.getElem_cons_zero, List.getElem_cons_succ] at m0 m1
              obtain ⟨y, l, bl, cl', hya, hl, hc, hI⟩ := (HH2.out.ext Hx.out).at hAl
              subst hya
              have hDl : has.getD A [] = l := by rw [List.getD_eq_getElem?_getD, hl]; rfl
              have hlk' : chkE l = 0 := (Hg.out.ok.ok l (List.mem_of_getElem? hl)).1
              obtain ⟨g9, cp9, hge⟩ := own_some Hrow.out (by omega)
              simp only [Value.slice.injEq] at hge
              obtain ⟨rfl, -, rfl⟩ := hge
              obtain ⟨al, cl, hcl, hIl⟩ := Made.one Hrow.out Hmd.out HSl.out hBl
              have Hidx : Hid (B < has.length) := hid hBl
              have hlk : chkE (S.getD B []) = 0 := HRd.out.ok _ (getD_mem (by rw [HSl.out]; exact hBl))
              obtain ⟨la, hla⟩ : ∃ la, la = S.getD B [] := ⟨_, rfl⟩
              rw [← hla] at hcl hIl hlk
              obtain ⟨lj, hlj⟩ : ∃ lj, lj = sset (la ++ l) := ⟨_, rfl⟩
              have Hst := hid (RoundAt.edge HRd.out hxk (fun l hl => (Hg.out.ok.ok l hl).1) hAl hBl)
              rw [← hla, hDl, ← hlj] at Hst
              have HJ := fun wa (y : Ext wA wa) => hid (fixjoin_any (.slice al la.length cl) (.slice bl l.length cl') la l wa wa.heap.size ad (HS2.out.ext (Hx.out.trans (HwA.out.trans y))) (ElR.lift (hIl.old ((HwA.out.trans y).old _)) (HwA.out.trans y).size) (ElR.lift (hI.old ((HwA.out.trans y).old _)) (Nat.le_trans Hlw.out (Hx.out.trans (HwA.out.trans y)).size)) hlk hlk')
              rw [← hlj] at HJ
              have c0 : ∀ w1, Keep (fun _ => False) wA w1 → w1.cell? ⟨g9, B, none⟩ = some (.slice al la.length cl) := fun w1 k => (HwA.out.trans k.ext).cellx hcl
              have c1' : ∀ w1, Keep (fun _ => False) wA w1 → w1.cell? (y.add A) = some (.slice bl l.length cl') := fun w1 k => (HwA.out.trans k.ext).cellx hc
              have hll : (la.length : Int) ≤ 9223372036854775807 := by have := srt_few hlk; omega
              have hll2 : (l.length : Int) ≤ 9223372036854775807 := by have := srt_few hlk'; omega
              clear hcl hIl hlk hla hlj hwA hxA hxk hlen hl hc hI hDl hlk' i1 i2 i3 i4
              go_wp2
              rw [← HwAe.out]
              clear q0 q1
              refine wp_flowT (fun _ => False) (by kernel_rfl) (by kernel_rfl) ?_
              repeat (apply FlowT.d; (intro w1 hk; unfold does; go_simp; (try go_ints); (first | exact DetR.mk | (simp only [↓IntWalk.iteOmega, Oper.doesUpon_value]; exact DetR.mk) | (simp only [↓IntWalk.iteOmega]; go_simp; (try go_ints); exact DetR.mk))); simp only [Act.put, List.setIfInBounds_toArray, List.set_cons_zero, List.set_cons_succ])
              refine FlowT.s (fun v w' => (∃ x c, v = .slice x lj.length c) ∧ (∀ x c, v = .slice x lj.length c → IntsT w' (.slice x lj.length c) lj) ∧ Ext wA w') 13 rfl (by kernel_rfl) (fun _ _ _ ⟨h1, h2, h3⟩ y => ⟨h1, fun x c e => (h2 x c e).ext y, h3.trans y⟩) (fun wa hC hk2 => ?_) ?_
              · have hxa : Ext wA wa := hC
                have HJa := HJ wa hxa
                unfold does
                go_simp
                refine CallR.act (HJa.out.mono ?_)
                rintro e wb ⟨v, rfl, ⟨x, c, rfl⟩, hT, hx⟩
                refine ⟨_, rfl, hk2.trans (hx.keep _), ⟨x, c, rfl⟩, fun x' c' e => ?_, hxa.trans hx⟩
                rw [← e]
                exact hT
              rintro _ ⟨_, ⟨xj, cj, rfl⟩, _, _⟩
              simp only [Act.put, List.setIfInBounds_toArray, List.set_cons_zero, List.set_cons_succ]
              repeat (apply FlowT.d; (intro w1 hk; unfold does; go_simp; (try go_ints); (first | exact DetR.mk | (simp only [↓IntWalk.iteOmega, Oper.doesUpon_value]; exact DetR.mk) | (simp only [↓IntWalk.iteOmega]; go_simp; (try go_ints); exact DetR.mk))); simp only [Act.put, List.setIfInBounds_toArray, List.set_cons_zero, List.set_cons_succ])
              refine FlowT.last (fun _ w' => w'.ownsRow w2.heap.size 22 1 (.slice (some ⟨g9, 0, none⟩) has.length c9) has.length (vs.set B (.slice xj lj.length cj)) ∧ Made w' (vs.set B (.slice xj lj.length cj)) (S.set B lj) ∧ Ext w2 w') 15 rfl (by kernel_rfl) (by kernel_rfl) (fun wa hC hk2 => ?_) (fun _ w6 hR => ?_)
              · obtain ⟨_, hT, hxa⟩ := hC
                have hT := hT _ _ rfl
                have hrw := own_ext Hrow.out (HwA.out.trans hxa)
                have hmw := Hmd.out.ext (HwA.out.trans hxa)
                obtain ⟨p1, p2, p3⟩ := Made.put hrw hmw HSl.out hT Hidx.out
                obtain ⟨u, hu⟩ : ∃ u, vs[B]? = some u := ⟨_, List.getElem?_eq_getElem (by rw [Hmd.out.1, HSl.out]; exact Hidx.out)⟩
                have z0 := own_get hrw B hu
                have y0 := own_free hrw B
                have hbase := (own_blk hrw).choose_spec.2.1
                have hxx := Keep.new (Hx.out.trans (HwA.out.trans hxa)) p3 fun b e => by rw [e]; exact hbase
                clear hrw hmw hbase
                unfold does
                go_simp
                try exact ⟨p1, p2, hxx⟩
              obtain ⟨h1, h2, h3⟩ := hR
              simp only [Act.put, List.setIfInBounds_toArray, List.set_cons_zero, List.set_cons_succ]
              have Hn1 := hid h1
              have Hn2 := hid h2
              have Hn3 := hid h3
              clear h1 h2 h3
              clear m0 m1 c0 c1' HJ
              go_wp2
              go_roundw
              case rel => exact ⟨m + 1, _, _, by go_num, by omega, Hst.out, Hn1.out, Hn2.out, Hn3.out⟩
              case measure => simp [intOf]; omega
            · obtain rfl : m = EL.length := by omega
              have He : Hid (S = P.roundV has) := hid (HRd.out.uniq HRA.out)
              have HF : Hid (Made wr vs (P.roundV has)) := hid (by rw [← He.out]; exact Hmd.out)
              have HFl : Hid ((P.roundV has).length = has.length) := hid (by rw [← He.out]; exact HSl.out)
              go_wp2
              go_ret2
              exact ⟨_, _, vs, rfl, own_low Hrow.out Hlw.out, HF.out, HFl.out, Hxw2.out.trans Hx.out⟩
theorem fixround_ok (a1 a2 a3 : Option Addr) (c1 c2 c3 : Nat) (P : PP) (hv : Value) (has : List (List Int)) (w : World) (ad : Nat → Addr) (h : PW w w.heap.size ad a1 a2 a3 c1 c2 c3 P) (hS : ErrS w ad) (hh : SetsR w w.heap.size hv has) (hg : P.GoodS has) :
    Calls Tryz.prog 33 #[pval a1 a2 a3 c1 c2 c3 P, hv] w fun e w' => ∃ a c, e = .returned (.tuple #[.slice a has.length c, .nilIface]) ∧ SetsR w' w'.heap.size (.slice a has.length c) (P.roundV has) ∧ Ext w w' :=
  (fixround_made a1 a2 a3 c1 c2 c3 P hv has w ad h hS hh hg).mono fun e w' ⟨a, c, vs, he, hr, hm, hl, hx⟩ => by
    refine ⟨a, c, he, ?_, hx⟩
    have := SetsR.made (v := .slice a has.length c) (L := P.roundV has) (by rw [hl]; exact hr) hm
    exact this
end Go.Proofs.YtoaoienfggjepaaGreatDoor



/- The least answer (fix.Least). -/
namespace Go.Proofs.YtoaoienfggjepaaGreatDoor
set_option linter.unusedSimpArgs false
set_option linter.unusedVariables false
open Go Go.RowKit

theorem first_of {p : Nat → Prop} : ∀ n, p n → ∃ m, p m ∧ ∀ k, k < m → ¬ p k := fun n => by
  induction n using Nat.strongRecOn with
  | _ n ih =>
    intro hn
    rcases Classical.em (∃ k, k < n ∧ p k) with ⟨k, hk, hp⟩ | h
    · exact ih k hk hp
    · exact ⟨n, hn, fun k hk hp => h ⟨k, hk, hp⟩⟩
theorem iter_total {P : PP} (hw : P.Well) : ∀ n, (∀ m, m < n → P.roundV (P.iterV m) ≠ P.iterV m) → n ≤ total (P.iterV n)
  | 0, _ => Nat.zero_le _
  | n + 1, h => by
    have h1 := iter_total hw n fun m hm => h m (by omega)
    have h2 := iter_grows hw n (h n (by omega))
    omega
theorem least_exists {P : PP} (hw : P.Well) : ∃ n S, LeastAt P n S := by
  have h : ∃ n, P.roundV (P.iterV n) = P.iterV n := by
    rcases Classical.em (∃ n, P.roundV (P.iterV n) = P.iterV n) with h | h
    · exact h
    · have h1 := iter_total hw 200000 fun m _ e => h ⟨m, e⟩
      have h2 := iter_few hw 200000
      omega
  obtain ⟨n, hn⟩ := h
  obtain ⟨m, hm, hf⟩ := first_of (p := fun n => P.roundV (P.iterV n) = P.iterV n) n hn
  exact ⟨m, P.iterV m, rfl, hm, hf⟩
theorem LeastAt.few {P : PP} (hw : P.Well) {n : Nat} {S : List (List Int)} (h : LeastAt P n S) : n ≤ 120000 := by
  have h1 := iter_total hw n fun m hm => h.first m hm
  have h2 := iter_few hw n
  omega
theorem made_nil (w : World) (N : Nat) : Made w (List.replicate N (.slice none 0 0)) (List.replicate N []) := by
  refine ⟨by simp, fun i v l hv hl => ?_⟩
  obtain rfl := List.eq_of_mem_replicate (List.mem_of_getElem? hv)
  obtain rfl := List.eq_of_mem_replicate (List.mem_of_getElem? hl)
  exact IntsT.nil w
set_option maxRecDepth 100000 in
set_option maxHeartbeats 1600000 in
theorem fixleast_no (a1 a2 a3 : Option Addr) (c1 c2 c3 : Nat) (P : PP) (w : World) (n0 : Nat) (ad : Nat → Addr) (h : PS0 w n0 ad a1 a2 a3 c1 c2 c3 P) (hw : ¬ P.Well) :
    Calls Tryz.prog 25 #[pval a1 a2 a3 c1 c2 c3 P] w fun e w' => ∃ t x, e = .returned (.tuple #[.slice none 0 0, .int .i64 0, .iface t (.pointer (some x))]) ∧ ErrIs ad P w' (.iface t (.pointer (some x))) ∧ Ext w w' := by
  obtain ⟨W, hW⟩ : ∃ W, W = w.alloc (.cells (pcells a1 a2 a3 c1 c2 c3 P) 39) := ⟨_, rfl⟩
  have HX : Hid (Ext w W) := hid (by rw [hW]; exact (Ext.refl _).alloc _)
  have HBx : Hid (Blk W w.heap.size (pcells a1 a2 a3 c1 c2 c3 P) 39) := hid (by rw [hW]; exact Blk.new _ _ _)
  have HWe : Hid (W = w.alloc (.cells #[.slice a1 P.vars.length c1, .slice a2 P.funs.length c2, .slice a3 P.stmts.length c3] 39)) := hid (by rw [hW]; rfl)
  have hml : (P.vars.length : Int) ≤ 9223372036854775807 := by
    obtain ⟨_, _, _, h2, h3, _⟩ := h.prog.vars
    omega
  have HK := hid (pcheck_any a1 a2 a3 c1 c2 c3 P W n0 ad (h.errs.ext HX.out) (h.prog.ext HX.out) h.z1 h.z2 hml)
  have Hw := hid hw
  have d0 := HBx.out.av 0 rfl
  have d1 := HBx.out.av 1 rfl
  have d2 := HBx.out.av 2 rfl
  simp only [pcells, List.getElem_toArray, List.getElem_cons_zero, List.getElem_cons_succ] at d0 d1 d2
  rw [HWe.out] at d0 d1 d2
  unfold pval at HK ⊢
  clear hW h hw
  go_enter Tryz.func25, Tryz.ntmps25
  go_wp2_with fail
  rw [← HWe.out]
  refine HK.out.mono ?_
  intro e w1 hx
  obtain ⟨v, rfl, hi, hx1⟩ := hx
  obtain ⟨t, x, rfl⟩ : ∃ t x, v = .iface t (.pointer (some x)) := by
    rcases hi.form with ⟨_, h⟩ | ⟨h, _⟩
    · exact absurd h Hw.out
    · exact h
  have Hi := hid hi
  have Hx1 := hid (HX.out.trans hx1)
  clear HK hx1 hi d0 d1 d2
  go_wp2
  refine bodyPost_ret (v := .tuple #[.slice none 0 0, .int .i64 0, .iface t (.pointer (some x))]) (by simp [results, Tryz.results25, go_sem]) rfl ?_
  exact ⟨t, x, rfl, Hi.out, Hx1.out⟩
set_option maxRecDepth 100000 in
set_option maxHeartbeats 3200000 in
theorem fixleast_ok (a1 a2 a3 : Option Addr) (c1 c2 c3 : Nat) (P : PP) (w : World) (ad : Nat → Addr) (h : PW w w.heap.size ad a1 a2 a3 c1 c2 c3 P) (hS : ErrS w ad) (n : Nat) (S : List (List Int)) (hL : LeastAt P n S) :
    Calls Tryz.prog 25 #[pval a1 a2 a3 c1 c2 c3 P] w fun e w' => ∃ a c, e = .returned (.tuple #[.slice a P.nodesV c, .int .i64 (n : Int), .nilIface]) ∧ SetsR w' w'.heap.size (.slice a P.nodesV c) S ∧ Ext w w' := by
  have Hw := hid h.well
  have HLe := hid hL
  have hn12 := hL.few h.well
  obtain ⟨hf1, hf2, hf3⟩ := h.well.few
  obtain ⟨W, hW⟩ : ∃ W, W = w.alloc (.cells (pcells a1 a2 a3 c1 c2 c3 P) 39) := ⟨_, rfl⟩
  have HX : Hid (Ext w W) := hid (by rw [hW]; exact (Ext.refl _).alloc _)
  have HBx : Hid (Blk W w.heap.size (pcells a1 a2 a3 c1 c2 c3 P) 39) := hid (by rw [hW]; exact Blk.new _ _ _)
  have HWe : Hid (W = w.alloc (.cells #[.slice a1 P.vars.length c1, .slice a2 P.funs.length c2, .slice a3 P.stmts.length c3] 39)) := hid (by rw [hW]; rfl)
  have HK := hid (check_well (h.errs.ext HX.out) (h.prog.ext HX.out) h.z1 h.z2 h.well)
  have HNo := fun w1 (x : Ext w w1) => hid (prognodes_any a1 a2 a3 c1 c2 c3 P w1 w.heap.size ad (h.errs.ext x) (h.prog.ext x) h.z1 h.z2 h.well)
  have HPW := hid h
  have HS := hid hS
  have hN6 := nodesV_le P h.well
  have HRo := fun w1 (x : Ext w w1) hv has (hh : SetsR w1 w1.heap.size hv has) (hg : P.GoodS has) => hid (fixround_ok a1 a2 a3 c1 c2 c3 P hv has w1 ad ((HPW.out.ext x).lift x.size) (HS.out.ext x) hh hg)
  have HGd := fun k => hid (iterV_good h.well k)
  obtain ⟨N, hN⟩ : ∃ N, N = P.nodesV := ⟨_, rfl⟩
  rw [← hN] at HNo hN6 ⊢
  have HN := hid hN
  have d0 := HBx.out.av 0 rfl
  have d1 := HBx.out.av 1 rfl
  have d2 := HBx.out.av 2 rfl
  simp only [pcells, List.getElem_toArray, List.getElem_cons_zero, List.getElem_cons_succ] at d0 d1 d2
  rw [HWe.out] at d0 d1 d2
  unfold pval at HK HNo HRo ⊢
  clear hW h hS hL hN
  go_enter Tryz.func25, Tryz.ntmps25
  go_wp2_with fail
  rw [← HWe.out]
  refine HK.out.mono ?_
  intro e w1 hx
  obtain ⟨rfl, hx1⟩ := hx
  have Hx1 := hid hx1
  have HN1 := HNo w1 (HX.out.trans hx1)
  clear HK hx1 d0 d1 d2 HNo
  have d0 := (HBx.out.ext Hx1.out).av 0 rfl
  have d1 := (HBx.out.ext Hx1.out).av 1 rfl
  have d2 := (HBx.out.ext Hx1.out).av 2 rfl
  simp only [pcells, List.getElem_toArray, List.getElem_cons_zero, List.getElem_cons_succ] at d0 d1 d2
  go_wp2_with fail
  refine HN1.out.mono ?_
  intro e w2 hx
  obtain ⟨rfl, hx2⟩ := hx
  have Hx2 := hid (Hx1.out.trans hx2)
  obtain ⟨bi, hbi, hbz, hbs, hbb⟩ := info_parts rows_info
  clear HN1 hx2 d0 d1 d2
  go_wp2_with (at_make; refine wpList_make_full w2 rfl _ _ _ rfl w2.heap.size 22 bi (.slice none 0 0) 1 Tryz.underlying44 hbi hbz hbs .i64 .i64 (N : Int) (N : Int) N rfl rfl rfl rfl (by rw [hbb]; omega) (by unfold maxLen; omega) (Nat.le_refl _) ?_; intro w3 hrow hgr)
  have hx3 : Ext w2 w3 := Keep.new (Ext.refl w2) (grown_keep hgr) (fun k hk => by cases hk)
  rw [show (Value.slice none 0 0).cells = #[Value.slice none 0 0] from rfl, toList_madeCells_one, Nat.mul_one] at hrow
  have Hx3 := hid (Hx2.out.trans hx3)
  have HS0 : Hid (SetsR w3 w3.heap.size (.slice (some ⟨w2.heap.size, 0, none⟩) N N) (P.iterV 0)) := hid (by
    have h1 := SetsR.made (v := .slice (some ⟨w2.heap.size, 0, none⟩) N N) (L := List.replicate N []) (by rw [List.length_replicate]; exact hrow) (made_nil w3 N)
    have e0 : P.iterV 0 = List.replicate N [] := by rw [HN.out]; rfl
    exact e0 ▸ h1)
  clear hrow hgr hx3 hbi hbz hbs hbb
  go_wp2
  go_loopw [6, 7] (fun t6 t7 wr => ∃ (k : Nat) (a : Option Addr) (c : Nat), t7 = .int .i64 (k : Int) ∧ t6 = .slice a N c ∧ k ≤ n ∧ SetsR wr wr.heap.size (.slice a N c) (P.iterV k) ∧ Ext W wr) (fun _ t7 _ => 200000 - (intOf t7).toNat)
  case atStart => exact ⟨0, _, _, rfl, rfl, Nat.zero_le _, HS0.out, Hx3.out⟩
  case round =>
    clear HS0 Hx3
    obtain ⟨k, a, c, rfl, rfl, hk, hs, hx⟩ := hrel
    have Hx := hid hx
    have Hs := hid hs
    have hlen : (P.iterV k).length = N := by rw [HN.out]; exact (HGd k).out.2.1
    have HC := HRo wr (HX.out.trans hx) (.slice a N c) (P.iterV k) hs (HGd k).out
    have d0 := (HBx.out.ext hx).av 0 rfl
    have d1 := (HBx.out.ext hx).av 1 rfl
    have d2 := (HBx.out.ext hx).av 2 rfl
    simp only [pcells, List.getElem_toArray, List.getElem_cons_zero, List.getElem_cons_succ] at d0 d1 d2
    rw [hlen] at HC
    clear hs hx hlen HRo
    go_wp2_with fail
    refine HC.out.mono ?_
    intro e w5 hx
    obtain ⟨a5, c5, rfl, hs5, hx5⟩ := hx
    have Hx5 := hid (Hx.out.trans hx5)
    have Hs5 := hid hs5
    have Hso := hid ((Hs.out.ext hx5).lift hx5.size)
    have HSm := hid (fixsame_any (.slice a5 N c5) (.slice a N c) (P.roundV (P.iterV k)) (P.iterV k) w5 w5.heap.size hs5 ((Hs.out.ext hx5).lift hx5.size))
    obtain ⟨d, hd⟩ : ∃ d, d = decide (P.roundV (P.iterV k) = P.iterV k) := ⟨_, rfl⟩
    rw [← hd] at HSm
    have Hd := hid hd
    clear HC hs5 hx5 d0 d1 d2 hd
    go_wp2_with fail
    refine HSm.out.mono ?_
    intro e w6 hx
    obtain ⟨rfl, hx6⟩ := hx
    have Hx6 := hid (Hx5.out.trans hx6)
    have Hs6 := hid ((Hs5.out.ext hx6).lift hx6.size)
    have Hso6 := hid ((Hso.out.ext hx6).lift hx6.size)
    clear HSm
    cases d with
    | true =>
      have hfix : P.roundV (P.iterV k) = P.iterV k := of_decide_eq_true Hd.out.symm
      have hkn : k = n := by
        rcases Nat.lt_or_ge k n with g | g
        · exact absurd hfix (HLe.out.first k g)
        · omega
      subst hkn
      have HF : Hid (SetsR w6 w6.heap.size (.slice a N c) S) := hid (by
        rw [HLe.out.eq]
        exact Hso6.out)
      clear hx6 hfix
      go_wp2
      refine bodyPost_ret (v := .tuple #[.slice a N c, .int .i64 (k : Int), .nilIface]) (by simp [results, Tryz.results25, go_sem]) rfl ?_
      exact ⟨a, c, rfl, HF.out, HX.out.trans Hx6.out⟩
    | false =>
      have hne : P.roundV (P.iterV k) ≠ P.iterV k := of_decide_eq_false Hd.out.symm
      have hkn : k < n := by
        rcases Nat.lt_or_ge k n with g | g
        · exact g
        · obtain rfl : k = n := by omega
          exact absurd (by rw [← HLe.out.eq]; exact HLe.out.fix) hne
      have Hs7 : Hid (SetsR w6 w6.heap.size (.slice a5 N c5) (P.iterV (k + 1))) := hid Hs6.out
      clear hx6 hne
      go_wp2
      go_roundw
      case rel => exact ⟨k + 1, a5, c5, by go_num, rfl, by omega, Hs7.out, Hx6.out⟩
      case measure => simp [intOf]; omega
end Go.Proofs.YtoaoienfggjepaaGreatDoor



/- ObjectOf of the reference. -/
namespace Go.Proofs.YtoaoienfggjepaaGreatDoor
set_option linter.unusedSimpArgs false
set_option linter.unusedVariables false
open Go Go.RowKit

def vkVar : List UInt8 := [118, 97, 114]
def vkThing : List UInt8 := [116, 104, 105, 110, 103]
def vkFun : List UInt8 := [102, 117, 110]
def PP.objV (P : PP) (pl : List Int) (k : List UInt8) (n : Int) : Int :=
  bif k == vkVar then (if 0 ≤ n ∧ n < P.vars.length then n else -1) else
  bif k == vkThing then (if 0 ≤ n ∧ n < pl.length then P.placeV (pl.getD n.toNat 0) else -1) else
  bif k == vkFun then (if 0 ≤ n ∧ n < P.funs.length then (P.nodesV : Int) + n else -1) else -1
theorem PP.nodesV_le (P : PP) : P.nodesV ≤ P.vars.length + P.stmts.length := by
  unfold PP.nodesV
  have := P.newsN_le P.stmts.length
  omega

end Go.Proofs.YtoaoienfggjepaaGreatDoor



/- run.Object. -/
namespace Go.Proofs.YtoaoienfggjepaaGreatDoor
set_option linter.unusedSimpArgs false
set_option linter.unusedVariables false
open Go Go.RowKit

end Go.Proofs.YtoaoienfggjepaaGreatDoor



/- sameState. -/
namespace Go.Proofs.YtoaoienfggjepaaGreatDoor
set_option linter.unusedSimpArgs false
set_option linter.unusedVariables false
open Go Go.RowKit

end Go.Proofs.YtoaoienfggjepaaGreatDoor

