/- Texts of one proof, put together: E4 E5 E6 ZZ6. -/
import Derived.Test.YtdppgcbekhabnaaGreatDoorSD10
import Derived.Test.YtdppgcbekhabnaaGreatDoorSD22
import Derived.OwnWalk

/- A round of rules (fix.Round), of a well program and sets that are well. -/
namespace Go.Proofs.YtdppgcbekhabnaaGreatDoor
set_option linter.unusedSimpArgs false
set_option linter.unusedVariables false
open Go Go.RowKit

theorem Made.put {w : World} {base g cap N : Nat} {vs : List Value} {L : List (List Int)} {n : Nat} {v : Value} {l : List Int} (hr : w.ownsRow base 27 1 (.slice (some ⟨g, 0, none⟩) N cap) N vs) (hm : Made w vs L) (hL : L.length = N) (hv : IntsT w v l) (hn : n < N) :
    (w.setCell ⟨g, n, none⟩ v).ownsRow base 27 1 (.slice (some ⟨g, 0, none⟩) N cap) N (vs.set n v) ∧ Made (w.setCell ⟨g, n, none⟩ v) (vs.set n v) (L.set n l) ∧ Keep (fun q => q = g) w (w.setCell ⟨g, n, none⟩ v) := by
  have k : Keep (fun q => q = g) w (w.setCell ⟨g, n, none⟩ v) := Keep.set (X := fun q => q = g) (Keep.refl _ _) rfl _
  have hni : ∀ b, b = g → ¬ IsInt w b := fun b e => by
    subst e
    obtain ⟨c, hc⟩ := own_ty hr (k := b) rfl
    exact notInt hc (by decide)
  have hvs := hm.1
  refine ⟨own_set hr n (by omega) v, ⟨by rw [List.length_set, List.length_set]; exact hvs, fun i u m hu hl => ?_⟩, k⟩
  by_cases hi : n = i
  · subst hi
    rw [List.getElem?_set_self (by omega)] at hu hl
    obtain rfl := Option.some.inj hu
    obtain rfl := Option.some.inj hl
    exact hv.keep k hni
  · rw [List.getElem?_set_ne hi] at hu hl
    exact (hm.2 i u m hu hl).keep k hni
/-- One of the lists of a row that was made. -/
theorem Made.one {w : World} {base g cap N : Nat} {vs : List Value} {S : List (List Int)} (hr : w.ownsRow base 27 1 (.slice (some ⟨g, 0, none⟩) N cap) N vs) (hm : Made w vs S) (hL : S.length = N) {n : Nat} (hn : n < N) : ∃ a c, w.cell? ⟨g, n, none⟩ = some (.slice a (S.getD n []).length c) ∧ IntsR w w.heap.size (.slice a (S.getD n []).length c) (S.getD n []) := by
  have hvs := hm.1
  have h1 : vs[n]? = some (vs[n]'(by omega)) := List.getElem?_eq_getElem (by omega)
  have h2 : S[n]? = some (S[n]'(by omega)) := List.getElem?_eq_getElem (by omega)
  have hT := hm.2 n _ _ h1 h2
  obtain ⟨a, c, ha⟩ := hT.form
  have e : S.getD n [] = S[n]'(by omega) := by rw [List.getD_eq_getElem?_getD, h2]; rfl
  rw [e]
  rw [ha] at h1
  exact ⟨a, c, own_get hr n h1, by rw [← ha]; exact hT.1⟩

set_option maxRecDepth 100000 in
set_option maxHeartbeats 6400000 in
theorem fixround_made (a1 a2 a3 : Option Addr) (c1 c2 c3 : Nat) (P : PP) (hv : Value) (has : List (List Int)) (w : World) (ad : Nat → Addr) (h : PW w w.heap.size ad a1 a2 a3 c1 c2 c3 P) (hS : ErrS w ad) (hh : SetsR w w.heap.size hv has) (hg : P.GoodS has) :
    Calls Tryz.prog 58 #[pval a1 a2 a3 c1 c2 c3 P, hv] w fun e w' => ∃ a c vs, e = .returned (.tuple #[.slice a has.length c, .nilIface]) ∧ w'.ownsRow w.heap.size 27 1 (.slice a has.length c) has.length vs ∧ Made w' vs (P.roundV has) ∧ (P.roundV has).length = has.length ∧ Ext w w' := by
  obtain ⟨ah, ch, rfl⟩ := hh.form
  have hhl := hh.len
  have Hg := hid hg
  obtain ⟨hf1, hf2, hf3⟩ := hg.1.few
  have hN6 : has.length ≤ 120 := by have := nodesV_le P hg.1; have := hg.2.1; omega
  obtain ⟨W, hW⟩ : ∃ W, W = w.alloc (.cells (pcells a1 a2 a3 c1 c2 c3 P) 26) := ⟨_, rfl⟩
  have HX : Hid (Ext w W) := hid (by rw [hW]; exact (Ext.refl _).alloc _)
  have HBx : Hid (Blk W w.heap.size (pcells a1 a2 a3 c1 c2 c3 P) 26) := hid (by rw [hW]; exact Blk.new _ _ _)
  have HWe : Hid (W = w.alloc (.cells #[.slice a1 P.vars.length c1, .slice a2 P.funs.length c2, .slice a3 P.stmts.length c3] 26)) := hid (by rw [hW]; rfl)
  have HE1 := hid (edges_fix a1 a2 a3 c1 c2 c3 P (.slice ah has.length ch) has W ad ((h.ext HX.out).lift HX.out.size) (hS.ext HX.out) ((hh.ext HX.out).lift HX.out.size) hg)
  have HO := fun w1 (x : Ext W w1) => hid (consof_yes a1 a2 a3 c1 c2 c3 P w1 w1.heap.size ad ((h.ext (HX.out.trans x)).lift (HX.out.trans x).size))
  have HH := hid (hh.ext HX.out)
  have HS := hid (hS.ext HX.out)
  have hEl := edgesL_len hg.1 has
  have HRA := hid (roundV_at hg)
  have HA := hid (edgesL_are hg)
  obtain ⟨EL, hEL⟩ : ∃ EL, EL = P.edgesL has := ⟨_, rfl⟩
  rw [← hEL] at HE1 hEl HRA HA
  have d0 := HBx.out.av 0 rfl
  have d1 := HBx.out.av 1 rfl
  have d2 := HBx.out.av 2 rfl
  simp only [pcells, List.getElem_toArray, List.getElem_cons_zero, List.getElem_cons_succ] at d0 d1 d2
  rw [HWe.out] at d0 d1 d2
  unfold pval at HE1 HO ⊢
  clear hW h hS hh hg hEL
  go_enter Tryz.func58, Tryz.ntmps58
  go_wp2_with fail
  rw [← HWe.out]
  refine HE1.out.mono ?_
  intro e w1 hx
  obtain ⟨ae, ce, rfl, hr, _, hx1⟩ := hx
  have Hr1 := hid hr
  have Hx1 := hid hx1
  have HO1 := HO w1 hx1
  clear HE1 HO hr hx1 d0 d1 d2
  have d0 := (HBx.out.ext Hx1.out).av 0 rfl
  have d1 := (HBx.out.ext Hx1.out).av 1 rfl
  have d2 := (HBx.out.ext Hx1.out).av 2 rfl
  simp only [pcells, List.getElem_toArray, List.getElem_cons_zero, List.getElem_cons_succ] at d0 d1 d2
  go_wp2_with fail
  refine HO1.out.mono ?_
  intro e w2 hx
  obtain ⟨v2, rs, rfl, hi, hx2⟩ := hx
  obtain ⟨bv, dv, rfl⟩ := row_form hi.row
  rw [show P.rulesV.length = P.stmts.length from P.rulesUp_len _] at hi ⊢
  have HI := hid hi
  have Hx2 := hid (Hx1.out.trans hx2)
  have HrE := hid (Hr1.out.ext hx2)
  have HH2 := hid (HH.out.ext Hx2.out)
  have HS2 := hid (HS.out.ext Hx2.out)
  have Hxw2 := hid (HX.out.trans Hx2.out)
  have Hlw : Hid (w.heap.size ≤ w2.heap.size) := hid Hxw2.out.size
  clear HO1 hi hx2 d0 d1 d2 Hr1 HH HS
  go_wp2
  go_loopw [9, 35] (fun t9 t35 wr => ∃ (k : Nat) (vs : List Value), t35 = .int .i64 (k : Int) ∧ k ≤ has.length ∧ wr.ownsRow w2.heap.size 27 1 t9 k vs ∧ Made wr vs (has.take k) ∧ Ext w2 wr) (fun _ t35 _ => has.length - (intOf t35).toNat)
  case atStart => exact ⟨0, [], rfl, Nat.zero_le _, World.ownsRow_nil _ _ _ _, ⟨rfl, fun i v l h => by cases h⟩, Ext.refl _⟩
  case round =>
    obtain ⟨k, vs, rfl, hk, hr, hm, hx⟩ := hrel
    obtain ⟨a9, c9, rfl⟩ := row_form hr
    have Hr := hid hr
    have Hm := hid hm
    have Hx := hid hx
    clear hr hm hx
    by_cases hlt : k < has.length
    · obtain ⟨y, l, b, c, hya, hl, hc, hI⟩ := (HH2.out.ext Hx.out).at hlt
      subst hya
      have hll := srt_few (Hg.out.ok.ok l (List.mem_of_getElem? hl)).1
      have HC := hid (clone_big (.slice b l.length c) l wr w.heap.size hI (by omega))
      have Hl := hid hl
      clear hl hI
      go_wp2_with fail
      refine HC.out.mono ?_
      intro e w3 hx
      obtain ⟨v3, rfl, hx3, hr3⟩ := hx
      have HT := hid (IntsT.row hr3)
      obtain ⟨a3', c3', rfl⟩ := hr3.form
      have Hx3 := hid hx3
      clear HC hr3 hx3 hc
      have hxa : Hid (Ext w2 (w3.alloc (.cells #[.slice a3' l.length c3'] 27))) := hid ((Hx.out.trans Hx3.out).alloc _)
      have hx3a : Hid (Ext wr (w3.alloc (.cells #[.slice a3' l.length c3'] 27))) := hid (Hx3.out.alloc _)
      have Hra := hid (own_ext Hr.out hx3a.out)
      have Hma := hid ((Hm.out.ext hx3a.out).snoc (HT.out.ext ((Ext.refl w3).alloc (.cells #[.slice a3' l.length c3'] 27))))
      go_wp2_with (at_builtin; refine wpList_append_el w2.heap.size hxa.out.size 40 27 (.slice none 0 0) 1 24 Tryz.underlying40 rows_info rfl (by omega) (by omega) rfl _ _ rfl (.slice a9 k c9) k vs rfl Hra.out w3.heap.size [.slice a3' l.length c3'] rfl (by simp [Value.oneCell']) rfl (Blk.new _ _ _) (by omega) ?_; intro v' w' h1 h2 h4; obtain ⟨a', c', rfl⟩ := row_form h1; have h3 := hid (Keep.new hxa.out h2 (fun k hk => (World.ownsRow.lt Hra.out k hk).1)); have hm5 := hid (Hma.out.keep h2 (fun b e => by obtain ⟨c, hc⟩ := own_ty Hra.out e; exact IsInt.not hc (by decide))); have h1 := hid h1; clear h2 h4)
      go_roundw
      case rel =>
        refine ⟨k + 1, _, by go_num, by omega, h1.out, ?_, h3.out⟩
        rw [List.take_add_one, Hl.out]
        exact hm5.out
      case measure => simp [intOf]; omega
    · obtain rfl : k = has.length := by omega
      rw [List.take_of_length_le (Nat.le_refl _)] at Hm
      obtain ⟨V, hV⟩ : ∃ V, V = wr := ⟨_, rfl⟩
      subst hV
      clear hlt hk
      go_wp2
      go_loopw [47] (fun t47 wr => ∃ (k : Nat) (vs : List Value) (S : List (List Int)), t47 = .int .i64 (k : Int) ∧ k ≤ P.stmts.length ∧ RoundAt P has EL k 0 S ∧ wr.ownsRow w2.heap.size 27 1 (.slice a9 has.length c9) has.length vs ∧ Made wr vs S ∧ Ext w2 wr) (fun t47 _ => P.stmts.length - (intOf t47).toNat)
      case atStart => exact ⟨0, vs, has, rfl, Nat.zero_le _, RoundAt.start Hg.out EL, Hr.out, Hm.out, Hx.out⟩
      case round =>
        clear Hr Hm Hx
        obtain ⟨k, vs, S, rfl, hk, hra, hr, hm, hx⟩ := hrel
        have HRd := hid hra
        have Hrow := hid hr
        have Hmd := hid hm
        have Hx := hid hx
        have HSl := hid hra.len
        clear hra hr hm hx
        by_cases hlt : k < P.stmts.length
        · obtain ⟨g, cp, hge⟩ := own_some HI.out.row (by rw [show P.rulesV.length = P.stmts.length from P.rulesUp_len _]; omega)
          simp only [Value.slice.injEq] at hge
          obtain ⟨rfl, -, rfl⟩ := hge
          obtain ⟨x, hxk, hxr⟩ := rules_at HI.out.eq hlt
          have hrow := own_ext HI.out.row Hx.out
          rw [show P.rulesV.length = P.stmts.length from P.rulesUp_len _] at hrow
          obtain ⟨q0, q1, q2, q3, q4⟩ := own_r hrow hxk
          have hT := HI.out.args x (List.mem_of_getElem? hxk)
          obtain ⟨aa, ca, hav⟩ := hT.form
          obtain ⟨r, xv⟩ := x
          simp only at hav hxr q0 q1 q2 q3 q4
          subst hav
          obtain ⟨wA, hwA⟩ : ∃ wA, wA = wr.alloc (.cells #[.string r.kind, .int .i64 r.a, .int .i64 r.b, .int .i64 r.k, .slice aa r.args.length ca] 86) := ⟨_, rfl⟩
          have hxA : Ext wr wA := by rw [hwA]; exact (Ext.refl _).alloc _
          have HwAe := hid hwA
          have HwA := hid hxA
          have HBr : Hid (Blk wA wr.heap.size #[.string r.kind, .int .i64 r.a, .int .i64 r.b, .int .i64 r.k, .slice aa r.args.length ca] 86) := hid (by rw [hwA]; exact Blk.new _ _ _)
          have hra := rule_a_in Hg.out.1 hlt
          rw [← hxr] at hra
          have hrb := fun hb => base_b_in Hg.out.1 hlt hb
          rw [← hxr] at hrb
          have hob := objects_few Hg.out.1
          have Hrr := hid hxr
          have hnv := nodes_vars P
          have hlen := Hg.out.2.1
          obtain ⟨A, hA⟩ := Int.eq_ofNat_of_zero_le hra.1
          have hAl : A < has.length := by omega
          have m0 := HBr.out.kc (X := fun _ => False) (fun e => e) 0 rfl
          have m1 := HBr.out.kc (X := fun _ => False) (fun e => e) 1 rfl
          have m2 := HBr.out.kc (X := fun _ => False) (fun e => e) 2 rfl
          simp only [List.getElem_toArray, List.getElem_cons_zero, List.getElem_cons_succ] at m0 m1 m2
          cases hkb : (r.kind.toList == [98, 97, 115, 101]) with
          | true =>
            have hkl : r.kind.toList = bBase.toList := (eq_of_beq hkb).trans (eq_of_beq bBase_list).symm
            have Hkb : Hid ((P.ruleV k (P.stAt k)).kind.toList = bBase.toList) := hid (by rw [← Hrr.out]; exact hkl)
            have hb := hrb hkl
            have Hb : Hid (0 ≤ r.b ∧ r.b < 1000) := hid (by omega)
            obtain ⟨g9, cp9, hge⟩ := own_some Hrow.out (by omega)
            simp only [Value.slice.injEq] at hge
            obtain ⟨rfl, -, rfl⟩ := hge
            obtain ⟨al, cl, hcl, hIl⟩ := Made.one Hrow.out Hmd.out HSl.out hAl
            have Hidx : Hid (A < has.length) := hid hAl
            have hlk : chkE (S.getD A []) = 0 := HRd.out.ok _ (getD_mem (by rw [HSl.out]; exact hAl))
            obtain ⟨la, hla⟩ : ∃ la, la = S.getD A [] := ⟨_, rfl⟩
            rw [← hla] at hcl hIl hlk
            obtain ⟨lj, hlj⟩ : ∃ lj, lj = sset (la ++ [r.b]) := ⟨_, rfl⟩
            have Hst := hid (RoundAt.base HRd.out Hkb.out (by rw [← Hrr.out]; exact hA) (by rw [← Hrr.out]) Hb.out hAl)
            rw [← hla, ← hlj] at Hst
            have hbk : chkE [r.b] = 0 := chkE_zero.2 ⟨fun z hz => by obtain rfl := List.mem_singleton.1 hz; exact Hb.out, List.pairwise_singleton _ _⟩
            have HJ := fun bq wa (y : Ext wA wa) (hB : Blk wa bq #[.int .i64 r.b] 3) => hid (fixjoin_any (.slice al la.length cl) (.slice (some ⟨bq, 0, none⟩) 1 1) la [r.b] wa wa.heap.size ad (HS2.out.ext (Hx.out.trans (HwA.out.trans y))) (ElR.lift (hIl.old ((HwA.out.trans y).old _)) (HwA.out.trans y).size) (IntsR.blk (l := [r.b]) hB rfl (by simp)) hlk hbk)
            rw [← hlj] at HJ
            have c0 : ∀ w1, Keep (fun _ => False) wA w1 → w1.cell? ⟨g9, A, none⟩ = some (.slice al la.length cl) := fun w1 k => (HwA.out.trans k.ext).cellx hcl
            have hll : (la.length : Int) ≤ 9223372036854775807 := by have := srt_few hlk; omega
            rw [hA] at m1
            clear hcl hIl hlk hla hlj hbk hrb hb hkl hwA hxA hxk hxr hrow hT hra hnv hlen hA
            go_wp2
            rw [← HwAe.out]
            refine wp_flowT (fun _ => False) (by kernel_rfl) (by kernel_rfl) ?_
            repeat (apply FlowT.d; (intro w1 hk; unfold does; go_simp; (try go_ints); (first | exact DetR.mk | (simp only [↓IntWalk.iteOmega, Oper.doesUpon_value]; exact DetR.mk) | (simp only [↓IntWalk.iteOmega]; go_simp; (try go_ints); exact DetR.mk))); simp only [Act.put, List.setIfInBounds_toArray, List.set_cons_zero, List.set_cons_succ])
            refine FlowT.s (fun v w' => (∃ b, v = .slice (some ⟨b, 0, none⟩) 1 1) ∧ (∀ b, v = .slice (some ⟨b, 0, none⟩) 1 1 → Blk w' b #[.int .i64 r.b] 3) ∧ Ext wA w') 10 rfl (by kernel_rfl) (fun _ _ _ ⟨h1, h2, h3⟩ y => ⟨h1, fun b e => (h2 b e).ext y, h3.trans y⟩) (fun wa hC hk2 => ?_) ?_
            · unfold does
              go_simp
              exact ⟨hk2.alloc _, ⟨_, rfl⟩, fun b e => by
                obtain rfl : wa.heap.size = b := by simpa using e
                exact Blk.new _ _ _, hC.alloc _⟩
            rintro _ ⟨_, ⟨bq, rfl⟩, _, _⟩
            simp only [Act.put, List.setIfInBounds_toArray, List.set_cons_zero, List.set_cons_succ]
            repeat (apply FlowT.d; (intro w1 hk; unfold does; go_simp; (try go_ints); (first | exact DetR.mk | (simp only [↓IntWalk.iteOmega, Oper.doesUpon_value]; exact DetR.mk) | (simp only [↓IntWalk.iteOmega]; go_simp; (try go_ints); exact DetR.mk))); simp only [Act.put, List.setIfInBounds_toArray, List.set_cons_zero, List.set_cons_succ])
            refine FlowT.s (fun v w' => (∃ x c, v = .slice x lj.length c) ∧ (∀ x c, v = .slice x lj.length c → IntsT w' (.slice x lj.length c) lj) ∧ Ext wA w') 11 rfl (by kernel_rfl) (fun _ _ _ ⟨h1, h2, h3⟩ y => ⟨h1, fun x c e => (h2 x c e).ext y, h3.trans y⟩) (fun wa hC hk2 => ?_) ?_
            · obtain ⟨_, hB, hxa⟩ := hC
              have HJa := HJ bq wa hxa (hB _ rfl)
              unfold does
              go_simp
              refine CallR.act (HJa.out.mono ?_)
              rintro e wb ⟨v, rfl, ⟨x, c, rfl⟩, hT, hx⟩
              refine ⟨_, rfl, hk2.trans (hx.keep _), ⟨x, c, rfl⟩, fun x' c' e => ?_, hxa.trans hx⟩
              rw [← e]
              exact hT
            rintro _ ⟨_, ⟨xj, cj, rfl⟩, _, _⟩
            simp only [Act.put, List.setIfInBounds_toArray, List.set_cons_zero, List.set_cons_succ]
            repeat (apply FlowT.d; (intro w1 hk; unfold does; go_simp; (try go_ints); (first | exact DetR.mk | (simp only [↓IntWalk.iteOmega, Oper.doesUpon_value]; exact DetR.mk) | (simp only [↓IntWalk.iteOmega]; go_simp; (try go_ints); exact DetR.mk))); simp only [Act.put, List.setIfInBounds_toArray, List.set_cons_zero, List.set_cons_succ])
            refine FlowT.last (fun _ w' => w'.ownsRow w2.heap.size 27 1 (.slice (some ⟨g9, 0, none⟩) has.length c9) has.length (vs.set A (.slice xj lj.length cj)) ∧ Made w' (vs.set A (.slice xj lj.length cj)) (S.set A lj) ∧ Ext w2 w') 13 rfl (by kernel_rfl) (by kernel_rfl) (fun wa hC hk2 => ?_) (fun _ w6 hR => ?_)
            · obtain ⟨_, hT, hxa⟩ := hC
              have hT := hT _ _ rfl
              have hrw := own_ext Hrow.out (HwA.out.trans hxa)
              have hmw := Hmd.out.ext (HwA.out.trans hxa)
              obtain ⟨p1, p2, p3⟩ := Made.put hrw hmw HSl.out hT Hidx.out
              obtain ⟨u, hu⟩ : ∃ u, vs[A]? = some u := ⟨_, List.getElem?_eq_getElem (by rw [Hmd.out.1, HSl.out]; exact Hidx.out)⟩
              have z0 := own_get hrw A hu
              have y0 := own_free hrw A
              have hbase := (own_blk hrw).choose_spec.2.1
              have hxx := Keep.new (Hx.out.trans (HwA.out.trans hxa)) p3 fun b e => by rw [e]; exact hbase
              clear hrw hmw hbase
              unfold does
              go_simp
              try exact ⟨p1, p2, hxx⟩
            obtain ⟨h1, h2, h3⟩ := hR
            simp only [Act.put, List.setIfInBounds_toArray, List.set_cons_zero, List.set_cons_succ]
            have Hn1 := hid h1
            have Hn2 := hid h2
            have Hn3 := hid h3
            clear h1 h2 h3
            clear m0 m1 m2 c0 HJ hkb
            go_wp2
            go_roundw
            case rel => exact ⟨k + 1, _, _, by go_num, by omega, Hst.out, Hn1.out, Hn2.out, Hn3.out⟩
            case measure => simp [intOf]; omega
          | false =>
            have Hkb : Hid ((P.ruleV k (P.stAt k)).kind.toList ≠ bBase.toList) := hid (by
              rw [← Hrr.out]
              intro h
              rw [h, bBase_list] at hkb
              cases hkb)
            have HxA := hid (Hx.out.trans HwA.out)
            have Hr2 := hid (own_ext Hrow.out HwA.out)
            have Hm2 := hid (Hmd.out.ext HwA.out)
            have m0' := HBr.out.av 0 rfl
            simp only [List.getElem_toArray, List.getElem_cons_zero, List.getElem_cons_succ] at m0'
            rw [HwAe.out] at m0'
            clear hrb hwA hxA hxk hxr hrow hT hra hnv hlen hA m0 m1 m2
            go_wp2
            rw [← HwAe.out]
            go_roundw
            case rel => exact ⟨k + 1, vs, S, by go_num, by omega, HRd.out.skip Hkb.out, Hr2.out, Hm2.out, HxA.out⟩
            case measure => simp [intOf]; omega
        · obtain rfl : k = P.stmts.length := by omega
          obtain ⟨U, hU⟩ : ∃ U, U = wr := ⟨_, rfl⟩
          subst hU
          clear hlt hk
          go_wp2
          go_loopw [70] (fun t70 wr => ∃ (m : Nat) (vs : List Value) (S : List (List Int)), t70 = .int .i64 (m : Int) ∧ m ≤ EL.length ∧ RoundAt P has EL P.stmts.length m S ∧ wr.ownsRow w2.heap.size 27 1 (.slice a9 has.length c9) has.length vs ∧ Made wr vs S ∧ Ext w2 wr) (fun t70 _ => EL.length - (intOf t70).toNat)
          case atStart => exact ⟨0, vs, S, rfl, Nat.zero_le _, HRd.out, Hrow.out, Hmd.out, Hx.out⟩
          case round =>
            clear HRd Hrow Hmd Hx HSl
            obtain ⟨m, vs, S, rfl, hm1, hra, hr, hm, hx⟩ := hrel
            have HRd := hid hra
            have Hrow := hid hr
            have Hmd := hid hm
            have Hx := hid hx
            have HSl := hid hra.len
            clear hra hr hm hx
            by_cases hlt : m < EL.length
            · obtain ⟨ge, cp, hge⟩ := own_some HrE.out (by omega)
              simp only [Value.slice.injEq] at hge
              obtain ⟨rfl, -, rfl⟩ := hge
              obtain ⟨⟨x, z⟩, hxk⟩ : ∃ x, EL[m]? = some x := ⟨_, List.getElem?_eq_getElem hlt⟩
              obtain ⟨q0, q1⟩ := own_e (own_ext HrE.out Hx.out) hxk
              have hin := edges0_in Hg.out.1 Hg.out.ok _ ((HA.out.mem _).1 (List.mem_of_getElem? hxk)).1
              unfold PP.InN at hin
              obtain ⟨i1, i2, i3, i4⟩ := hin
              simp only at i1 i2 i3 i4
              have hlen := Hg.out.2.1
              obtain ⟨A, rfl⟩ := Int.eq_ofNat_of_zero_le i1
              obtain ⟨B, rfl⟩ := Int.eq_ofNat_of_zero_le i3
              have hAl : A < has.length := by omega
              have hBl : B < has.length := by omega
              obtain ⟨wA, hwA⟩ : ∃ wA, wA = wr.alloc (.cells #[.int .i64 (A : Int), .int .i64 (B : Int)] 127) := ⟨_, rfl⟩
              have hxA : Ext wr wA := by rw [hwA]; exact (Ext.refl _).alloc _
              have HwAe := hid hwA
              have HwA := hid hxA
              have HBe : Hid (Blk wA wr.heap.size #[.int .i64 (A : Int), .int .i64 (B : Int)] 127) := hid (by rw [hwA]; exact Blk.new _ _ _)
              have m0 := HBe.out.kc (X := fun _ => False) (fun e => e) 0 rfl
              have m1 := HBe.out.kc (X := fun _ => False) (fun e => e) 1 rfl
              simp only [List.getElem_toArray, List.getElem_cons_zero, List.getElem_cons_succ] at m0 m1
              obtain ⟨y, l, bl, cl', hya, hl, hc, hI⟩ := (HH2.out.ext Hx.out).at hAl
              subst hya
              have hDl : has.getD A [] = l := by rw [List.getD_eq_getElem?_getD, hl]; rfl
              have hlk' : chkE l = 0 := (Hg.out.ok.ok l (List.mem_of_getElem? hl)).1
              obtain ⟨g9, cp9, hge⟩ := own_some Hrow.out (by omega)
              simp only [Value.slice.injEq] at hge
              obtain ⟨rfl, -, rfl⟩ := hge
              obtain ⟨al, cl, hcl, hIl⟩ := Made.one Hrow.out Hmd.out HSl.out hBl
              have Hidx : Hid (B < has.length) := hid hBl
              have hlk : chkE (S.getD B []) = 0 := HRd.out.ok _ (getD_mem (by rw [HSl.out]; exact hBl))
              obtain ⟨la, hla⟩ : ∃ la, la = S.getD B [] := ⟨_, rfl⟩
              rw [← hla] at hcl hIl hlk
              obtain ⟨lj, hlj⟩ : ∃ lj, lj = sset (la ++ l) := ⟨_, rfl⟩
              have Hst := hid (RoundAt.edge HRd.out hxk (fun l hl => (Hg.out.ok.ok l hl).1) hAl hBl)
              rw [← hla, hDl, ← hlj] at Hst
              have HJ := fun wa (y : Ext wA wa) => hid (fixjoin_any (.slice al la.length cl) (.slice bl l.length cl') la l wa wa.heap.size ad (HS2.out.ext (Hx.out.trans (HwA.out.trans y))) (ElR.lift (hIl.old ((HwA.out.trans y).old _)) (HwA.out.trans y).size) (ElR.lift (hI.old ((HwA.out.trans y).old _)) (Nat.le_trans Hlw.out (Hx.out.trans (HwA.out.trans y)).size)) hlk hlk')
              rw [← hlj] at HJ
              have c0 : ∀ w1, Keep (fun _ => False) wA w1 → w1.cell? ⟨g9, B, none⟩ = some (.slice al la.length cl) := fun w1 k => (HwA.out.trans k.ext).cellx hcl
              have c1' : ∀ w1, Keep (fun _ => False) wA w1 → w1.cell? (y.add A) = some (.slice bl l.length cl') := fun w1 k => (HwA.out.trans k.ext).cellx hc
              have hll : (la.length : Int) ≤ 9223372036854775807 := by have := srt_few hlk; omega
              have hll2 : (l.length : Int) ≤ 9223372036854775807 := by have := srt_few hlk'; omega
              clear hcl hIl hlk hla hlj hwA hxA hxk hlen hl hc hI hDl hlk' i1 i2 i3 i4
              go_wp2
              rw [← HwAe.out]
              clear q0 q1
              refine wp_flowT (fun _ => False) (by kernel_rfl) (by kernel_rfl) ?_
              repeat (apply FlowT.d; (intro w1 hk; unfold does; go_simp; (try go_ints); (first | exact DetR.mk | (simp only [↓IntWalk.iteOmega, Oper.doesUpon_value]; exact DetR.mk) | (simp only [↓IntWalk.iteOmega]; go_simp; (try go_ints); exact DetR.mk))); simp only [Act.put, List.setIfInBounds_toArray, List.set_cons_zero, List.set_cons_succ])
              refine FlowT.s (fun v w' => (∃ x c, v = .slice x lj.length c) ∧ (∀ x c, v = .slice x lj.length c → IntsT w' (.slice x lj.length c) lj) ∧ Ext wA w') 13 rfl (by kernel_rfl) (fun _ _ _ ⟨h1, h2, h3⟩ y => ⟨h1, fun x c e => (h2 x c e).ext y, h3.trans y⟩) (fun wa hC hk2 => ?_) ?_
              · have hxa : Ext wA wa := hC
                have HJa := HJ wa hxa
                unfold does
                go_simp
                refine CallR.act (HJa.out.mono ?_)
                rintro e wb ⟨v, rfl, ⟨x, c, rfl⟩, hT, hx⟩
                refine ⟨_, rfl, hk2.trans (hx.keep _), ⟨x, c, rfl⟩, fun x' c' e => ?_, hxa.trans hx⟩
                rw [← e]
                exact hT
              rintro _ ⟨_, ⟨xj, cj, rfl⟩, _, _⟩
              simp only [Act.put, List.setIfInBounds_toArray, List.set_cons_zero, List.set_cons_succ]
              repeat (apply FlowT.d; (intro w1 hk; unfold does; go_simp; (try go_ints); (first | exact DetR.mk | (simp only [↓IntWalk.iteOmega, Oper.doesUpon_value]; exact DetR.mk) | (simp only [↓IntWalk.iteOmega]; go_simp; (try go_ints); exact DetR.mk))); simp only [Act.put, List.setIfInBounds_toArray, List.set_cons_zero, List.set_cons_succ])
              refine FlowT.last (fun _ w' => w'.ownsRow w2.heap.size 27 1 (.slice (some ⟨g9, 0, none⟩) has.length c9) has.length (vs.set B (.slice xj lj.length cj)) ∧ Made w' (vs.set B (.slice xj lj.length cj)) (S.set B lj) ∧ Ext w2 w') 15 rfl (by kernel_rfl) (by kernel_rfl) (fun wa hC hk2 => ?_) (fun _ w6 hR => ?_)
              · obtain ⟨_, hT, hxa⟩ := hC
                have hT := hT _ _ rfl
                have hrw := own_ext Hrow.out (HwA.out.trans hxa)
                have hmw := Hmd.out.ext (HwA.out.trans hxa)
                obtain ⟨p1, p2, p3⟩ := Made.put hrw hmw HSl.out hT Hidx.out
                obtain ⟨u, hu⟩ : ∃ u, vs[B]? = some u := ⟨_, List.getElem?_eq_getElem (by rw [Hmd.out.1, HSl.out]; exact Hidx.out)⟩
                have z0 := own_get hrw B hu
                have y0 := own_free hrw B
                have hbase := (own_blk hrw).choose_spec.2.1
                have hxx := Keep.new (Hx.out.trans (HwA.out.trans hxa)) p3 fun b e => by rw [e]; exact hbase
                clear hrw hmw hbase
                unfold does
                go_simp
                try exact ⟨p1, p2, hxx⟩
              obtain ⟨h1, h2, h3⟩ := hR
              simp only [Act.put, List.setIfInBounds_toArray, List.set_cons_zero, List.set_cons_succ]
              have Hn1 := hid h1
              have Hn2 := hid h2
              have Hn3 := hid h3
              clear h1 h2 h3
              clear m0 m1 c0 c1' HJ
              go_wp2
              go_roundw
              case rel => exact ⟨m + 1, _, _, by go_num, by omega, Hst.out, Hn1.out, Hn2.out, Hn3.out⟩
              case measure => simp [intOf]; omega
            · obtain rfl : m = EL.length := by omega
              have He : Hid (S = P.roundV has) := hid (HRd.out.uniq HRA.out)
              have HF : Hid (Made wr vs (P.roundV has)) := hid (by rw [← He.out]; exact Hmd.out)
              have HFl : Hid ((P.roundV has).length = has.length) := hid (by rw [← He.out]; exact HSl.out)
              go_wp2
              go_ret2
              exact ⟨_, _, vs, rfl, own_low Hrow.out Hlw.out, HF.out, HFl.out, Hxw2.out.trans Hx.out⟩
theorem fixround_ok (a1 a2 a3 : Option Addr) (c1 c2 c3 : Nat) (P : PP) (hv : Value) (has : List (List Int)) (w : World) (ad : Nat → Addr) (h : PW w w.heap.size ad a1 a2 a3 c1 c2 c3 P) (hS : ErrS w ad) (hh : SetsR w w.heap.size hv has) (hg : P.GoodS has) :
    Calls Tryz.prog 58 #[pval a1 a2 a3 c1 c2 c3 P, hv] w fun e w' => ∃ a c, e = .returned (.tuple #[.slice a has.length c, .nilIface]) ∧ SetsR w' w'.heap.size (.slice a has.length c) (P.roundV has) ∧ Ext w w' :=
  (fixround_made a1 a2 a3 c1 c2 c3 P hv has w ad h hS hh hg).mono fun e w' ⟨a, c, vs, he, hr, hm, hl, hx⟩ => by
    refine ⟨a, c, he, ?_, hx⟩
    have := SetsR.made (v := .slice a has.length c) (L := P.roundV has) (by rw [hl]; exact hr) hm
    exact this
end Go.Proofs.YtdppgcbekhabnaaGreatDoor



/- The least answer (fix.Least). -/
namespace Go.Proofs.YtdppgcbekhabnaaGreatDoor
set_option linter.unusedSimpArgs false
set_option linter.unusedVariables false
open Go Go.RowKit

theorem first_of {p : Nat → Prop} : ∀ n, p n → ∃ m, p m ∧ ∀ k, k < m → ¬ p k := fun n => by
  induction n using Nat.strongRecOn with
  | _ n ih =>
    intro hn
    rcases Classical.em (∃ k, k < n ∧ p k) with ⟨k, hk, hp⟩ | h
    · exact ih k hk hp
    · exact ⟨n, hn, fun k hk hp => h ⟨k, hk, hp⟩⟩
theorem iter_total {P : PP} (hw : P.Well) : ∀ n, (∀ m, m < n → P.roundV (P.iterV m) ≠ P.iterV m) → n ≤ total (P.iterV n)
  | 0, _ => Nat.zero_le _
  | n + 1, h => by
    have h1 := iter_total hw n fun m hm => h m (by omega)
    have h2 := iter_grows hw n (h n (by omega))
    omega
theorem least_exists {P : PP} (hw : P.Well) : ∃ n S, LeastAt P n S := by
  have h : ∃ n, P.roundV (P.iterV n) = P.iterV n := by
    rcases Classical.em (∃ n, P.roundV (P.iterV n) = P.iterV n) with h | h
    · exact h
    · have h1 := iter_total hw 200000 fun m _ e => h ⟨m, e⟩
      have h2 := iter_few hw 200000
      omega
  obtain ⟨n, hn⟩ := h
  obtain ⟨m, hm, hf⟩ := first_of (p := fun n => P.roundV (P.iterV n) = P.iterV n) n hn
  exact ⟨m, P.iterV m, rfl, hm, hf⟩
theorem LeastAt.few {P : PP} (hw : P.Well) {n : Nat} {S : List (List Int)} (h : LeastAt P n S) : n ≤ 120000 := by
  have h1 := iter_total hw n fun m hm => h.first m hm
  have h2 := iter_few hw n
  omega
theorem made_nil (w : World) (N : Nat) : Made w (List.replicate N (.slice none 0 0)) (List.replicate N []) := by
  refine ⟨by simp, fun i v l hv hl => ?_⟩
  obtain rfl := List.eq_of_mem_replicate (List.mem_of_getElem? hv)
  obtain rfl := List.eq_of_mem_replicate (List.mem_of_getElem? hl)
  exact IntsT.nil w
set_option maxRecDepth 100000 in
set_option maxHeartbeats 3200000 in
theorem fixleast_ok (a1 a2 a3 : Option Addr) (c1 c2 c3 : Nat) (P : PP) (w : World) (ad : Nat → Addr) (h : PW w w.heap.size ad a1 a2 a3 c1 c2 c3 P) (hS : ErrS w ad) (n : Nat) (S : List (List Int)) (hL : LeastAt P n S) :
    Calls Tryz.prog 28 #[pval a1 a2 a3 c1 c2 c3 P] w fun e w' => ∃ a c, e = .returned (.tuple #[.slice a P.nodesV c, .int .i64 (n : Int), .nilIface]) ∧ SetsR w' w'.heap.size (.slice a P.nodesV c) S ∧ Ext w w' := by
  have Hw := hid h.well
  have HLe := hid hL
  have hn12 := hL.few h.well
  obtain ⟨hf1, hf2, hf3⟩ := h.well.few
  obtain ⟨W, hW⟩ : ∃ W, W = w.alloc (.cells (pcells a1 a2 a3 c1 c2 c3 P) 26) := ⟨_, rfl⟩
  have HX : Hid (Ext w W) := hid (by rw [hW]; exact (Ext.refl _).alloc _)
  have HBx : Hid (Blk W w.heap.size (pcells a1 a2 a3 c1 c2 c3 P) 26) := hid (by rw [hW]; exact Blk.new _ _ _)
  have HWe : Hid (W = w.alloc (.cells #[.slice a1 P.vars.length c1, .slice a2 P.funs.length c2, .slice a3 P.stmts.length c3] 26)) := hid (by rw [hW]; rfl)
  have HK := hid (check_well (h.errs.ext HX.out) (h.prog.ext HX.out) h.z1 h.z2 h.well)
  have HNo := fun w1 (x : Ext w w1) => hid (prognodes_any a1 a2 a3 c1 c2 c3 P w1 w.heap.size ad (h.errs.ext x) (h.prog.ext x) h.z1 h.z2 h.well)
  have HPW := hid h
  have HS := hid hS
  have hN6 := nodesV_le P h.well
  have HRo := fun w1 (x : Ext w w1) hv has (hh : SetsR w1 w1.heap.size hv has) (hg : P.GoodS has) => hid (fixround_ok a1 a2 a3 c1 c2 c3 P hv has w1 ad ((HPW.out.ext x).lift x.size) (HS.out.ext x) hh hg)
  have HGd := fun k => hid (iterV_good h.well k)
  obtain ⟨N, hN⟩ : ∃ N, N = P.nodesV := ⟨_, rfl⟩
  rw [← hN] at HNo hN6 ⊢
  have HN := hid hN
  have d0 := HBx.out.av 0 rfl
  have d1 := HBx.out.av 1 rfl
  have d2 := HBx.out.av 2 rfl
  simp only [pcells, List.getElem_toArray, List.getElem_cons_zero, List.getElem_cons_succ] at d0 d1 d2
  rw [HWe.out] at d0 d1 d2
  unfold pval at HK HNo HRo ⊢
  clear hW h hS hL hN
  go_enter Tryz.func28, Tryz.ntmps28
  go_wp2_with fail
  rw [← HWe.out]
  refine HK.out.mono ?_
  intro e w1 hx
  obtain ⟨rfl, hx1⟩ := hx
  have Hx1 := hid hx1
  have HN1 := HNo w1 (HX.out.trans hx1)
  clear HK hx1 d0 d1 d2 HNo
  have d0 := (HBx.out.ext Hx1.out).av 0 rfl
  have d1 := (HBx.out.ext Hx1.out).av 1 rfl
  have d2 := (HBx.out.ext Hx1.out).av 2 rfl
  simp only [pcells, List.getElem_toArray, List.getElem_cons_zero, List.getElem_cons_succ] at d0 d1 d2
  go_wp2_with fail
  refine HN1.out.mono ?_
  intro e w2 hx
  obtain ⟨rfl, hx2⟩ := hx
  have Hx2 := hid (Hx1.out.trans hx2)
  obtain ⟨bi, hbi, hbz, hbs, hbb⟩ := info_parts rows_info
  clear HN1 hx2 d0 d1 d2
  go_wp2_with (at_make; refine wpList_make_full w2 rfl _ _ _ rfl w2.heap.size 27 bi (.slice none 0 0) 1 Tryz.underlying40 hbi hbz hbs .i64 .i64 (N : Int) (N : Int) N rfl rfl rfl rfl (by rw [hbb]; omega) (by unfold maxLen; omega) (Nat.le_refl _) ?_; intro w3 hrow hgr)
  have hx3 : Ext w2 w3 := Keep.new (Ext.refl w2) (grown_keep hgr) (fun k hk => by cases hk)
  rw [show (Value.slice none 0 0).cells = #[Value.slice none 0 0] from rfl, toList_madeCells_one, Nat.mul_one] at hrow
  have Hx3 := hid (Hx2.out.trans hx3)
  have HS0 : Hid (SetsR w3 w3.heap.size (.slice (some ⟨w2.heap.size, 0, none⟩) N N) (P.iterV 0)) := hid (by
    have h1 := SetsR.made (v := .slice (some ⟨w2.heap.size, 0, none⟩) N N) (L := List.replicate N []) (by rw [List.length_replicate]; exact hrow) (made_nil w3 N)
    have e0 : P.iterV 0 = List.replicate N [] := by rw [HN.out]; rfl
    exact e0 ▸ h1)
  clear hrow hgr hx3 hbi hbz hbs hbb
  go_wp2
  go_loopw [6, 7] (fun t6 t7 wr => ∃ (k : Nat) (a : Option Addr) (c : Nat), t7 = .int .i64 (k : Int) ∧ t6 = .slice a N c ∧ k ≤ n ∧ SetsR wr wr.heap.size (.slice a N c) (P.iterV k) ∧ Ext W wr) (fun _ t7 _ => 200000 - (intOf t7).toNat)
  case atStart => exact ⟨0, _, _, rfl, rfl, Nat.zero_le _, HS0.out, Hx3.out⟩
  case round =>
    clear HS0 Hx3
    obtain ⟨k, a, c, rfl, rfl, hk, hs, hx⟩ := hrel
    have Hx := hid hx
    have Hs := hid hs
    have hlen : (P.iterV k).length = N := by rw [HN.out]; exact (HGd k).out.2.1
    have HC := HRo wr (HX.out.trans hx) (.slice a N c) (P.iterV k) hs (HGd k).out
    have d0 := (HBx.out.ext hx).av 0 rfl
    have d1 := (HBx.out.ext hx).av 1 rfl
    have d2 := (HBx.out.ext hx).av 2 rfl
    simp only [pcells, List.getElem_toArray, List.getElem_cons_zero, List.getElem_cons_succ] at d0 d1 d2
    rw [hlen] at HC
    clear hs hx hlen HRo
    go_wp2_with fail
    refine HC.out.mono ?_
    intro e w5 hx
    obtain ⟨a5, c5, rfl, hs5, hx5⟩ := hx
    have Hx5 := hid (Hx.out.trans hx5)
    have Hs5 := hid hs5
    have Hso := hid ((Hs.out.ext hx5).lift hx5.size)
    have HSm := hid (fixsame_any (.slice a5 N c5) (.slice a N c) (P.roundV (P.iterV k)) (P.iterV k) w5 w5.heap.size hs5 ((Hs.out.ext hx5).lift hx5.size))
    obtain ⟨d, hd⟩ : ∃ d, d = decide (P.roundV (P.iterV k) = P.iterV k) := ⟨_, rfl⟩
    rw [← hd] at HSm
    have Hd := hid hd
    clear HC hs5 hx5 d0 d1 d2 hd
    go_wp2_with fail
    refine HSm.out.mono ?_
    intro e w6 hx
    obtain ⟨rfl, hx6⟩ := hx
    have Hx6 := hid (Hx5.out.trans hx6)
    have Hs6 := hid ((Hs5.out.ext hx6).lift hx6.size)
    have Hso6 := hid ((Hso.out.ext hx6).lift hx6.size)
    clear HSm
    cases d with
    | true =>
      have hfix : P.roundV (P.iterV k) = P.iterV k := of_decide_eq_true Hd.out.symm
      have hkn : k = n := by
        rcases Nat.lt_or_ge k n with g | g
        · exact absurd hfix (HLe.out.first k g)
        · omega
      subst hkn
      have HF : Hid (SetsR w6 w6.heap.size (.slice a N c) S) := hid (by
        rw [HLe.out.eq]
        exact Hso6.out)
      clear hx6 hfix
      go_wp2
      refine bodyPost_ret (v := .tuple #[.slice a N c, .int .i64 (k : Int), .nilIface]) (by simp [results, Tryz.results28, go_sem]) rfl ?_
      exact ⟨a, c, rfl, HF.out, HX.out.trans Hx6.out⟩
    | false =>
      have hne : P.roundV (P.iterV k) ≠ P.iterV k := of_decide_eq_false Hd.out.symm
      have hkn : k < n := by
        rcases Nat.lt_or_ge k n with g | g
        · exact g
        · obtain rfl : k = n := by omega
          exact absurd (by rw [← HLe.out.eq]; exact HLe.out.fix) hne
      have Hs7 : Hid (SetsR w6 w6.heap.size (.slice a5 N c5) (P.iterV (k + 1))) := hid Hs6.out
      clear hx6 hne
      go_wp2
      go_roundw
      case rel => exact ⟨k + 1, a5, c5, by go_num, rfl, by omega, Hs7.out, Hx6.out⟩
      case measure => simp [intOf]; omega
end Go.Proofs.YtdppgcbekhabnaaGreatDoor



/- Least answers: the reference's comparison of sets; the law's own small program. -/
namespace Go.Proofs.YtdppgcbekhabnaaGreatDoor
set_option linter.unusedSimpArgs false
set_option linter.unusedVariables false
open Go Go.RowKit

theorem setok_few {l : List Int} (h : chkE l = 0) (i : Nat) : l.getD i 0 ≤ 9223372036854775807 := by
  rw [List.getD_eq_getElem?_getD]
  cases hx : l[i]? with
  | none => exact (by decide : (0 : Int) ≤ 9223372036854775807)
  | some x =>
    have := (chkE_zero.1 h).1 x (List.mem_of_getElem? hx)
    show x ≤ _
    omega
def fixedP : PP := ⟨[⟨#[97]⟩, ⟨#[98]⟩], [], [⟨⟨#[97, 100, 100, 114]⟩, 0, 1, []⟩, ⟨⟨#[99, 111, 112, 121]⟩, 1, 0, []⟩]⟩
theorem fixed_well : fixedP.Well := by
  refine ⟨by decide +kernel, fun j t hj ht => ?_⟩
  have hj2 : j < 2 := hj
  rcases (by omega : j = 0 ∨ j = 1) with rfl | rfl
  · obtain rfl := Option.some.inj ht
    decide +kernel
  · obtain rfl := Option.some.inj ht
    decide +kernel
theorem fixed_least : LeastAt fixedP 2 [[1], [1]] := by
  refine ⟨by decide +kernel, by decide +kernel, fun m hm => ?_⟩
  rcases (by omega : m = 0 ∨ m = 1) with rfl | rfl <;> decide +kernel
theorem fixed_nodes : fixedP.nodesV = 2 := by decide +kernel
def fixedS : Array Value := #[.string ⟨#[97, 100, 100, 114]⟩, .int .i64 0, .int .i64 1, .slice none 0 0, .string ⟨#[99, 111, 112, 121]⟩, .int .i64 1, .int .i64 0, .slice none 0 0]
theorem fixed_prog {w : World} {a b n0 : Nat} (ha : Blk w a #[.string ⟨#[97]⟩, .string ⟨#[98]⟩] 9) (hb : Blk w b fixedS 65) (h1 : a < n0) (h2 : b < n0) : ProgR w n0 (.slice (some ⟨a, 0, none⟩) 2 2) (.slice none 0 0) (.slice (some ⟨b, 0, none⟩) 2 2) fixedP := by
  refine ⟨⟨_, 2, rfl, by decide, by decide, fun _ => ⟨_, rfl⟩, fun y hy _ => ?_⟩, ⟨_, 0, rfl, by decide, by decide, fun h => absurd h (by decide), fun y hy => by cases hy⟩, ⟨_, 2, rfl, by decide, by decide, fun _ => ⟨_, rfl⟩, fun y hy _ => ?_⟩⟩
  · obtain rfl := Option.some.inj hy
    refine ⟨h1, fun i hi s hs => ?_⟩
    have hi2 : i < 2 := hi
    rcases (by omega : i = 0 ∨ i = 1) with rfl | rfl
    · obtain rfl := Option.some.inj hs
      exact ha.av 0 rfl
    · obtain rfl := Option.some.inj hs
      exact ha.av 1 rfl
  · obtain rfl := Option.some.inj hy
    refine ⟨h2, fun i hi s hs => ?_⟩
    have hi2 : i < 2 := hi
    have hn : IntsR w n0 (.slice none 0 0) [] := ⟨none, 0, rfl, by decide, by decide, fun h => absurd h (by decide), fun y hy => by cases hy⟩
    rcases (by omega : i = 0 ∨ i = 1) with rfl | rfl
    · obtain rfl := Option.some.inj hs
      exact ⟨.slice none 0 0, hb.av 0 rfl, hb.av 1 rfl, hb.av 2 rfl, hb.av 3 rfl, hn⟩
    · obtain rfl := Option.some.inj hs
      exact ⟨.slice none 0 0, hb.av 4 rfl, hb.av 5 rfl, hb.av 6 rfl, hb.av 7 rfl, hn⟩
end Go.Proofs.YtdppgcbekhabnaaGreatDoor



/- The solver run to its end; New of a program that is not well; a closed fact. -/
namespace Go.Proofs.YtdppgcbekhabnaaGreatDoor
set_option linter.unusedSimpArgs false
set_option linter.unusedVariables false
open Go Go.RowKit

section
variable {P : PP} {S : List (List Int)} {s : SV} {m : Nat}
def SV.start (P : PP) : SV := P.rulesV.foldl (SV.add P) (SV.zero P)
theorem adds_ok (hg : P.GoodS S) (hc : ClosedP P S) : ∀ (l : List RV) {s : SV}, SolvOk P S s → (∀ r ∈ l, r ∈ P.rulesV) → s.rules.length + l.length ≤ 80 → SolvOk P S (l.foldl (SV.add P) s)
  | [], _, h, _, _ => h
  | r :: l, s, h, hr, h80 => by
    rw [List.length_cons] at h80
    have h1 := h.add hg hc (hr r List.mem_cons_self) (by omega)
    have h2 := (h.full.added hg hc (hr r List.mem_cons_self)).2.2
    refine adds_ok hg hc l h1 (fun q hq => hr q (List.mem_cons_of_mem _ hq)) ?_
    rw [h2, List.length_append, List.length_singleton]
    omega
theorem zero_ok (P : PP) (S : List (List Int)) : SolvOk P S (SV.zero P) := ⟨Full.zero P S, ⟨List.nodup_nil, Nat.zero_le _, Nat.zero_le _⟩⟩
theorem start_ok (hg : P.GoodS S) (hc : ClosedP P S) : SolvOk P S (SV.start P) ∧ (SV.start P).rules = P.rulesV ∧ (SV.start P).tot P = 0 := by
  have hl : P.rulesV.length = P.stmts.length := P.rulesUp_len _
  have hf := hg.1.few
  refine ⟨adds_ok hg hc _ (zero_ok P S) (fun _ h => h) (by rw [hl]; show 0 + _ ≤ 80; omega), ?_, ?_⟩
  · exact (adds_fold hg hc P.rulesV (Full.zero P S) fun _ h => h).2.2
  · show SV.tot P (P.rulesV.foldl (SV.add P) (SV.zero P)) = 0
    rw [tot_has (adds_fold hg hc P.rulesV (Full.zero P S) fun _ h => h).2.1]
    unfold SV.tot
    have : ∀ n : Nat, ((SV.zero P).objs (n : Int)).length = 0 := fun n => by
      rw [List.length_eq_zero_iff]
      refine List.eq_nil_iff_forall_not_mem.2 fun o ho => ?_
      have := (mem_objs.1 ho).2
      rw [zero_bit] at this; cases this
    simp only [this]
    induction P.nodesV with
    | zero => rfl
    | succ n ih => rw [List.range_succ, List.map_append, List.sum_append, ih]; rfl
/-- At the end of a run. -/
theorem run_end (hL : LeastAt P m S) (hw : P.Well) (hO : SolvOk P S s) (hr : s.rules = P.rulesV) :
    SolvOk P S (s.step P 9223372036854775807).1 ∧ (s.step P 9223372036854775807).1.wait = [] ∧ (s.step P 9223372036854775807).1.clean = (s.step P 9223372036854775807).1 ∧ (s.step P 9223372036854775807).1.rules = P.rulesV ∧ s.tot P + (s.step P 9223372036854775807).2 = totS P S ∧ (s.step P 9223372036854775807).2 ≤ 15120 ∧ ∀ n : Nat, n < P.nodesV → (s.step P 9223372036854775807).1.objs (n : Int) = S.getD n [] := by
  have hg := hL.good hw
  have hc := hL.closed hw
  obtain ⟨k1, k2, k3, k4, k5, k6⟩ := hO.step hg hc 9223372036854775807
  have hfew := tot_few hw k1.full.core
  have hk : (s.step P 9223372036854775807).2 ≤ 15120 := by omega
  have hwt := k6 (by show _ < 9223372036854775807; omega)
  have hr' : ∀ r ∈ P.rulesV, r ∈ (s.step P 9223372036854775807).1.rules := fun r h => by rw [k3, hr]; exact h
  refine ⟨k1, hwt, clean_idem k2, k3.trans hr, ?_, hk, fun n hn => k1.full.done hL hw hr' hwt hn⟩
  rw [← k4]
  exact (k1.full.all hL hw hr' k2).1 hwt
end
theorem fixed_small : fixedP.Small := ⟨by decide, by decide, by decide, fun s hs => by rcases (by simpa [fixedP] using hs : s = ⟨#[97]⟩ ∨ s = ⟨#[98]⟩) with rfl | rfl <;> decide, fun f hf => by simp [fixedP] at hf, fun s hs => by
  rcases (by simpa [fixedP] using hs : s = ⟨⟨#[97, 100, 100, 114]⟩, 0, 1, []⟩ ∨ s = ⟨⟨#[99, 111, 112, 121]⟩, 1, 0, []⟩) with rfl | rfl <;> exact ⟨by decide, by decide⟩⟩
set_option maxRecDepth 100000 in
set_option maxHeartbeats 3200000 in
theorem solvedfact_any (w : World) (ad : Nat → Addr) (hE : ErrsP w ad) (hS : ErrS w ad) : Calls Tryz.prog 9 #[] w fun e w' => e = .returned (.bool true) ∧ Ext w w' := by
  obtain ⟨W1, hW1⟩ : ∃ W1, W1 = w.alloc (.cells #[.string ⟨#[97]⟩, .string ⟨#[98]⟩] 9) := ⟨_, rfl⟩
  obtain ⟨W2, hW2⟩ : ∃ W2, W2 = W1.alloc (.cells fixedS 65) := ⟨_, rfl⟩
  obtain ⟨W3, hW3⟩ : ∃ W3, W3 = W2.alloc (.cells #[.slice (some ⟨w.heap.size, 0, none⟩) 2 2, .slice none 0 0, .slice (some ⟨w.heap.size + 1, 0, none⟩) 2 2] 26) := ⟨_, rfl⟩
  have x1 : Ext w W1 := by rw [hW1]; exact (Ext.refl _).alloc _
  have x2 : Ext W1 W2 := by rw [hW2]; exact (Ext.refl _).alloc _
  have x3 : Ext W2 W3 := by rw [hW3]; exact (Ext.refl _).alloc _
  have s1 : W1.heap.size = w.heap.size + 1 := by rw [hW1, heap_size_alloc]
  have s2 : W2.heap.size = w.heap.size + 2 := by rw [hW2, heap_size_alloc, s1]
  have s3 : W3.heap.size = w.heap.size + 3 := by rw [hW3, heap_size_alloc, s2]
  have bA : Blk W1 w.heap.size #[.string ⟨#[97]⟩, .string ⟨#[98]⟩] 9 := by rw [hW1]; exact Blk.new _ _ _
  have bB : Blk W2 (w.heap.size + 1) fixedS 65 := by rw [hW2, ← s1]; exact Blk.new _ _ _
  have hP := fixed_prog (n0 := W3.heap.size) (bA.ext (x2.trans x3)) (bB.ext x3) (by omega) (by omega)
  have xx : Ext w W3 := x1.trans (x2.trans x3)
  have hg := fixed_least.good fixed_well
  have hc := fixed_least.closed fixed_well
  have HD := hid (solvenew_yes _ _ _ 2 0 2 fixedP [[1], [1]] W3 W3.heap.size ad ⟨hE.ext xx, hP, fun s hs => by rcases (by simpa [fixedP] using hs : s = ⟨#[97]⟩ ∨ s = ⟨#[98]⟩) with rfl | rfl <;> decide, fun s hs => by simp [PP.names, fixedP] at hs, fixed_well⟩ (Nat.le_refl _) fixed_small hg hc)
  have HX := hid xx
  have HW3 : Hid (W3 = ((w.alloc (.cells #[.string ⟨#[97]⟩, .string ⟨#[98]⟩] 9)).alloc (.cells #[.string ⟨#[97, 100, 100, 114]⟩, .int .i64 0, .int .i64 1, .slice none 0 0, .string ⟨#[99, 111, 112, 121]⟩, .int .i64 1, .int .i64 0, .slice none 0 0] 65)).alloc (.cells #[.slice (some ⟨w.heap.size, 0, none⟩) 2 2, .slice none 0 0, .slice (some ⟨w.heap.size + 1, 0, none⟩) 2 2] 26)) := hid (by rw [hW3, hW2, hW1]; rfl)
  obtain ⟨ho, hr, ht⟩ := start_ok hg hc
  obtain ⟨r1, r2, r3, r4, r5, r6, r7⟩ := run_end fixed_least fixed_well ho hr
  have hk2 : ((SV.start fixedP).step fixedP 9223372036854775807).2 = 2 := by
    rw [ht, Nat.zero_add] at r5
    rw [r5]
    unfold totS
    rw [fixed_nodes]; rfl
  have HO := hid ho
  have HR := hid (And.intro r1 (And.intro r2 (And.intro r3 (r7 1 (by rw [fixed_nodes]; decide)))))
  have Hk2 := hid hk2
  have Hg := hid hg
  have Hc := hid hc
  unfold pval at HD
  clear hE hS hW1 hW2 hW3 x1 x2 x3 s1 s2 s3 bA bB hP xx hg hc ho hr ht r1 r2 r3 r4 r5 r6 r7 hk2
  go_enter Tryz.func9, Tryz.ntmps9
  go_wp2_with fail
  rw [← HW3.out]
  refine HD.out.mono ?_
  intro e w5 hx
  obtain ⟨g, G, F, vr, vh, rs, hs, rfl, hF, hS, hx5⟩ := hx
  have HF := hid hF
  have HX5 := hid (HX.out.trans hx5)
  have HRun := hid (solverun_any fixedP _ (SV.start fixedP) w5 G F g ad hS HO.out Hg.out Hc.out)
  rw [Hk2.out] at HRun
  have Hsz : Hid (∀ b, b < w.heap.size → F b) := hid fun b hb => hF b (Nat.lt_of_lt_of_le hb HX.out.size)
  clear HD hF hS hx5
  go_wp2_with fail
  refine HRun.out.mono ?_
  intro e w6 hx
  obtain ⟨rfl, hS6, hK6⟩ := hx
  have HDo := hid (solvedone_any fixedP _ _ w6 G F g ad hS6 HR.out.1.full.core Hg.out)
  rw [HR.out.2.2.1, HR.out.2.1, decide_eq_true rfl] at HDo
  have HK6 := hid hK6
  clear HRun hS6 hK6
  go_wp2_with fail
  refine HDo.out.mono ?_
  intro e w7 hx
  obtain ⟨rfl, hS7, hK7⟩ := hx
  have HHa := hid (solvehas_any fixedP _ _ 1 w7 G F g ad hS7 HR.out.1.full.core)
  have HK7 := hid (HK6.out.trans hK7)
  clear HDo hS7 hK7
  go_wp2_with fail
  refine HHa.out.mono ?_
  intro e w8 hx
  obtain ⟨v, rfl, hr8, hS8, hx8⟩ := hx
  rw [show SV.hasL fixedP ((SV.start fixedP).step fixedP 9223372036854775807).1 1 = [1] by
    unfold SV.hasL
    rw [fixed_nodes, if_neg (by decide)]
    exact HR.out.2.2.2] at hr8
  obtain ⟨av, cv, rfl⟩ := hr8.form
  obtain ⟨W9, hW9⟩ : ∃ W9, W9 = w8.alloc (.cells #[.int .i64 1] 3) := ⟨_, rfl⟩
  have hx9 : Ext w8 W9 := by rw [hW9]; exact (Ext.refl _).alloc _
  have HW9 := hid hW9
  have HC := hid (sameints_any av (some ⟨w8.heap.size, 0, none⟩) 1 1 cv 1 [1] [1] W9 (IntsR.ints (n0 := W9.heap.size) (IntsR.own (hr8.ext hx9) (Nat.le_refl _)) (setok_few (by decide))) (IntsR.ints (n0 := W9.heap.size) (IntsR.blk (l := [1]) (by rw [hW9]; exact Blk.new w8 #[.int .i64 1] 3) rfl (by simp)) (setok_few (by decide))) (by decide) (by decide))
  rw [decide_eq_true rfl] at HC
  have HX9 : Hid (Ext w W9) := hid ((Keep.new HX5.out HK7.out fun b hb => Nat.le_of_not_lt fun h => hb (Hsz.out b h)).trans (hx8.trans hx9))
  clear HHa hr8 hS8 hx8 hW9 hx9
  go_wp2_with fail
  rw [← HW9.out]
  refine HC.out.mono ?_
  intro e w10 hx
  obtain ⟨rfl, hx10⟩ := hx
  have HX10 := hid (HX9.out.trans hx10)
  clear HC hx10
  go_wp2
  go_ret
  exact ⟨rfl, HX10.out⟩
end Go.Proofs.YtdppgcbekhabnaaGreatDoor

