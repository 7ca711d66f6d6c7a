/- Texts of one proof, put together: T6 T1 T7 ZZYh. -/
import Derived.Test.YtbagppdibncfdaaGreatDoorHHN05
import Derived.Test.YtbagppdibncfdaaGreatDoorHHN09
import Derived.Test.YtbagppdibncfdaaGreatDoorHHN11
import Derived.Test.YtbagppdibncfdaaGreatDoorHHN12
import Derived.Test.YtbagppdibncfdaaGreatDoorHHN13
import Derived.Test.YtbagppdibncfdaaGreatDoorHHN15
import Derived.Test.YtbagppdibncfdaaGreatDoorHHN01
set_option linter.unusedSimpArgs false
set_option linter.unusedVariables false
namespace Go.Proofs.YtbagppdibncfdaaGreatDoor
open Go Go.RowKit
set_option maxRecDepth 100000 in
set_option maxHeartbeats 6400000 in
theorem redgesof_any (a1 a2 a3 : Option Addr) (c1 c2 c3 : Nat) (P : PP) (hv : Value) (has : List (List Int)) (w : World) (n0 : Nat) (h : ProgR w n0 (.slice a1 P.vars.length c1) (.slice a2 P.funs.length c2) (.slice a3 P.stmts.length c3) P) (hw : P.Well) (hh : SetsR w n0 hv has) (hl : has.length = P.nodesV) (hn0 : n0 ≤ w.heap.size) :
    Calls Tryz.prog 126 #[pval a1 a2 a3 c1 c2 c3 P, hv] w fun e w' => ∃ v, e = .returned v ∧ RERow w.heap.size w' v (P.refE has P.nodesV) ∧ Ext w w' := by
  obtain ⟨ah, ch, rfl⟩ := hh.form
  have Hw := hid hw
  have Hlen := hid hl
  obtain ⟨hf1, hf2, hf3⟩ := hw.few
  have hN6 := nodesV_le P hw
  obtain ⟨W, hW⟩ : ∃ W, W = w.alloc (.cells (pcells a1 a2 a3 c1 c2 c3 P) 26) := ⟨_, rfl⟩
  have HX : Hid (Ext w W) := hid (by rw [hW]; exact (Ext.refl _).alloc _)
  have HBx : Hid (Blk W w.heap.size (pcells a1 a2 a3 c1 c2 c3 P) 26) := hid (by rw [hW]; exact Blk.new _ _ _)
  have HWe : Hid (W = w.alloc (.cells #[.slice a1 P.vars.length c1, .slice a2 P.funs.length c2, .slice a3 P.stmts.length c3] 26)) := hid (by rw [hW]; rfl)
  have HNo := hid (rnodesof_any a1 a2 a3 c1 c2 c3 P W n0 (h.ext HX.out) (by omega) (by omega))
  have HRu := fun k (hk : k < P.stmts.length) w1 (x : Ext w w1) => hid (rruleof_any a1 a2 a3 c1 c2 c3 P k _ (stAt_some hk) w1 n0 (h.ext x) hw)
  have HIs := fun r av w1 (p q : Int) (x : Ext w w1) (ha : IntsR w1 n0 av r.args) (hr : REdge has.length r) => hid (risedge_any a1 a2 a3 c1 c2 c3 P r av (.slice ah has.length ch) has p q w1 n0 (h.ext x) (by omega) (by omega) (by omega) ha (hh.ext x) hr)
  obtain ⟨N, hN⟩ : ∃ N, N = P.nodesV := ⟨_, rfl⟩
  rw [← hN] at HNo hN6 hl
  have HN := hid hN
  have d0 := HBx.out.av 0 rfl
  have d1 := HBx.out.av 1 rfl
  have d2 := HBx.out.av 2 rfl
  simp only [pcells, qA0, qA1, qA2] at d0 d1 d2
  rw [HWe.out] at d0 d1 d2
  unfold pval at HNo HRu HIs ⊢
  have Hn0 := hid (Nat.le_trans hn0 HX.out.size)
  clear h hw hh hW hN hl hn0
  go_enter Tryz.func126, Tryz.ntmps126
  go_wp2_with fail
  rw [← HWe.out]
  refine HNo.out.mono ?_
  intro e w1 hx
  obtain ⟨rfl, hx1⟩ := hx
  have Hx1 := hid hx1
  clear HNo hx1 d0 d1 d2
  have d2 := (HBx.out.ext Hx1.out).av 2 rfl
  simp only [pcells, qA0, qA1, qA2] at d2
  go_wp2
  go_loopw [6, 7] (fun t6 t7 wr => ∃ (k : Nat) (rs : List R2), t7 = .int .i64 (k : Int) ∧ k ≤ P.stmts.length ∧ rs.map R2.r = P.rulesRUp k ∧ wr.ownsRow W.heap.size 166 5 t6 rs.length (rs.flatMap R2.cells) ∧ (∀ x ∈ rs, IntsR wr n0 x.v x.r.args) ∧ Ext W wr) (fun _ t7 _ => P.stmts.length - (intOf t7).toNat)
  case atStart => exact ⟨0, [], rfl, Nat.zero_le _, rfl, World.ownsRow_nil _ _ _ _, (fun x h => by cases h), Hx1.out⟩
  case round =>
    obtain ⟨k, rs, rfl, hk, he, hr, ha, hx⟩ := hrel
    obtain ⟨a6, c6, rfl⟩ := row_form hr
    have hrl : rs.length ≤ k := by
      have h1 := congrArg List.length he
      rw [List.length_map] at h1
      rw [h1]
      exact rulesRUp_len P k
    have He := hid he
    have Hr := hid hr
    have Ha := hid ha
    have Hx := hid hx
    clear he hr ha hx d2
    have d0 := (HBx.out.ext Hx.out).av 0 rfl
    have d1 := (HBx.out.ext Hx.out).av 1 rfl
    have d2 := (HBx.out.ext Hx.out).av 2 rfl
    simp only [pcells, qA0, qA1, qA2] at d0 d1 d2
    by_cases hlt : k < P.stmts.length
    · have HC := HRu k hlt wr (HX.out.trans Hx.out)
      have Hsu := hid (rulesRUp_succ P k)
      obtain ⟨r, hr⟩ : ∃ r, r = P.ruleR k (P.stAt k) := ⟨_, rfl⟩
      rw [← hr] at HC Hsu
      clear HRu HIs hr
      go_wp2_with fail
      refine HC.out.mono ?_
      intro e w2 hx
      obtain ⟨av, rfl, hI, hx2⟩ := hx
      obtain ⟨aa, ca, hav, _⟩ := id hI
      subst hav
      unfold RV.val
      have HI := hid hI
      obtain ⟨V, hV⟩ : ∃ V, V = w2.alloc (.cells #[.string r.kind, .int .i64 r.a, .int .i64 r.b, .int .i64 r.k, .slice aa r.args.length ca] 166) := ⟨_, rfl⟩
      have hxV : Ext w2 V := by rw [hV]; exact (Ext.refl _).alloc _
      have HBr : Hid (Blk V w2.heap.size #[.string r.kind, .int .i64 r.a, .int .i64 r.b, .int .i64 r.k, .slice aa r.args.length ca] 166) := hid (by rw [hV]; exact Blk.new _ _ _)
      have HVe := hid hV
      have HVx := hid hxV
      have HxV := hid (Hx.out.trans (hx2.trans hxV))
      have HrV := hid (own_ext Hr.out (hx2.trans hxV))
      have HwV := hid (hx2.trans hxV)
      clear HC hI hx2 hxV hV d0 d1 d2
      cases hkb : (r.kind.toList == [98, 97, 115, 101]) with
      | true =>
        have Hn : Hid (P.rulesRUp (k + 1) = P.rulesRUp k) := hid (by rw [Hsu.out, eq_of_beq bBase_list, if_pos hkb, List.append_nil])
        have hkb' : (r.kind.toList != [98, 97, 115, 101]) = false := by rw [bne, hkb]; rfl
        clear Hsu
        go_wp2
        rw [← HVe.out]
        go_roundw
        case rel => exact ⟨k + 1, rs, by go_num, by omega, He.out.trans Hn.out.symm, HrV.out, fun x hx => (Ha.out x hx).old (HwV.out.old _), HxV.out⟩
        case measure => simp [intOf]; omega
      | false =>
        have Hn : Hid (P.rulesRUp (k + 1) = P.rulesRUp k ++ [r]) := hid (by rw [Hsu.out, eq_of_beq bBase_list, hkb]; rfl)
        have hkb' : (r.kind.toList != [98, 97, 115, 101]) = true := by rw [bne, hkb]; rfl
        obtain ⟨U, hU⟩ : ∃ U, U = V.alloc (.cells #[.string r.kind, .int .i64 r.a, .int .i64 r.b, .int .i64 r.k, .slice aa r.args.length ca] 166) := ⟨_, rfl⟩
        have HUx : Hid (Ext W U) := hid (by rw [hU]; exact HxV.out.alloc _)
        have HVU : Hid (Ext V U) := hid (by rw [hU]; exact (Ext.refl _).alloc _)
        have HUr : Hid (U.ownsRow W.heap.size 166 5 (.slice a6 rs.length c6) rs.length (rs.flatMap R2.cells)) := hid (by rw [hU]; exact own_ext HrV.out ((Ext.refl _).alloc _))
        have HUb : Hid (Blk U V.heap.size #[.string r.kind, .int .i64 r.a, .int .i64 r.b, .int .i64 r.k, .slice aa r.args.length ca] 166) := hid (by rw [hU]; exact Blk.new _ _ _)
        have HUe : Hid (U = (w2.alloc (.cells #[.string r.kind, .int .i64 r.a, .int .i64 r.b, .int .i64 r.k, .slice aa r.args.length ca] 166)).alloc (.cells #[.string r.kind, .int .i64 r.a, .int .i64 r.b, .int .i64 r.k, .slice aa r.args.length ca] 166)) := hid (by rw [hU, HVe.out])
        have HVs : Hid (V.heap.size = w2.heap.size + 1) := hid (by rw [HVe.out, heap_size_alloc])
        rw [HVs.out] at HUb
        clear Hsu hU
        go_wp2_with (at_builtin; rw [← HUe.out]; refine wpList_append_el W.heap.size HUx.out.size 204 166 (.agg #[.string ⟨#[]⟩, .int .i64 0, .int .i64 0, .int .i64 0, .slice none 0 0]) 5 64 Tryz.underlying204 rrule_info rfl (by omega) (by omega) rfl _ _ rfl (.slice a6 rs.length c6) rs.length (rs.flatMap R2.cells) rfl HUr.out (w2.heap.size + 1) [.string r.kind, .int .i64 r.a, .int .i64 r.b, .int .i64 r.k, .slice aa r.args.length ca] rfl (by simp [Value.oneCell']) rfl HUb.out (by omega) ?_; intro v' w' h1 h2 h4; obtain ⟨a', c', rfl⟩ := row_form h1; have h3 := hid (Keep.new HUx.out h2 (fun b e => (World.ownsRow.lt HUr.out b e).1)); have hold := hid (show Old n0 U w' from h2.mono fun b _ e => Nat.le_trans Hn0.out (World.ownsRow.lt HUr.out b e).1); have h1 := hid h1; clear h2 h4)
        go_roundw
        case rel =>
          refine ⟨k + 1, rs ++ [⟨r, .slice aa r.args.length ca⟩], by go_num, by omega, ?_, ?_, ?_, h3.out⟩
          · rw [List.map_append, He.out, Hn.out]; rfl
          · rw [List.length_append, List.flatMap_append]; simpa [R2.cells] using h1.out
          · intro x hx
            rcases List.mem_append.1 hx with hx | hx
            · exact ((Ha.out x hx).old ((HwV.out.trans HVU.out).old _)).old hold.out
            · obtain rfl := List.mem_singleton.1 hx
              exact (HI.out.old ((HwV.out.trans HVU.out).old _)).old hold.out
        case measure => simp [intOf]; omega
    · obtain rfl : k = P.stmts.length := by omega
      obtain ⟨V, hV⟩ : ∃ V, V = wr := ⟨_, rfl⟩
      subst hV
      have HEd := hid (rulesRUp_edge Hw.out (Nat.le_refl _))
      rw [← He.out] at HEd
      clear HRu hlt hk
      go_wp2
      clear d0 d1 d2
      go_loopw [9, 10] (fun t9 t10 wq => ∃ (a : Nat) (L : List (Int × Int)), t10 = .int .i64 (a : Int) ∧ a ≤ N ∧ L = P.refE has a ∧ wq.ownsRow V.heap.size 170 2 t9 L.length (L.flatMap eCells) ∧ Ext V wq) (fun _ t10 _ => N - (intOf t10).toNat)
      case atStart => exact ⟨0, [], rfl, Nat.zero_le _, rfl, World.ownsRow_nil _ _ _ _, Ext.refl _⟩
      case round =>
        obtain ⟨a, L, rfl, ha, hL, hr, hx⟩ := hrel
        obtain ⟨a9, c9, rfl⟩ := row_form hr
        have HL := hid hL
        have Hr9 := hid hr
        have Hx9 := hid hx
        clear hL hr hx
        by_cases haN : a < N
        · go_wp2
          go_loopw [9, 11] (fun t9 t11 wq => ∃ (b : Nat) (M : List (Int × Int)), t11 = .int .i64 (b : Int) ∧ b ≤ N ∧ M = L ++ P.rowE has a b ∧ wq.ownsRow V.heap.size 170 2 t9 M.length (M.flatMap eCells) ∧ Ext V wq) (fun _ t11 _ => N - (intOf t11).toNat)
          case atStart => exact ⟨0, L, rfl, Nat.zero_le _, by simp [PP.rowE], Hr9.out, Hx9.out⟩
          case round =>
            obtain ⟨b, M, rfl, hb, hM, hr, hx⟩ := hrel
            obtain ⟨a9', c9', rfl⟩ := row_form hr
            have hML : M.length ≤ 20000 := by
              rw [hM, List.length_append, HL.out]
              have h1 := refE_len Hw.out has (n := a) (by rw [← HN.out]; omega)
              have h2 := rowE_len P has a b
              omega
            have HM := hid hM
            have HrM := hid hr
            have HxM := hid hx
            clear hM hr hx Hr9 Hx9
            by_cases hbN : b < N
            · go_wp2
              go_loopw [12, 13] (fun t12 t13 wq => ∃ (k : Nat) (d : Bool), t13 = .int .i64 (k : Int) ∧ t12 = .bool d ∧ k ≤ rs.length ∧ d = ((rs.map R2.r).take k).any (fun r => P.isE r has a b) ∧ (a = b → k = 0) ∧ Ext V wq ∧ wq.ownsRow V.heap.size 170 2 (.slice a9' M.length c9') M.length (M.flatMap eCells)) (fun _ t13 _ => rs.length - (intOf t13).toNat)
              case atStart => exact ⟨0, false, rfl, rfl, Nat.zero_le _, by simp, fun _ => rfl, HxM.out, HrM.out⟩
              case round =>
                clear HrM HxM
                obtain ⟨k, d, rfl, rfl, hk, hd, hab, hx, hrM⟩ := hrel
                have Hd := hid hd
                have Hab := hid hab
                have HxK := hid hx
                have HrM := hid hrM
                have Hedge : Hid (P.edgeB has a b = (decide ((a : Int) ≠ (b : Int)) && (rs.map R2.r).any (fun r => P.isE r has a b))) := hid (by
                  unfold PP.edgeB
                  rw [He.out, any_rules Hw.out])
                clear hd hab hx hrM
                by_cases hkl : k < rs.length
                · cases d with
                  | true =>
                    have He2 : Hid (P.edgeB has a b = true) := hid (by
                      have hne : a ≠ b := fun e => by
                        have h0 := Hab.out e
                        have h1 := Hd.out
                        rw [h0] at h1
                        simp at h1
                      rw [Hedge.out, decide_eq_true (show (a : Int) ≠ (b : Int) from fun e => hne (by omega)), Bool.true_and, List.any_eq_true]
                      obtain ⟨r, hr1, hr2⟩ := List.any_eq_true.1 Hd.out.symm
                      exact ⟨r, List.mem_of_mem_take hr1, hr2⟩)
                    have Hrow : Hid (P.rowE has a (b + 1) = P.rowE has a b ++ [((a : Int), (b : Int))]) := hid (by rw [rowE_succ, He2.out]; rfl)
                    have HUx : Hid (Ext V (wr.alloc (.cells #[.int .i64 (a : Int), .int .i64 (b : Int)] 170))) := hid (HxK.out.alloc _)
                    have HUr : Hid ((wr.alloc (.cells #[.int .i64 (a : Int), .int .i64 (b : Int)] 170)).ownsRow V.heap.size 170 2 (.slice a9' M.length c9') M.length (M.flatMap eCells)) := hid (own_ext HrM.out ((Ext.refl _).alloc _))
                    go_wp2_with (at_builtin; refine wpList_append_el V.heap.size HUx.out.size 168 170 (.agg #[.int .i64 0, .int .i64 0]) 2 16 Tryz.underlying168 redge_info rfl (by omega) (by omega) rfl _ _ rfl (.slice a9' M.length c9') M.length (M.flatMap eCells) rfl HUr.out wr.heap.size [.int .i64 (a : Int), .int .i64 (b : Int)] rfl (by simp [Value.oneCell']) rfl (Blk.new _ _ _) (by omega) ?_; intro v' w' h1 h2 h4; obtain ⟨a', c', rfl⟩ := row_form h1; have h3 := hid (Keep.new HUx.out h2 (fun b e => (World.ownsRow.lt HUr.out b e).1)); have h1 := hid h1; clear h2 h4)
                    go_roundw
                    case rel => exact ⟨b + 1, M ++ [((a : Int), (b : Int))], by go_num, by omega, by rw [HM.out, Hrow.out, List.append_assoc], by rw [List.length_append, List.flatMap_append]; simpa [eCells] using h1.out, h3.out⟩
                    case measure => simp [intOf]; omega
                  | false =>
                    by_cases hab2 : a = b
                    · have He2 : Hid (P.edgeB has a b = false) := hid (by rw [Hedge.out, decide_eq_false (fun h => h (by rw [hab2])), Bool.false_and])
                      have hab3 : ((a : Int) != (b : Int)) = false := by rw [hab2]; simp
                      clear hab2
                      have Hrow : Hid (P.rowE has a (b + 1) = P.rowE has a b) := hid (by rw [rowE_succ, He2.out]; simp)
                      go_wp2
                      go_roundw
                      case rel => exact ⟨b + 1, M, by go_num, by omega, by rw [HM.out, Hrow.out], HrM.out, HxK.out⟩
                      case measure => simp [intOf]; omega
                    · have hab3 : ((a : Int) != (b : Int)) = true := bne_iff_ne.2 (fun h => hab2 (by omega))
                      obtain ⟨g6, cp, hge⟩ := own_some Hr.out (by omega)
                      simp only [Value.slice.injEq] at hge
                      obtain ⟨rfl, -, rfl⟩ := hge
                      obtain ⟨x, hxk⟩ : ∃ x, rs[k]? = some x := ⟨_, List.getElem?_eq_getElem hkl⟩
                      obtain ⟨q0, q1, q2, q3, q4⟩ := own_rr (own_ext Hr.out HxK.out) hxk
                      have hI := Ha.out x (List.mem_of_getElem? hxk)
                      have hE := HEd.out x.r (List.mem_map.2 ⟨x, List.mem_of_getElem? hxk, rfl⟩)
                      obtain ⟨aa, ca, hav, _⟩ := id hI
                      have hmk : (rs.map R2.r)[k]? = some x.r := by rw [List.getElem?_map, hxk]; rfl
                      obtain ⟨r, xv⟩ := x
                      simp only at hav hI hE q0 q1 q2 q3 q4 hmk
                      subst hav
                      have HC := fun w1 (y : Ext wr w1) => HIs r (.slice aa r.args.length ca) w1 (a : Int) (b : Int) (HX.out.trans (Hx.out.trans (HxK.out.trans y))) (hI.old ((HxK.out.trans y).old _)) (by rw [Hlen.out]; exact hE)
                      have Hn : Hid (((rs.map R2.r).take (k + 1)).any (fun r => P.isE r has a b) = P.isE r has a b) := hid (by rw [any_take_succ hmk, ← Hd.out, Bool.false_or])
                      obtain ⟨e, he⟩ : ∃ e, e = P.isE r has a b := ⟨_, rfl⟩
                      rw [← he] at HC Hn
                      unfold RV.val at HC
                      have j0 : ∀ w1, Keep (fun _ => False) wr w1 → w1.cell? ⟨g6, k * 5, none⟩ = some (.string r.kind) := fun w1 k => k.ext.cellx q0
                      have j1 : ∀ w1, Keep (fun _ => False) wr w1 → w1.cell? ⟨g6, k * 5 + 1, none⟩ = some (.int .i64 r.a) := fun w1 k => k.ext.cellx q1
                      have j2 : ∀ w1, Keep (fun _ => False) wr w1 → w1.cell? ⟨g6, k * 5 + 2, none⟩ = some (.int .i64 r.b) := fun w1 k => k.ext.cellx q2
                      have j3 : ∀ w1, Keep (fun _ => False) wr w1 → w1.cell? ⟨g6, k * 5 + 3, none⟩ = some (.int .i64 r.k) := fun w1 k => k.ext.cellx q3
                      have j4 : ∀ w1, Keep (fun _ => False) wr w1 → w1.cell? ⟨g6, k * 5 + 4, none⟩ = some (.slice aa r.args.length ca) := fun w1 k => k.ext.cellx q4
                      have d0 := (HBx.out.ext (Hx.out.trans HxK.out)).kc (X := fun _ => False) (fun e => e) 0 rfl
                      have d1 := (HBx.out.ext (Hx.out.trans HxK.out)).kc (X := fun _ => False) (fun e => e) 1 rfl
                      have d2 := (HBx.out.ext (Hx.out.trans HxK.out)).kc (X := fun _ => False) (fun e => e) 2 rfl
                      simp only [pcells, qA0, qA1, qA2] at d0 d1 d2
                      have Hne := hid hab2
                      clear HIs hxk q0 q1 q2 q3 q4 hI hE hmk he hab2
                      go_wp2
                      refine wp_flowT (fun _ => False) (by kernel_rfl) (by kernel_rfl) ?_
                      repeat (apply FlowT.d; (intro w1 hk; unfold does; go_simp; (try go_ints); (first | exact DetR.mk | (simp only [↓IntWalk.iteOmega, Oper.doesUpon_value]; exact DetR.mk) | (simp only [↓IntWalk.iteOmega]; go_simp; (try go_ints); exact DetR.mk))); simp only [Act.put, qS0, qS1, qS2])
                      apply FlowT.d
                      · intro w1 hk
                        unfold does
                        go_simp
                        exact CallR.det ((HC w1 hk.ext).out)
                      simp only [Act.put, qS0, qS1, qS2]
                      repeat (apply FlowT.d; (intro w1 hk; unfold does; go_simp; (try go_ints); (first | exact DetR.mk | (simp only [↓IntWalk.iteOmega, Oper.doesUpon_value]; exact DetR.mk) | (simp only [↓IntWalk.iteOmega]; go_simp; (try go_ints); exact DetR.mk))); simp only [Act.put, qS0, qS1, qS2])
                      refine FlowT.fin fun w5 hx5 hk5 => ?_
                      have Hx5 := hid (HxK.out.trans hx5)
                      have HrM5 := hid (own_ext HrM.out hx5)
                      clear hx5 hk5 j0 j1 j2 j3 j4 d0 d1 d2 HC
                      go_wp2
                      go_roundw
                      case rel => exact ⟨k + 1, e, by go_num, rfl, by omega, Hn.out.symm, fun h => absurd h Hne.out, Hx5.out, HrM5.out⟩
                      case measure => simp [intOf]; omega
                · obtain rfl : k = rs.length := by omega
                  have Hfull : Hid (d = (rs.map R2.r).any (fun r => P.isE r has a b)) := hid (by rw [Hd.out, List.take_of_length_le (by rw [List.length_map]; exact Nat.le_refl _)])
                  have He2 : Hid (P.edgeB has a b = d) := hid (by
                    rw [Hedge.out, ← Hfull.out]
                    by_cases hab2 : a = b
                    · have h0 := Hab.out hab2
                      have h1 := Hd.out
                      rw [h0] at h1
                      rw [h1]; simp
                    · rw [decide_eq_true (show (a : Int) ≠ (b : Int) from fun e => hab2 (by omega)), Bool.true_and])
                  clear hkl
                  cases d with
                  | true =>
                    have Hrow : Hid (P.rowE has a (b + 1) = P.rowE has a b ++ [((a : Int), (b : Int))]) := hid (by rw [rowE_succ, He2.out]; rfl)
                    have HUx : Hid (Ext V (wr.alloc (.cells #[.int .i64 (a : Int), .int .i64 (b : Int)] 170))) := hid (HxK.out.alloc _)
                    have HUr : Hid ((wr.alloc (.cells #[.int .i64 (a : Int), .int .i64 (b : Int)] 170)).ownsRow V.heap.size 170 2 (.slice a9' M.length c9') M.length (M.flatMap eCells)) := hid (own_ext HrM.out ((Ext.refl _).alloc _))
                    go_wp2_with (at_builtin; refine wpList_append_el V.heap.size HUx.out.size 168 170 (.agg #[.int .i64 0, .int .i64 0]) 2 16 Tryz.underlying168 redge_info rfl (by omega) (by omega) rfl _ _ rfl (.slice a9' M.length c9') M.length (M.flatMap eCells) rfl HUr.out wr.heap.size [.int .i64 (a : Int), .int .i64 (b : Int)] rfl (by simp [Value.oneCell']) rfl (Blk.new _ _ _) (by omega) ?_; intro v' w' h1 h2 h4; obtain ⟨a', c', rfl⟩ := row_form h1; have h3 := hid (Keep.new HUx.out h2 (fun b e => (World.ownsRow.lt HUr.out b e).1)); have h1 := hid h1; clear h2 h4)
                    go_roundw
                    case rel => exact ⟨b + 1, M ++ [((a : Int), (b : Int))], by go_num, by omega, by rw [HM.out, Hrow.out, List.append_assoc], by rw [List.length_append, List.flatMap_append]; simpa [eCells] using h1.out, h3.out⟩
                    case measure => simp [intOf]; omega
                  | false =>
                    have Hrow : Hid (P.rowE has a (b + 1) = P.rowE has a b) := hid (by rw [rowE_succ, He2.out]; simp)
                    go_wp2
                    go_roundw
                    case rel => exact ⟨b + 1, M, by go_num, by omega, by rw [HM.out, Hrow.out], HrM.out, HxK.out⟩
                    case measure => simp [intOf]; omega
            · obtain rfl : b = N := by omega
              have Hn : Hid (M = P.refE has (a + 1)) := hid (by rw [HM.out, HL.out, refE_succ, HN.out])
              go_wp2
              go_roundw
              case rel => exact ⟨a + 1, M, by go_num, by omega, Hn.out, HrM.out, HxM.out⟩
              case measure => simp [intOf]; omega
        · obtain rfl : a = N := by omega
          have Hn : Hid (P.refE has P.nodesV = L) := hid (by rw [HL.out, HN.out])
          go_wp2
          go_ret
          exact ⟨_, rfl, by unfold RERow; rw [Hn.out]; exact own_low Hr9.out (HX.out.trans Hx.out).size, HX.out.trans (Hx.out.trans Hx9.out)⟩
set_option maxRecDepth 100000 in
set_option maxHeartbeats 1600000 in
theorem rseterror_any (v : Value) (l : List Int) (w : World) (n0 : Nat) (h : IntsR w n0 v l) :
    Calls Tryz.prog 45 #[v] w fun e w' => e = .returned (.int .i64 (chkE l : Int)) ∧ Ext w w' := by
  obtain ⟨a, cap, rfl, h2, h3, h4, h5⟩ := id h
  have H4 := hid h4
  have H5 := hid h5
  have hml : (l.length : Int) ≤ 9223372036854775807 := by omega
  clear h h2 h3 h4 h5
  go_enter Tryz.func45, Tryz.ntmps45
  go_wp2
  go_loop [3] (fun t3 => ∃ k : Nat, t3 = .int .i64 (k : Int) ∧ k ≤ l.length ∧ ∀ j t, j < k → l[j]? = some t → 0 ≤ t ∧ t < 1000) (fun t3 => l.length - (intOf t3).toNat)
  case atStart => exact ⟨0, rfl, Nat.zero_le _, fun j t h => by omega⟩
  case round =>
    obtain ⟨k, rfl, hk, hp⟩ := hrel
    have Hp := hid hp
    clear hp
    by_cases hlt : k < l.length
    · obtain ⟨y, rfl⟩ := H4.out (by omega)
      obtain ⟨q, hq⟩ : ∃ q, l[k]? = some q := ⟨_, List.getElem?_eq_getElem hlt⟩
      have hc := (H5.out y rfl (by omega)).2 k hlt q hq
      have Hq := hid hq
      clear hq
      by_cases hq0 : q < 0
      · have Hr := hid (chkE_two (List.mem_of_getElem? Hq.out) (by omega))
        go_wp2
        go_ret
        exact ⟨by rw [Hr.out]; rfl, Ext.refl _⟩
      · by_cases hq1 : 1000 ≤ q
        · have Hr := hid (chkE_two (List.mem_of_getElem? Hq.out) (by omega))
          go_wp2
          go_ret
          exact ⟨by rw [Hr.out]; rfl, Ext.refl _⟩
        · have Hb : Hid (0 ≤ q ∧ q < 1000) := hid (by omega)
          go_wp2
          refine ⟨⟨k + 1, by go_num, by omega, fun j t hj ht => ?_⟩, by simp [intOf]; omega⟩
          by_cases hjk : j = k
          · subst hjk
            obtain rfl := Option.some.inj (Hq.out.symm.trans ht)
            exact Hb.out
          · exact Hp.out j t (by omega) ht
    · obtain rfl : k = l.length := by omega
      have Hin : Hid (InR l) := hid fun t ht => by
        obtain ⟨j, hj, e⟩ := List.mem_iff_getElem.1 ht
        exact Hp.out j t hj (by rw [List.getElem?_eq_getElem hj, e])
      go_wp2
      go_loopw [4] (fun t4 wr => ∃ i : Nat, t4 = .int .i64 ((i : Int) + 1) ∧ i ≤ l.length ∧ (∀ j, j < i → j + 1 < l.length → l.getD j 0 < l.getD (j + 1) 0) ∧ Ext w wr) (fun t4 _ => l.length + 1 - (intOf t4).toNat)
      case atStart => exact ⟨0, rfl, Nat.zero_le _, fun j hj => by omega, Ext.refl _⟩
      case round =>
        obtain ⟨i, rfl, hi, hp, hx⟩ := hrel
        have Hs := hid hp
        have Hx := hid hx
        clear hp hx
        by_cases hlt : i + 1 < l.length
        · obtain ⟨y, rfl⟩ := H4.out (by omega)
          obtain ⟨p, hp⟩ : ∃ p, l[i]? = some p := ⟨_, List.getElem?_eq_getElem (by omega)⟩
          obtain ⟨q, hq⟩ : ∃ q, l[i + 1]? = some q := ⟨_, List.getElem?_eq_getElem hlt⟩
          have hcp := (H5.out y rfl (by omega)).2 i (by omega) p hp
          have hcq := (H5.out y rfl (by omega)).2 (i + 1) hlt q hq
          rw [add_posU y (i + 1) (by omega)] at hcq
          have c0 : ∀ w1, Keep (fun _ => False) wr w1 → w1.cell? (y.add i) = some (.int .i64 p) := fun w1 k => (Hx.out.trans k.ext).cellx hcp
          have c1 : ∀ w1, Keep (fun _ => False) wr w1 → w1.cell? ⟨y.block, y.off + (i + 1), none⟩ = some (.int .i64 q) := fun w1 k => (Hx.out.trans k.ext).cellx hcq
          have Hp : Hid (l.getD i 0 = p) := hid (by rw [List.getD_eq_getElem?_getD, hp]; rfl)
          have Hq : Hid (l.getD (i + 1) 0 = q) := hid (by rw [List.getD_eq_getElem?_getD, hq]; rfl)
          clear hp hq hcp hcq
          by_cases hpq : q ≤ p
          · have Hr := hid (chkE_ten Hin.out hlt (by rw [Hp.out, Hq.out]; exact hpq))
            go_wp2
            refine wp_flowT (fun _ => False) (by kernel_rfl) (by kernel_rfl) ?_
            repeat (apply FlowT.d; (intro w1 hk; unfold does; go_simp; (try go_ints); (first | exact DetR.mk | (simp only [↓IntWalk.iteOmega, Oper.doesUpon_value]; exact DetR.mk) | (simp only [↓IntWalk.iteOmega]; go_simp; (try go_ints); exact DetR.mk))); simp only [Act.put, qS0, qS1, qS2])
            refine FlowT.fin fun w1 hx1 hk1 => ?_
            have Hx1 := hid (Hx.out.trans hx1)
            clear hx1 hk1 c0 c1
            go_wp2
            go_ret
            exact ⟨by rw [Hr.out]; rfl, Hx1.out⟩
          · have Hn : Hid (l.getD i 0 < l.getD (i + 1) 0) := hid (by rw [Hp.out, Hq.out]; omega)
            go_wp2
            refine wp_flowT (fun _ => False) (by kernel_rfl) (by kernel_rfl) ?_
            repeat (apply FlowT.d; (intro w1 hk; unfold does; go_simp; (try go_ints); (first | exact DetR.mk | (simp only [↓IntWalk.iteOmega, Oper.doesUpon_value]; exact DetR.mk) | (simp only [↓IntWalk.iteOmega]; go_simp; (try go_ints); exact DetR.mk))); simp only [Act.put, qS0, qS1, qS2])
            refine FlowT.fin fun w1 hx1 hk1 => ?_
            have Hx1 := hid (Hx.out.trans hx1)
            clear hx1 hk1 c0 c1
            go_wp2
            go_roundw
            case rel =>
              refine ⟨i + 1, by go_num, by omega, fun j hj hl => ?_, Hx1.out⟩
              by_cases hji : j = i
              · subst hji; exact Hn.out
              · exact Hs.out j (by omega) hl
            case measure => simp [intOf]; omega
        · have Hok : Hid (chkE l = 0) := hid (chkE_ok Hin.out fun j hj => Hs.out j (by omega) hj)
          go_wp2
          go_ret
          exact ⟨by rw [Hok.out]; rfl, Hx.out⟩
theorem own_e2 {w : World} {base g n cap : Nat} {t : TypeId} {R : List (Int × Int)} (h : w.ownsRow base t 2 (.slice (some ⟨g, 0, none⟩) n cap) n (R.flatMap eCells)) {i : Nat} {x : Int × Int} (hx : R[i]? = some x) :
    w.cell? ⟨g, i * 2, none⟩ = some (.int .i64 x.1) ∧ w.cell? ⟨g, i * 2 + 1, none⟩ = some (.int .i64 x.2) := own_e h hx
theorem edge_load {me k : Int} {s : SH} (e : Int × Int) : (s.edge me k e).load ≤ s.load + 1 := by
  unfold SH.edge
  split
  · omega
  · rw [tell_load]; omega
theorem edges_load {me k : Int} : ∀ (l : List (Int × Int)) {s : SH}, (l.foldl (SH.edge me k) s).load ≤ s.load + l.length
  | [], _ => Nat.le_refl _
  | e :: l, s => by
    have h1 := edges_load (me := me) (k := k) l (s := s.edge me k e)
    have h2 := edge_load (me := me) (k := k) (s := s) e
    rw [List.foldl_cons, List.length_cons]
    omega
set_option maxRecDepth 100000 in
set_option maxHeartbeats 3200000 in
theorem shardfire_b (c : SC) (s : SH) (r : RV) (aa : Option Addr) (ca : Nat) (o : Nat) (w : World) (G F : Nat → Prop) (g : Nat) (hS : ShAt w G F g c s) (ho : o < c.P.objectsV) (ha : IntsF w F (.slice aa r.args.length ca) r.args) (hE : r.fired = true → ∀ e ∈ c.P.fires r (o : Int), EdIn c.P e) (hld : s.load ≤ 800000000) (hkc : (r.kind.toList == [99, 97, 108, 108]) = true) (hin : (c.P.nodesV : Int) ≤ (o : Int)) :
    Calls Tryz.prog 162 #[.pointer (some ⟨g, 0, none⟩), r.val (.slice aa r.args.length ca), .int .i64 (o : Int)] w fun x w' => x = .returned (.tuple #[]) ∧ ShAt w' G F g c (s.fire c.P (c.me : Nat) (c.k : Nat) r (o : Int)) ∧ Keep (fun b => ¬ F b) w w' := by
  have hS0 := hS
  obtain ⟨m1, m2, f1, f2, vt, vo, ts, os, h⟩ := hS
  have hw := h.con.well
  obtain ⟨hn1, hn2⟩ := hw.nodes
  obtain ⟨W, hW⟩ : ∃ W, W = w.alloc (.cells #[.string r.kind, .int .i64 r.a, .int .i64 r.b, .int .i64 r.k, .slice aa r.args.length ca] 123) := ⟨_, rfl⟩
  have HX : Hid (Ext w W) := hid (by rw [hW]; exact (Ext.refl _).alloc _)
  have HBx : Hid (Blk W w.heap.size #[.string r.kind, .int .i64 r.a, .int .i64 r.b, .int .i64 r.k, .slice aa r.args.length ca] 123) := hid (by rw [hW]; exact Blk.new _ _ _)
  have HWe : Hid (W = w.alloc (.cells #[.string r.kind, .int .i64 r.a, .int .i64 r.b, .int .i64 r.k, .slice aa r.args.length ca] 123)) := hid hW
  have HSa := hid (hS0.ext HX.out)
  have HS := hid (h.ext HX.out)
  have HA := hid (ha.keep (HX.out.keep fun _ => False) (fun _ _ h => h) fun _ h => h)
  have al := ha.form
  have hal : (r.args.length : Int) ≤ 9223372036854775807 := by obtain ⟨a, cap, h1, h2, h3, _⟩ := al; omega
  have Hw := hid hw
  have HE := hid hE
  have Hld := hid hld
  have hob : o < 126 := by omega
  have Ho := hid ho
  have m0 := HBx.out.av 0 rfl
  have m1' := HBx.out.av 1 rfl
  have m2' := HBx.out.av 2 rfl
  have b6 := HS.out.blk.av 6 rfl
  simp only [shCells, qA0, qA1, qA2] at m0 m1' m2' b6
  unfold RV.val
  clear hS0 h hW ha al hw hE hld ho
  obtain ⟨N, hN0⟩ : ∃ N, N = o - c.P.nodesV := ⟨_, rfl⟩
  have hN : N < c.P.funs.length := by have := Ho.out; unfold PP.objectsV at this; omega
  have hsub : (o : Int) - (c.P.nodesV : Int) = (N : Int) := by omega
  have hFd := HS.out.con.funs
  obtain ⟨af, cf, hvf, -⟩ := hFd.form
  rw [hvf] at hFd
  obtain ⟨yf, f, afp, cfp, hyf, hfk, e0, e1, e2, hIp⟩ := (FunsF.toR hFd fun b hb => HS.out.flt b (HS.out.gf b hb)).at hN
  have hfm : f ∈ c.P.funs := List.mem_of_getElem? hfk
  have hq4 := called_few Hw.out hfm r
  have hpf := (PP.goodF (PP.funs_ok Hw.out.1) hfm).few
  obtain ⟨q, hq⟩ : ∃ q, q = calledV f r := ⟨_, rfl⟩
  have hfr : c.P.fires r (o : Int) = q := by
    unfold PP.fires kCall
    rw [hkc, cond_true]
    have hfv : c.P.funV (o : Int) = (N : Int) := by
      unfold PP.funV
      rw [if_pos (by omega)]; omega
    unfold PP.callsOf
    rw [hfv, if_pos (by omega), hq]
    show calledV ((c.P.funs.getD N _)) r = _
    rw [List.getD_eq_getElem?_getD, hfk]; rfl
  have Hr : Hid (s.fire c.P (c.me : Nat) (c.k : Nat) r (o : Int) = q.foldl (SH.edge (c.me : Nat) (c.k : Nat)) s) := hid (by
    unfold SH.fire RV.fired kCall
    rw [hfr, hkc, Bool.or_true]; rfl)
  have hfd : r.fired = true := by unfold RV.fired kCall; rw [hkc, Bool.or_true]
  have HSq : Hid (∀ e ∈ q, EdIn c.P e) := hid fun e he => HE.out hfd e (by rw [hfr]; exact he)
  have HCl := fun wx (x : Ext W wx) => hid (conscalled_any f r (.slice afp f.params.length cfp) (.slice aa r.args.length ca) wx W.heap.size (hIp.old (x.old _)) ((HA.out.toR HS.out.flt).old (x.old _)) (by omega))
  rw [← hq] at HCl hq4
  unfold RV.val at HCl
  subst hyf
  have b1 := HS.out.blk.av 1 rfl
  have b1k := HS.out.blk.kc (X := fun _ => False) (fun e => e) 1 rfl
  have b6k := HS.out.blk.kc (X := fun _ => False) (fun e => e) 6 rfl
  have f0 : ∀ wx, Keep (fun _ => False) W wx → wx.cell? (yf.add (N * 3)) = some (.string f.name) := fun wx kk => kk.ext.cellx e0
  have f1' : ∀ wx, Keep (fun _ => False) W wx → wx.cell? ⟨(yf.add (N * 3)).block, (yf.add (N * 3)).off + 1, none⟩ = some (.slice afp f.params.length cfp) := fun wx kk => kk.ext.cellx e1
  have f2' : ∀ wx, Keep (fun _ => False) W wx → wx.cell? ⟨(yf.add (N * 3)).block, (yf.add (N * 3)).off + 2, none⟩ = some (.int .i64 f.ret) := fun wx kk => kk.ext.cellx e2
  have k0 := HBx.out.kc (X := fun _ => False) (fun e => e) 0 rfl
  have k1 := HBx.out.kc (X := fun _ => False) (fun e => e) 1 rfl
  have k2 := HBx.out.kc (X := fun _ => False) (fun e => e) 2 rfl
  have k3 := HBx.out.kc (X := fun _ => False) (fun e => e) 3 rfl
  have k4 := HBx.out.kc (X := fun _ => False) (fun e => e) 4 rfl
  simp only [shCells, qA0, qA1, qA2] at b1 b1k b6k k0 k1 k2 k3 k4
  rw [hvf] at b1 b1k
  have hfl : c.P.funs.length ≤ 1000000 := by have := Hw.out.few; omega
  clear hfk e0 e1 e2 hIp hfm hq hfr hvf hFd hfd hN0
  generalize c.P.nodesV = NN at *
  go_enter Tryz.func162, Tryz.ntmps162
  rw [HWe.out] at m0 m1' m2' b6
  go_wp2
  rw [← HWe.out]
  refine wp_flow (fun _ => False) (by kernel_rfl) (by kernel_rfl) ?_
  apply Flow.d 0 _ rfl (by simp) (by kernel_rfl)
  · intro w1 hk; unfold does; go_simp; (try go_ints); exact DetR.mk
  simp only [qA0, qA1, qA2, Act.put, qS0, qS1, qS2]
  apply Flow.d 1 _ rfl (by simp) (by kernel_rfl)
  · intro w1 hk; unfold does; go_simp; (try go_ints); exact DetR.mk
  simp only [qA0, qA1, qA2, Act.put, qS0, qS1, qS2]
  apply Flow.d 2 _ rfl (by simp) (by kernel_rfl)
  · intro w1 hk; unfold does; go_simp; (try go_ints); exact DetR.mk
  simp only [qA0, qA1, qA2, Act.put, qS0, qS1, qS2]
  apply Flow.d 3 _ rfl (by simp) (by kernel_rfl)
  · intro w1 hk; unfold does; go_simp; (try go_ints); exact DetR.mk
  simp only [qA0, qA1, qA2, Act.put, qS0, qS1, qS2]
  apply Flow.d 4 _ rfl (by simp) (by kernel_rfl)
  · intro w1 hk; unfold does; go_simp; (try go_ints); exact DetR.mk
  simp only [qA0, qA1, qA2, Act.put, qS0, qS1, qS2]
  apply Flow.d 5 _ rfl (by simp) (by kernel_rfl)
  · intro w1 hk; unfold does; go_simp; (try go_ints); exact DetR.mk
  simp only [qA0, qA1, qA2, Act.put, qS0, qS1, qS2]
  apply Flow.d 6 _ rfl (by simp) (by kernel_rfl)
  · intro w1 hk; unfold does; go_simp; (try go_ints); exact DetR.mk
  simp only [qA0, qA1, qA2, Act.put, qS0, qS1, qS2]
  apply Flow.d 7 _ rfl (by simp) (by kernel_rfl)
  · intro w1 hk; unfold does; go_simp; (try go_ints); exact DetR.mk
  simp only [qA0, qA1, qA2, Act.put, qS0, qS1, qS2]
  apply Flow.d 8 _ rfl (by simp) (by kernel_rfl)
  · intro w1 hk; unfold does; go_simp; (try go_ints); exact DetR.mk
  simp only [qA0, qA1, qA2, Act.put, qS0, qS1, qS2]
  apply Flow.d 9 _ rfl (by simp) (by kernel_rfl)
  · intro w1 hk; unfold does; go_simp; (try go_ints); exact DetR.mk
  simp only [qA0, qA1, qA2, Act.put, qS0, qS1, qS2]
  apply Flow.d 10 _ rfl (by simp) (by kernel_rfl)
  · intro w1 hk; unfold does; go_simp; (try go_ints); exact DetR.mk
  simp only [qA0, qA1, qA2, Act.put, qS0, qS1, qS2]
  apply Flow.d 11 _ rfl (by simp) (by kernel_rfl)
  · intro w1 hk; unfold does; go_simp; (try go_ints); exact DetR.mk
  simp only [qA0, qA1, qA2, Act.put, qS0, qS1, qS2]
  apply Flow.d 12 _ rfl (by simp) (by kernel_rfl)
  · intro w1 hk; unfold does; go_simp; (try go_ints); exact DetR.mk
  simp only [qA0, qA1, qA2, Act.put, qS0, qS1, qS2]
  apply Flow.d 13 _ rfl (by simp) (by kernel_rfl)
  · intro w1 hk; unfold does; go_simp; (try go_ints); exact DetR.mk
  simp only [qA0, qA1, qA2, Act.put, qS0, qS1, qS2]
  apply Flow.d 16 _ rfl (by simp) (by kernel_rfl)
  · intro w1 hk; unfold does; go_simp; (try go_ints); exact DetR.mk
  simp only [qA0, qA1, qA2, Act.put, qS0, qS1, qS2]
  refine Flow.one 14 _ rfl (by kernel_rfl) (fun v w' => (∃ a c, v = .slice a q.length c) ∧ ERow w.heap.size w' v q ∧ Ext W w') (fun _ _ _ ⟨h1, h2, h3⟩ y => ⟨h1, h2.ext y, h3.trans y⟩) (fun w2 hC hk2 => ?_) ?_
  · unfold does
    go_simp
    refine CallR.act ((HCl w2 hC).out.mono ?_)
    rintro e w3 ⟨v, rfl, hr, hx⟩
    exact ⟨v, rfl, hk2.trans (hx.keep _), row_form hr, hr.low (HX.out.trans hC).size, hC.trans hx⟩
  rintro _ ⟨_, ⟨a8, c8, rfl⟩, _, _⟩
  simp only [qA0, qA1, qA2, Act.put, qS0, qS1, qS2]
  apply Flow.d 15 _ rfl (by simp) (by kernel_rfl)
  · intro w1 hk; unfold does; go_simp; (try go_ints); exact DetR.mk
  simp only [qA0, qA1, qA2, Act.put, qS0, qS1, qS2]
  refine Flow.fin (by kernel_rfl) fun w4 hC4 hk4 => ?_
  obtain ⟨_, h5, h6⟩ := hC4
  have Hx4 := hid (HX.out.trans h6)
  have H5 := hid h5
  have HS4 : Hid (ShAt w4 G (fun b => F b ∨ (W.heap.size ≤ b ∧ b < w4.heap.size)) g c s) := hid (HSa.out.frz h6)
  have Hrf : Hid (∀ b, (Value.slice a8 q.length c8).ownBlock = some b → F b ∨ (W.heap.size ≤ b ∧ b < w4.heap.size)) := hid fun b hb => by
    have h1 := World.ownsRow.lt h5 b hb
    rcases Nat.lt_or_ge b W.heap.size with g1 | g1
    · exact .inr ⟨by
        have h2 : W.heap.size = w.heap.size + 1 := by rw [HWe.out, heap_size_alloc]
        have h3 : b ≠ w.heap.size := by
          rintro rfl
          obtain ⟨c', hc⟩ := own_ty h5 hb
          exact (HBx.out.ext h6).ty_ne hc (by decide) rfl
        omega, h1.2⟩
    · exact .inr ⟨g1, h1.2⟩
  have HGF := hid HS.out.gf
  clear h5 h6 hk4 HCl f0 f1' f2' b1 b1k b6k k0 k1 k2 k3 k4 m0 m1' m2' b6 HS
  generalize hF' : (fun b => F b ∨ (W.heap.size ≤ b ∧ b < w4.heap.size)) = F' at HS4
  have HF1 : Hid (∀ b, F b → F' b) := hid fun b hb => by rw [← hF']; exact .inl hb
  have HrF : Hid (∀ b, (Value.slice a8 q.length c8).ownBlock = some b → F' b) := hid fun b hb => by rw [← hF']; exact Hrf.out b hb
  clear hF' Hrf
  go_wp2
  go_loopw [36] (fun t36 wr => ∃ k : Nat, t36 = .int .i64 (k : Int) ∧ k ≤ q.length ∧ ShAt wr G F' g c ((q.take k).foldl (SH.edge (c.me : Nat) (c.k : Nat)) s) ∧ ERow w.heap.size wr (.slice a8 q.length c8) q ∧ Keep (fun b => ¬ F b) w wr) (fun t36 _ => q.length - (intOf t36).toNat)
  case atStart => exact ⟨0, rfl, Nat.zero_le _, HS4.out, H5.out, Hx4.out.keep _⟩
  case round =>
    obtain ⟨k, rfl, hk, hS, hR, hK⟩ := hrel
    have HR := hid hR
    have HK := hid hK
    by_cases hlt : k < q.length
    · obtain ⟨x, hqx⟩ : ∃ x, q[k]? = some x := ⟨_, List.getElem?_eq_getElem hlt⟩
      obtain ⟨g8, cp8, hge⟩ := own_some hR (by omega)
      simp only [Value.slice.injEq] at hge
      obtain ⟨rfl, -, rfl⟩ := hge
      obtain ⟨q0, q1⟩ := own_e2 hR hqx
      obtain ⟨⟨k1, k2⟩, k3, k4⟩ := HSq.out x (List.mem_of_getElem? hqx)
      have Hn : Hid ((q.take (k + 1)).foldl (SH.edge (c.me : Nat) (c.k : Nat)) s = SH.edge (c.me : Nat) (c.k : Nat) ((q.take k).foldl (SH.edge (c.me : Nat) (c.k : Nat)) s) x) := hid (by rw [List.take_add_one, hqx, List.foldl_append]; rfl)
      obtain ⟨x1, x2⟩ := x
      simp only at q0 q1 k1 k2 k3 k4
      obtain ⟨i, rfl⟩ := Int.eq_ofNat_of_zero_le k1
      obtain ⟨j, rfl⟩ := Int.eq_ofNat_of_zero_le k3
      obtain ⟨wA, hwA⟩ : ∃ wA, wA = wr.alloc (.cells #[.int .i64 (i : Int), .int .i64 (j : Int)] 128) := ⟨_, rfl⟩
      have hxA : Ext wr wA := by rw [hwA]; exact (Ext.refl _).alloc _
      have HxA := hid hxA
      have hload : ((q.take k).foldl (SH.edge (c.me : Nat) (c.k : Nat)) s).load ≤ 900000000 := by
        have h1 := edges_load (me := (c.me : Nat)) (k := (c.k : Nat)) (q.take k) (s := s)
        rw [List.length_take] at h1
        have := Hld.out
        omega
      have hnv := Hw.out.nodes
      have HE2 := hid (shardedge_any c ((q.take k).foldl (SH.edge (c.me : Nat) (c.k : Nat)) s) i j wA G F' g (hS.ext hxA) (by omega) (by omega) hload)
      have HwA := hid hwA
      clear hS hR hK hqx k1 k2 k3 k4 hxA hwA hload hnv
      go_wp2_with fail
      rw [← HwA.out]
      refine HE2.out.mono ?_
      intro z w5 hx
      obtain ⟨rfl, hS5, hK5⟩ := hx
      have HS5 := hid hS5
      have HK5 := hid hK5
      clear hS5 hK5 HE2 q0 q1
      go_wp2
      go_roundw
      case rel =>
        refine ⟨k + 1, by go_num, by omega, ?_, ?_, ?_⟩
        · rw [Hn.out]; exact HS5.out
        · exact row_keep (HR.out.ext HxA.out) HK5.out fun b hb hx => hx (HrF.out b hb)
        · exact (HK.out.ext_r HxA.out).trans (HK5.out.mono fun b _ hx hF => hx (HF1.out b hF))
      case measure => simp [intOf]; omega
    · obtain rfl : k = q.length := by omega
      rw [List.take_length] at hS
      have HSz := hid (hS.less HGF.out HF1.out)
      clear hS hR hK
      go_wp2
      go_end0
      exact ⟨rfl, by rw [Hr.out]; exact HSz.out, HK.out⟩
theorem shardfire_any (c : SC) (s : SH) (r : RV) (aa : Option Addr) (ca : Nat) (o : Nat) (w : World) (G F : Nat → Prop) (g : Nat) (hS : ShAt w G F g c s) (ho : o < c.P.objectsV) (ha : IntsF w F (.slice aa r.args.length ca) r.args) (hE : r.fired = true → ∀ e ∈ c.P.fires r (o : Int), EdIn c.P e) (hld : s.load ≤ 800000000) :
    Calls Tryz.prog 162 #[.pointer (some ⟨g, 0, none⟩), r.val (.slice aa r.args.length ca), .int .i64 (o : Int)] w fun x w' => x = .returned (.tuple #[]) ∧ ShAt w' G F g c (s.fire c.P (c.me : Nat) (c.k : Nat) r (o : Int)) ∧ Keep (fun b => ¬ F b) w w' := by
  cases hkc : (r.kind.toList == [99, 97, 108, 108]) with
  | true =>
    by_cases hin : (o : Int) < (c.P.nodesV : Int)
    · exact shardfire_a c s r aa ca o w G F g hS ho ha hE hld hkc hin
    · exact shardfire_b c s r aa ca o w G F g hS ho ha hE hld hkc (by omega)
  | false =>
  cases hkl : (r.kind.toList == [108, 111, 97, 100]) with
  | true =>
    by_cases hin : (o : Int) < (c.P.nodesV : Int)
    · exact shardfire_c c s r aa ca o w G F g hS ho ha hE hld hkc hkl hin
    · exact shardfire_d c s r aa ca o w G F g hS ho ha hE hld hkc hkl (by omega)
  | false =>
  cases hks : (r.kind.toList == [115, 116, 111, 114, 101]) with
  | true =>
    by_cases hin : (o : Int) < (c.P.nodesV : Int)
    · exact shardfire_e c s r aa ca o w G F g hS ho ha hE hld hkc hkl hks hin
    · exact shardfire_f c s r aa ca o w G F g hS ho ha hE hld hkc hkl hks (by omega)
  | false => exact shardfire_g c s r aa ca o w G F g hS ho ha hE hld hkc hkl hks
end Go.Proofs.YtbagppdibncfdaaGreatDoor
