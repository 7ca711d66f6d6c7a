/- Texts of one proof, put together: T6 T1 T7 X7 X8 T8 WL. -/
import Derived.Test.YtoaoienfggjepaaGreatDoorTL04
import Derived.Test.YtoaoienfggjepaaGreatDoorTL05
import Derived.Test.YtoaoienfggjepaaGreatDoorTL06
import Derived.Test.YtoaoienfggjepaaGreatDoorTL07
import Derived.Test.YtoaoienfggjepaaGreatDoorTL11
import Derived.Test.YtoaoienfggjepaaGreatDoorTL12
import Derived.Test.YtoaoienfggjepaaGreatDoorTL15
import Derived.Test.YtoaoienfggjepaaGreatDoorTL17
import Derived.Test.YtoaoienfggjepaaGreatDoorTL19

/- The reference: edges of a program (EdgesOf). -/
namespace Go.Proofs.YtoaoienfggjepaaGreatDoor
set_option linter.unusedSimpArgs false
set_option linter.unusedVariables false
open Go Go.RowKit

set_option maxRecDepth 100000 in
set_option maxHeartbeats 6400000 in
theorem redgesof_any (a1 a2 a3 : Option Addr) (c1 c2 c3 : Nat) (P : PP) (hv : Value) (has : List (List Int)) (w : World) (n0 : Nat) (h : ProgR w n0 (.slice a1 P.vars.length c1) (.slice a2 P.funs.length c2) (.slice a3 P.stmts.length c3) P) (hw : P.Well) (hh : SetsR w n0 hv has) (hl : has.length = P.nodesV) (hn0 : n0 ≤ w.heap.size) :
    Calls Tryz.prog 89 #[pval a1 a2 a3 c1 c2 c3 P, hv] w fun e w' => ∃ v, e = .returned v ∧ RERow w.heap.size w' v (P.refE has P.nodesV) ∧ Ext w w' := by
  obtain ⟨ah, ch, rfl⟩ := hh.form
  have Hw := hid hw
  have Hlen := hid hl
  obtain ⟨hf1, hf2, hf3⟩ := hw.few
  have hN6 := nodesV_le P hw
  obtain ⟨W, hW⟩ : ∃ W, W = w.alloc (.cells (pcells a1 a2 a3 c1 c2 c3 P) 39) := ⟨_, rfl⟩
  have HX : Hid (Ext w W) := hid (by rw [hW]; exact (Ext.refl _).alloc _)
  have HBx : Hid (Blk W w.heap.size (pcells a1 a2 a3 c1 c2 c3 P) 39) := hid (by rw [hW]; exact Blk.new _ _ _)
  have HWe : Hid (W = w.alloc (.cells #[.slice a1 P.vars.length c1, .slice a2 P.funs.length c2, .slice a3 P.stmts.length c3] 39)) := hid (by rw [hW]; rfl)
  have HNo := hid (rnodesof_any a1 a2 a3 c1 c2 c3 P W n0 (h.ext HX.out) (by omega) (by omega))
  have HRu := fun k (hk : k < P.stmts.length) w1 (x : Ext w w1) => hid (rruleof_any a1 a2 a3 c1 c2 c3 P k _ (stAt_some hk) w1 n0 (h.ext x) hw)
  have HIs := fun r av w1 (p q : Int) (x : Ext w w1) (ha : IntsR w1 n0 av r.args) (hr : REdge has.length r) => hid (risedge_any a1 a2 a3 c1 c2 c3 P r av (.slice ah has.length ch) has p q w1 n0 (h.ext x) (by omega) (by omega) (by omega) ha (hh.ext x) hr)
  obtain ⟨N, hN⟩ : ∃ N, N = P.nodesV := ⟨_, rfl⟩
  rw [← hN] at HNo hN6 hl
  have HN := hid hN
  have d0 := HBx.out.av 0 rfl
  have d1 := HBx.out.av 1 rfl
  have d2 := HBx.out.av 2 rfl
  simp only [pcells, List.getElem_toArray, List.getElem_cons_zero, List.getElem_cons_succ] at d0 d1 d2
  rw [HWe.out] at d0 d1 d2
  unfold pval at HNo HRu HIs ⊢
  have Hn0 := hid (Nat.le_trans hn0 HX.out.size)
  clear h hw hh hW hN hl hn0
  go_enter Tryz.func89, Tryz.ntmps89
  go_wp2_with fail
  rw [← HWe.out]
  refine HNo.out.mono ?_
  intro e w1 hx
  obtain ⟨rfl, hx1⟩ := hx
  have Hx1 := hid hx1
  clear HNo hx1 d0 d1 d2
  have d2 := (HBx.out.ext Hx1.out).av 2 rfl
  simp only [pcells, List.getElem_toArray, List.getElem_cons_zero, List.getElem_cons_succ] at d2
  go_wp2
  go_loopw [6, 7] (fun t6 t7 wr => ∃ (k : Nat) (rs : List R2), t7 = .int .i64 (k : Int) ∧ k ≤ P.stmts.length ∧ rs.map R2.r = P.rulesRUp k ∧ wr.ownsRow W.heap.size 130 5 t6 rs.length (rs.flatMap R2.cells) ∧ (∀ x ∈ rs, IntsR wr n0 x.v x.r.args) ∧ Ext W wr) (fun _ t7 _ => P.stmts.length - (intOf t7).toNat)
  case atStart => exact ⟨0, [], rfl, Nat.zero_le _, rfl, World.ownsRow_nil _ _ _ _, (fun x h => by cases h), Hx1.out⟩
  case round =>
    obtain ⟨k, rs, rfl, hk, he, hr, ha, hx⟩ := hrel
    obtain ⟨a6, c6, rfl⟩ := row_form hr
    have hrl : rs.length ≤ k := by
      have h1 := congrArg List.length he
      rw [List.length_map] at h1
      rw [h1]
      exact rulesRUp_len P k
    have He := hid he
    have Hr := hid hr
    have Ha := hid ha
    have Hx := hid hx
    clear he hr ha hx d2
    have d0 := (HBx.out.ext Hx.out).av 0 rfl
    have d1 := (HBx.out.ext Hx.out).av 1 rfl
    have d2 := (HBx.out.ext Hx.out).av 2 rfl
    simp only [pcells, List.getElem_toArray, List.getElem_cons_zero, List.getElem_cons_succ] at d0 d1 d2
    by_cases hlt : k < P.stmts.length
    · have HC := HRu k hlt wr (HX.out.trans Hx.out)
      have Hsu := hid (rulesRUp_succ P k)
      obtain ⟨r, hr⟩ : ∃ r, r = P.ruleR k (P.stAt k) := ⟨_, rfl⟩
      rw [← hr] at HC Hsu
      clear HRu HIs hr
      go_wp2_with fail
      refine HC.out.mono ?_
      intro e w2 hx
      obtain ⟨av, rfl, hI, hx2⟩ := hx
      obtain ⟨aa, ca, hav, _⟩ := id hI
      subst hav
      unfold RV.val
      have HI := hid hI
      obtain ⟨V, hV⟩ : ∃ V, V = w2.alloc (.cells #[.string r.kind, .int .i64 r.a, .int .i64 r.b, .int .i64 r.k, .slice aa r.args.length ca] 130) := ⟨_, rfl⟩
      have hxV : Ext w2 V := by rw [hV]; exact (Ext.refl _).alloc _
      have HBr : Hid (Blk V w2.heap.size #[.string r.kind, .int .i64 r.a, .int .i64 r.b, .int .i64 r.k, .slice aa r.args.length ca] 130) := hid (by rw [hV]; exact Blk.new _ _ _)
      have HVe := hid hV
      have HVx := hid hxV
      have HxV := hid (Hx.out.trans (hx2.trans hxV))
      have HrV := hid (own_ext Hr.out (hx2.trans hxV))
      have HwV := hid (hx2.trans hxV)
      clear HC hI hx2 hxV hV d0 d1 d2
      cases hkb : (r.kind.toList == [98, 97, 115, 101]) with
      | true =>
        have Hn : Hid (P.rulesRUp (k + 1) = P.rulesRUp k) := hid (by rw [Hsu.out, eq_of_beq bBase_list, if_pos hkb, List.append_nil])
        have hkb' : (r.kind.toList != [98, 97, 115, 101]) = false := by rw [bne, hkb]; rfl
        clear Hsu
        go_wp2
        rw [← HVe.out]
        go_roundw
        case rel => exact ⟨k + 1, rs, by go_num, by omega, He.out.trans Hn.out.symm, HrV.out, fun x hx => (Ha.out x hx).old (HwV.out.old _), HxV.out⟩
        case measure => simp [intOf]; omega
      | false =>
        have Hn : Hid (P.rulesRUp (k + 1) = P.rulesRUp k ++ [r]) := hid (by rw [Hsu.out, eq_of_beq bBase_list, hkb]; rfl)
        have hkb' : (r.kind.toList != [98, 97, 115, 101]) = true := by rw [bne, hkb]; rfl
        obtain ⟨U, hU⟩ : ∃ U, U = V.alloc (.cells #[.string r.kind, .int .i64 r.a, .int .i64 r.b, .int .i64 r.k, .slice aa r.args.length ca] 130) := ⟨_, rfl⟩
        have HUx : Hid (Ext W U) := hid (by rw [hU]; exact HxV.out.alloc _)
        have HVU : Hid (Ext V U) := hid (by rw [hU]; exact (Ext.refl _).alloc _)
        have HUr : Hid (U.ownsRow W.heap.size 130 5 (.slice a6 rs.length c6) rs.length (rs.flatMap R2.cells)) := hid (by rw [hU]; exact own_ext HrV.out ((Ext.refl _).alloc _))
        have HUb : Hid (Blk U V.heap.size #[.string r.kind, .int .i64 r.a, .int .i64 r.b, .int .i64 r.k, .slice aa r.args.length ca] 130) := hid (by rw [hU]; exact Blk.new _ _ _)
        have HUe : Hid (U = (w2.alloc (.cells #[.string r.kind, .int .i64 r.a, .int .i64 r.b, .int .i64 r.k, .slice aa r.args.length ca] 130)).alloc (.cells #[.string r.kind, .int .i64 r.a, .int .i64 r.b, .int .i64 r.k, .slice aa r.args.length ca] 130)) := hid (by rw [hU, HVe.out])
        have HVs : Hid (V.heap.size = w2.heap.size + 1) := hid (by rw [HVe.out, heap_size_alloc])
        rw [HVs.out] at HUb
        clear Hsu hU
        go_wp2_with (at_builtin; rw [← HUe.out]; refine wpList_append_el W.heap.size HUx.out.size 171 130 (.agg #[.string ⟨#[]⟩, .int .i64 0, .int .i64 0, .int .i64 0, .slice none 0 0]) 5 64 Tryz.underlying171 rrule_info rfl (by omega) (by omega) rfl _ _ rfl (.slice a6 rs.length c6) rs.length (rs.flatMap R2.cells) rfl HUr.out (w2.heap.size + 1) [.string r.kind, .int .i64 r.a, .int .i64 r.b, .int .i64 r.k, .slice aa r.args.length ca] rfl (by simp [Value.oneCell']) rfl HUb.out (by omega) ?_; intro v' w' h1 h2 h4; obtain ⟨a', c', rfl⟩ := row_form h1; have h3 := hid (Keep.new HUx.out h2 (fun b e => (World.ownsRow.lt HUr.out b e).1)); have hold := hid (show Old n0 U w' from h2.mono fun b _ e => Nat.le_trans Hn0.out (World.ownsRow.lt HUr.out b e).1); have h1 := hid h1; clear h2 h4)
        go_roundw
        case rel =>
          refine ⟨k + 1, rs ++ [⟨r, .slice aa r.args.length ca⟩], by go_num, by omega, ?_, ?_, ?_, h3.out⟩
          · rw [List.map_append, He.out, Hn.out]; rfl
          · rw [List.length_append, List.flatMap_append]; simpa [R2.cells] using h1.out
          · intro x hx
            rcases List.mem_append.1 hx with hx | hx
            · exact ((Ha.out x hx).old ((HwV.out.trans HVU.out).old _)).old hold.out
            · obtain rfl := List.mem_singleton.1 hx
              exact (HI.out.old ((HwV.out.trans HVU.out).old _)).old hold.out
        case measure => simp [intOf]; omega
    · obtain rfl : k = P.stmts.length := by omega
      obtain ⟨V, hV⟩ : ∃ V, V = wr := ⟨_, rfl⟩
      subst hV
      have HEd := hid (rulesRUp_edge Hw.out (Nat.le_refl _))
      rw [← He.out] at HEd
      clear HRu hlt hk
      go_wp2
      clear d0 d1 d2
      go_loopw [9, 10] (fun t9 t10 wq => ∃ (a : Nat) (L : List (Int × Int)), t10 = .int .i64 (a : Int) ∧ a ≤ N ∧ L = P.refE has a ∧ wq.ownsRow V.heap.size 134 2 t9 L.length (L.flatMap eCells) ∧ Ext V wq) (fun _ t10 _ => N - (intOf t10).toNat)
      case atStart => exact ⟨0, [], rfl, Nat.zero_le _, rfl, World.ownsRow_nil _ _ _ _, Ext.refl _⟩
      case round =>
        obtain ⟨a, L, rfl, ha, hL, hr, hx⟩ := hrel
        obtain ⟨a9, c9, rfl⟩ := row_form hr
        have HL := hid hL
        have Hr9 := hid hr
        have Hx9 := hid hx
        clear hL hr hx
        by_cases haN : a < N
        · go_wp2
          go_loopw [9, 11] (fun t9 t11 wq => ∃ (b : Nat) (M : List (Int × Int)), t11 = .int .i64 (b : Int) ∧ b ≤ N ∧ M = L ++ P.rowE has a b ∧ wq.ownsRow V.heap.size 134 2 t9 M.length (M.flatMap eCells) ∧ Ext V wq) (fun _ t11 _ => N - (intOf t11).toNat)
          case atStart => exact ⟨0, L, rfl, Nat.zero_le _, by simp [PP.rowE], Hr9.out, Hx9.out⟩
          case round =>
            obtain ⟨b, M, rfl, hb, hM, hr, hx⟩ := hrel
            obtain ⟨a9', c9', rfl⟩ := row_form hr
            have hML : M.length ≤ 20000 := by
              rw [hM, List.length_append, HL.out]
              have h1 := refE_len Hw.out has (n := a) (by rw [← HN.out]; omega)
              have h2 := rowE_len P has a b
              omega
            have HM := hid hM
            have HrM := hid hr
            have HxM := hid hx
            clear hM hr hx Hr9 Hx9
            by_cases hbN : b < N
            · go_wp2
              go_loopw [12, 13] (fun t12 t13 wq => ∃ (k : Nat) (d : Bool), t13 = .int .i64 (k : Int) ∧ t12 = .bool d ∧ k ≤ rs.length ∧ d = ((rs.map R2.r).take k).any (fun r => P.isE r has a b) ∧ (a = b → k = 0) ∧ Ext V wq ∧ wq.ownsRow V.heap.size 134 2 (.slice a9' M.length c9') M.length (M.flatMap eCells)) (fun _ t13 _ => rs.length - (intOf t13).toNat)
              case atStart => exact ⟨0, false, rfl, rfl, Nat.zero_le _, by simp, fun _ => rfl, HxM.out, HrM.out⟩
              case round =>
                clear HrM HxM
                obtain ⟨k, d, rfl, rfl, hk, hd, hab, hx, hrM⟩ := hrel
                have Hd := hid hd
                have Hab := hid hab
                have HxK := hid hx
                have HrM := hid hrM
                have Hedge : Hid (P.edgeB has a b = (decide ((a : Int) ≠ (b : Int)) && (rs.map R2.r).any (fun r => P.isE r has a b))) := hid (by
                  unfold PP.edgeB
                  rw [He.out, any_rules Hw.out])
                clear hd hab hx hrM
                by_cases hkl : k < rs.length
                · cases d with
                  | true =>
                    have He2 : Hid (P.edgeB has a b = true) := hid (by
                      have hne : a ≠ b := fun e => by
                        have h0 := Hab.out e
                        have h1 := Hd.out
                        rw [h0] at h1
                        simp at h1
                      rw [Hedge.out, decide_eq_true (show (a : Int) ≠ (b : Int) from fun e => hne (by omega)), Bool.true_and, List.any_eq_true]
                      obtain ⟨r, hr1, hr2⟩ := List.any_eq_true.1 Hd.out.symm
                      exact ⟨r, List.mem_of_mem_take hr1, hr2⟩)
                    have Hrow : Hid (P.rowE has a (b + 1) = P.rowE has a b ++ [((a : Int), (b : Int))]) := hid (by rw [rowE_succ, He2.out]; rfl)
                    have HUx : Hid (Ext V (wr.alloc (.cells #[.int .i64 (a : Int), .int .i64 (b : Int)] 134))) := hid (HxK.out.alloc _)
                    have HUr : Hid ((wr.alloc (.cells #[.int .i64 (a : Int), .int .i64 (b : Int)] 134)).ownsRow V.heap.size 134 2 (.slice a9' M.length c9') M.length (M.flatMap eCells)) := hid (own_ext HrM.out ((Ext.refl _).alloc _))
                    go_wp2_with (at_builtin; refine wpList_append_el V.heap.size HUx.out.size 132 134 (.agg #[.int .i64 0, .int .i64 0]) 2 16 Tryz.underlying132 redge_info rfl (by omega) (by omega) rfl _ _ rfl (.slice a9' M.length c9') M.length (M.flatMap eCells) rfl HUr.out wr.heap.size [.int .i64 (a : Int), .int .i64 (b : Int)] rfl (by simp [Value.oneCell']) rfl (Blk.new _ _ _) (by omega) ?_; intro v' w' h1 h2 h4; obtain ⟨a', c', rfl⟩ := row_form h1; have h3 := hid (Keep.new HUx.out h2 (fun b e => (World.ownsRow.lt HUr.out b e).1)); have h1 := hid h1; clear h2 h4)
                    go_roundw
                    case rel => exact ⟨b + 1, M ++ [((a : Int), (b : Int))], by go_num, by omega, by rw [HM.out, Hrow.out, List.append_assoc], by rw [List.length_append, List.flatMap_append]; simpa [eCells] using h1.out, h3.out⟩
                    case measure => simp [intOf]; omega
                  | false =>
                    by_cases hab2 : a = b
                    · have He2 : Hid (P.edgeB has a b = false) := hid (by rw [Hedge.out, decide_eq_false (fun h => h (by rw [hab2])), Bool.false_and])
                      have hab3 : ((a : Int) != (b : Int)) = false := by rw [hab2]; simp
                      clear hab2
                      have Hrow : Hid (P.rowE has a (b + 1) = P.rowE has a b) := hid (by rw [rowE_succ, He2.out]; simp)
                      go_wp2
                      go_roundw
                      case rel => exact ⟨b + 1, M, by go_num, by omega, by rw [HM.out, Hrow.out], HrM.out, HxK.out⟩
                      case measure => simp [intOf]; omega
                    · have hab3 : ((a : Int) != (b : Int)) = true := bne_iff_ne.2 (fun h => hab2 (by omega))
                      obtain ⟨g6, cp, hge⟩ := own_some Hr.out (by omega)
                      simp only [Value.slice.injEq] at hge
                      obtain ⟨rfl, -, rfl⟩ := hge
                      obtain ⟨x, hxk⟩ : ∃ x, rs[k]? = some x := ⟨_, List.getElem?_eq_getElem hkl⟩
                      obtain ⟨q0, q1, q2, q3, q4⟩ := own_rr (own_ext Hr.out HxK.out) hxk
                      have hI := Ha.out x (List.mem_of_getElem? hxk)
                      have hE := HEd.out x.r (List.mem_map.2 ⟨x, List.mem_of_getElem? hxk, rfl⟩)
                      obtain ⟨aa, ca, hav, _⟩ := id hI
                      have hmk : (rs.map R2.r)[k]? = some x.r := by rw [List.getElem?_map, hxk]; rfl
                      obtain ⟨r, xv⟩ := x
                      simp only at hav hI hE q0 q1 q2 q3 q4 hmk
                      subst hav
                      have HC := fun w1 (y : Ext wr w1) => HIs r (.slice aa r.args.length ca) w1 (a : Int) (b : Int) (HX.out.trans (Hx.out.trans (HxK.out.trans y))) (hI.old ((HxK.out.trans y).old _)) (by rw [Hlen.out]; exact hE)
                      have Hn : Hid (((rs.map R2.r).take (k + 1)).any (fun r => P.isE r has a b) = P.isE r has a b) := hid (by rw [any_take_succ hmk, ← Hd.out, Bool.false_or])
                      obtain ⟨e, he⟩ : ∃ e, e = P.isE r has a b := ⟨_, rfl⟩
                      rw [← he] at HC Hn
                      unfold RV.val at HC
                      have j0 : ∀ w1, Keep (fun _ => False) wr w1 → w1.cell? ⟨g6, k * 5, none⟩ = some (.string r.kind) := fun w1 k => k.ext.cellx q0
                      have j1 : ∀ w1, Keep (fun _ => False) wr w1 → w1.cell? ⟨g6, k * 5 + 1, none⟩ = some (.int .i64 r.a) := fun w1 k => k.ext.cellx q1
                      have j2 : ∀ w1, Keep (fun _ => False) wr w1 → w1.cell? ⟨g6, k * 5 + 2, none⟩ = some (.int .i64 r.b) := fun w1 k => k.ext.cellx q2
                      have j3 : ∀ w1, Keep (fun _ => False) wr w1 → w1.cell? ⟨g6, k * 5 + 3, none⟩ = some (.int .i64 r.k) := fun w1 k => k.ext.cellx q3
                      have j4 : ∀ w1, Keep (fun _ => False) wr w1 → w1.cell? ⟨g6, k * 5 + 4, none⟩ = some (.slice aa r.args.length ca) := fun w1 k => k.ext.cellx q4
                      have d0 := (HBx.out.ext (Hx.out.trans HxK.out)).kc (X := fun _ => False) (fun e => e) 0 rfl
                      have d1 := (HBx.out.ext (Hx.out.trans HxK.out)).kc (X := fun _ => False) (fun e => e) 1 rfl
                      have d2 := (HBx.out.ext (Hx.out.trans HxK.out)).kc (X := fun _ => False) (fun e => e) 2 rfl
                      simp only [pcells, List.getElem_toArray, List.getElem_cons_zero, List.getElem_cons_succ] at d0 d1 d2
                      have Hne := hid hab2
                      clear HIs hxk q0 q1 q2 q3 q4 hI hE hmk he hab2
                      go_wp2
                      refine wp_flowT (fun _ => False) (by kernel_rfl) (by kernel_rfl) ?_
                      repeat (apply FlowT.d; (intro w1 hk; unfold does; go_simp; (try go_ints); (first | exact DetR.mk | (simp only [↓IntWalk.iteOmega, Oper.doesUpon_value]; exact DetR.mk) | (simp only [↓IntWalk.iteOmega]; go_simp; (try go_ints); exact DetR.mk))); simp only [Act.put, List.setIfInBounds_toArray, List.set_cons_zero, List.set_cons_succ])
                      apply FlowT.d
                      · intro w1 hk
                        unfold does
                        go_simp
                        exact CallR.det ((HC w1 hk.ext).out)
                      simp only [Act.put, List.setIfInBounds_toArray, List.set_cons_zero, List.set_cons_succ]
                      repeat (apply FlowT.d; (intro w1 hk; unfold does; go_simp; (try go_ints); (first | exact DetR.mk | (simp only [↓IntWalk.iteOmega, Oper.doesUpon_value]; exact DetR.mk) | (simp only [↓IntWalk.iteOmega]; go_simp; (try go_ints); exact DetR.mk))); simp only [Act.put, List.setIfInBounds_toArray, List.set_cons_zero, List.set_cons_succ])
                      refine FlowT.fin fun w5 hx5 hk5 => ?_
                      have Hx5 := hid (HxK.out.trans hx5)
                      have HrM5 := hid (own_ext HrM.out hx5)
                      clear hx5 hk5 j0 j1 j2 j3 j4 d0 d1 d2 HC
                      go_wp2
                      go_roundw
                      case rel => exact ⟨k + 1, e, by go_num, rfl, by omega, Hn.out.symm, fun h => absurd h Hne.out, Hx5.out, HrM5.out⟩
                      case measure => simp [intOf]; omega
                · obtain rfl : k = rs.length := by omega
                  have Hfull : Hid (d = (rs.map R2.r).any (fun r => P.isE r has a b)) := hid (by rw [Hd.out, List.take_of_length_le (by rw [List.length_map]; exact Nat.le_refl _)])
                  have He2 : Hid (P.edgeB has a b = d) := hid (by
                    rw [Hedge.out, ← Hfull.out]
                    by_cases hab2 : a = b
                    · have h0 := Hab.out hab2
                      have h1 := Hd.out
                      rw [h0] at h1
                      rw [h1]; simp
                    · rw [decide_eq_true (show (a : Int) ≠ (b : Int) from fun e => hab2 (by omega)), Bool.true_and])
                  clear hkl
                  cases d with
                  | true =>
                    have Hrow : Hid (P.rowE has a (b + 1) = P.rowE has a b ++ [((a : Int), (b : Int))]) := hid (by rw [rowE_succ, He2.out]; rfl)
                    have HUx : Hid (Ext V (wr.alloc (.cells #[.int .i64 (a : Int), .int .i64 (b : Int)] 134))) := hid (HxK.out.alloc _)
                    have HUr : Hid ((wr.alloc (.cells #[.int .i64 (a : Int), .int .i64 (b : Int)] 134)).ownsRow V.heap.size 134 2 (.slice a9' M.length c9') M.length (M.flatMap eCells)) := hid (own_ext HrM.out ((Ext.refl _).alloc _))
                    go_wp2_with (at_builtin; refine wpList_append_el V.heap.size HUx.out.size 132 134 (.agg #[.int .i64 0, .int .i64 0]) 2 16 Tryz.underlying132 redge_info rfl (by omega) (by omega) rfl _ _ rfl (.slice a9' M.length c9') M.length (M.flatMap eCells) rfl HUr.out wr.heap.size [.int .i64 (a : Int), .int .i64 (b : Int)] rfl (by simp [Value.oneCell']) rfl (Blk.new _ _ _) (by omega) ?_; intro v' w' h1 h2 h4; obtain ⟨a', c', rfl⟩ := row_form h1; have h3 := hid (Keep.new HUx.out h2 (fun b e => (World.ownsRow.lt HUr.out b e).1)); have h1 := hid h1; clear h2 h4)
                    go_roundw
                    case rel => exact ⟨b + 1, M ++ [((a : Int), (b : Int))], by go_num, by omega, by rw [HM.out, Hrow.out, List.append_assoc], by rw [List.length_append, List.flatMap_append]; simpa [eCells] using h1.out, h3.out⟩
                    case measure => simp [intOf]; omega
                  | false =>
                    have Hrow : Hid (P.rowE has a (b + 1) = P.rowE has a b) := hid (by rw [rowE_succ, He2.out]; simp)
                    go_wp2
                    go_roundw
                    case rel => exact ⟨b + 1, M, by go_num, by omega, by rw [HM.out, Hrow.out], HrM.out, HxK.out⟩
                    case measure => simp [intOf]; omega
            · obtain rfl : b = N := by omega
              have Hn : Hid (M = P.refE has (a + 1)) := hid (by rw [HM.out, HL.out, refE_succ, HN.out])
              go_wp2
              go_roundw
              case rel => exact ⟨a + 1, M, by go_num, by omega, Hn.out, HrM.out, HxM.out⟩
              case measure => simp [intOf]; omega
        · obtain rfl : a = N := by omega
          have Hn : Hid (P.refE has P.nodesV = L) := hid (by rw [HL.out, HN.out])
          go_wp2
          go_ret
          exact ⟨_, rfl, by unfold RERow; rw [Hn.out]; exact own_low Hr9.out (HX.out.trans Hx.out).size, HX.out.trans (Hx.out.trans Hx9.out)⟩
end Go.Proofs.YtoaoienfggjepaaGreatDoor



/- The reference: is a list a set (SetError); is each of one list one of another (within). -/
namespace Go.Proofs.YtoaoienfggjepaaGreatDoor
set_option linter.unusedSimpArgs false
set_option linter.unusedVariables false
open Go Go.RowKit

end Go.Proofs.YtoaoienfggjepaaGreatDoor



/- The reference: are sets an answer (IsClosed). -/
namespace Go.Proofs.YtoaoienfggjepaaGreatDoor
set_option linter.unusedSimpArgs false
set_option linter.unusedVariables false
open Go Go.RowKit

theorem own_e2 {w : World} {base g n cap : Nat} {t : TypeId} {R : List (Int × Int)} (h : w.ownsRow base t 2 (.slice (some ⟨g, 0, none⟩) n cap) n (R.flatMap eCells)) {i : Nat} {x : Int × Int} (hx : R[i]? = some x) :
    w.cell? ⟨g, i * 2, none⟩ = some (.int .i64 x.1) ∧ w.cell? ⟨g, i * 2 + 1, none⟩ = some (.int .i64 x.2) := own_e h hx
end Go.Proofs.YtoaoienfggjepaaGreatDoor



/- The reference's round, walked. -/
namespace Go.Proofs.YtoaoienfggjepaaGreatDoor
set_option linter.unusedSimpArgs false
set_option linter.unusedVariables false
open Go Go.RowKit

theorem own_not {w : World} {base : Nat} {e : TypeId} {size : Nat} {v : Value} {n : Nat} {xs : List Value} (h : w.ownsRow base e size v n xs) {B : Nat} {c : Array Value} {t : TypeId} (hB : Blk w B c t) (hne : e ≠ t) : ¬ v.ownBlock = some B := fun e => by
  obtain ⟨c', hc'⟩ := own_ty h e
  exact Blk.ty_ne hc' hB hne rfl
theorem does_append_src4 {ops : Array Oper} {o : Oper} {a : Act} {w : World} {R : Value → World → Prop} (base : Nat) (hbase : base ≤ w.heap.size) (t e : TypeId) (z : Value) (size bytes : Nat) (ht : Tryz.prog.underlying t = some (.slice e)) (hinf : (Tryz.prog.info? e).map (fun i => (i.zero, i.size, i.bytes)) = some (some z, size, bytes)) (hz1 : z.cells.size = size) (hsz : 0 < size)
    (hb8 : bytes ≤ 64) (hg : o.guard = none) (s x : Operand) (ho : o.op = .call { callee := .builtin .append, args := #[s, x], argTypes := #[t, t] })
    (v : Value) (n : Nat) (xs : List Value) (hs : a.eval s = v) (hown : w.ownsRow base e size v n xs) (ad : Option Addr) (m c : Nat) (us : List Value) (hx : a.eval x = .slice ad m c) (hsrc : Src w ad m size us) (hl : n + m ≤ 1000000)
    (h : ∀ v' w', w'.ownsRow base e size v' (n + m) (xs ++ us) → Keep (fun k => v.ownBlock = some k) w w' → (∀ k, v'.ownBlock = some k → v.ownBlock = some k ∨ w.heap.size ≤ k) → R v' w') : does Tryz.prog ops o a w R := by
  obtain ⟨v', w', hr, h2, h3, h4⟩ := run_append_src w base hbase t e z size bytes ht hinf hz1 hsz hb8 o.type v n xs hown ad m c us hsrc hl
  exact does_of_run hg (run_exec_append s x t ho hs hx hr) (h v' w' h2 h3 h4)
theorem BagAt.inr {P : PP} {has : List (List Int)} {EL : List (Int × Int)} {k m : Nat} {B : List (List Int)} (h : BagAt P has EL k m B) {l : List Int} (hl : l ∈ B) : InR l := fun x hx => by
  obtain ⟨S, h1, h2, h3⟩ := h.set
  obtain ⟨i, hi, rfl⟩ := List.getElem_of_mem hl
  have hx' : x ∈ B.getD i [] := by rw [List.getD_eq_getElem?_getD, List.getElem?_eq_getElem hi]; exact hx
  exact (chkE_zero.1 (h1.ok _ (getD_mem (by rw [← h2]; exact hi)))).1 x ((h3 i x).1 hx')
theorem own_pos {w : World} {base g : Nat} {e : TypeId} {size n cap : Nat} {xs : List Value} (h : w.ownsRow base e size (.slice (some ⟨g, 0, none⟩) n cap) n xs) : ∃ c, Blk w g c e ∧ base ≤ g := by
  obtain ⟨c, h1, h2, _⟩ := own_blk h
  exact ⟨c, h1, h2⟩
set_option maxRecDepth 100000 in
set_option maxHeartbeats 6400000 in
theorem rroundof_any (a1 a2 a3 : Option Addr) (c1 c2 c3 : Nat) (P : PP) (hv : Value) (has : List (List Int)) (w : World) (n0 : Nat) (h : ProgR w n0 (.slice a1 P.vars.length c1) (.slice a2 P.funs.length c2) (.slice a3 P.stmts.length c3) P) (hg : P.GoodS has) (hh : SetsR w n0 hv has) (hn0 : n0 ≤ w.heap.size) :
    Calls Tryz.prog 39 #[pval a1 a2 a3 c1 c2 c3 P, hv] w fun e w' => ∃ a c, e = .returned (.slice a has.length c) ∧ SetsR w' w'.heap.size (.slice a has.length c) (P.roundV has) ∧ Ext w w' := by
  obtain ⟨ah, ch, rfl⟩ := hh.form
  have hhl := hh.len
  have Hg := hid hg
  have HA := hid (edgesL_are hg)
  have hEl := edgesL_len hg.1 has
  obtain ⟨hf1, hf2, hf3⟩ := hg.1.few
  have hN6 : has.length ≤ 120 := by have := nodesV_le P hg.1; have := hg.2.1; omega
  obtain ⟨W, hW⟩ : ∃ W, W = w.alloc (.cells (pcells a1 a2 a3 c1 c2 c3 P) 39) := ⟨_, rfl⟩
  have HX : Hid (Ext w W) := hid (by rw [hW]; exact (Ext.refl _).alloc _)
  have HBx : Hid (Blk W w.heap.size (pcells a1 a2 a3 c1 c2 c3 P) 39) := hid (by rw [hW]; exact Blk.new _ _ _)
  have HWe : Hid (W = w.alloc (.cells #[.slice a1 P.vars.length c1, .slice a2 P.funs.length c2, .slice a3 P.stmts.length c3] 39)) := hid (by rw [hW]; rfl)
  have HRu := fun k (hk : k < P.stmts.length) w1 (x : Ext w w1) => hid (rruleof_any a1 a2 a3 c1 c2 c3 P k _ (stAt_some hk) w1 n0 (h.ext x) hg.1)
  have HEo := fun w1 (x : Ext w w1) => hid (redgesof_any a1 a2 a3 c1 c2 c3 P (.slice ah has.length ch) has w1 n0 (h.ext x) hg.1 (hh.ext x) hg.2.1 (Nat.le_trans hn0 x.size))
  have HH := hid (hh.ext HX.out)
  have Hn0 := hid hn0
  obtain ⟨EL, hEL⟩ : ∃ EL, EL = P.edgesL has := ⟨_, rfl⟩
  have hEL' : P.refE has P.nodesV = EL := hEL.symm
  rw [hEL'] at HEo
  have Hel := hid hEL
  rw [← hEL] at HA hEl
  have Hvn := hid (nodes_vars P)
  unfold pval at HRu HEo ⊢
  clear h hg hh hW hn0 hEL hEL'
  go_enter Tryz.func39, Tryz.ntmps39
  go_wp2
  rw [← HWe.out]
  go_loopw [5, 6] (fun t5 t6 wr => ∃ (k : Nat) (vs : List Value), t6 = .int .i64 (k : Int) ∧ k ≤ has.length ∧ wr.ownsRow W.heap.size 22 1 t5 k vs ∧ Bags wr W.heap.size vs (has.take k) ∧ Ext W wr) (fun _ t6 _ => has.length - (intOf t6).toNat)
  case atStart => exact ⟨0, [], rfl, Nat.zero_le _, World.ownsRow_nil _ _ _ _, Bags.nil _ _, Ext.refl _⟩
  case round =>
    obtain ⟨k, vs, rfl, hk, hr, hb, hx⟩ := hrel
    obtain ⟨a5, c5, rfl⟩ := row_form hr
    have Hr := hid hr
    have Hb := hid hb
    have Hx := hid hx
    clear hr hb hx
    by_cases hlt : k < has.length
    · obtain ⟨y, l, bl, cl, hya, hl, hc, hI⟩ := (HH.out.ext Hx.out).at hlt
      subst hya
      have hlk := (Hg.out.ok.ok l (List.mem_of_getElem? hl)).1
      have hll := srt_few hlk
      have HIn := hid (hI.ints (fun i => by
        by_cases hi : i < l.length
        · have := (chkE_zero.1 hlk).1 (l.getD i 0) (by rw [List.getD_eq_getElem?_getD, List.getElem?_eq_getElem hi]; exact List.getElem_mem hi)
          omega
        · rw [List.getD_eq_getElem?_getD, List.getElem?_eq_none (by omega)]; decide))
      have Hl := hid hl
      clear hl hI hlk
      go_wp2_with (at_builtin; first
        | (refine wpList_append_ints wr.heap.size (Nat.le_refl _) rfl _ _ rfl (.slice none 0 0) [] rfl (World.ownsRow_nil _ _ _ _) bl l.length cl l rfl HIn.out (by simp; omega) ?_; intro v3 w3 h1 h2; have hx3 := grown_ext (Ext.refl wr) (World.ownsRow_nil wr wr.heap.size 3 1) h2; rw [List.nil_append] at h1; obtain ⟨a3', c3', rfl⟩ := h1.form; have Hx3 := hid hx3; have Hr3 := hid h1; have hxa : Hid (Ext W (w3.alloc (.cells #[.slice a3' l.length c3'] 22))) := hid ((Hx.out.trans Hx3.out).alloc _); have hx3a : Hid (Ext wr (w3.alloc (.cells #[.slice a3' l.length c3'] 22))) := hid (Hx3.out.alloc _); have Hra := hid (own_ext Hr.out hx3a.out); have Hba := hid ((Hb.out.push Hx3.out (own_low Hr3.out Hx.out.size) (fun b e => (World.ownsRow.lt Hr3.out b e).1)).ext ((Ext.refl w3).alloc (.cells #[.slice a3' l.length c3'] 22))); clear h1 h2 hx3)
        | (refine wpList_append_el W.heap.size hxa.out.size 44 22 (.slice none 0 0) 1 24 Tryz.underlying44 rows_info rfl (by omega) (by omega) rfl _ _ rfl (.slice a5 k c5) k vs rfl Hra.out w3.heap.size [.slice a3' l.length c3'] rfl (by simp [Value.oneCell']) rfl (Blk.new _ _ _) (by omega) ?_; intro v' w' h1 h2 h4; obtain ⟨a', c', rfl⟩ := row_form h1; have h3 := hid (Keep.new hxa.out h2 (fun k hk => (World.ownsRow.lt Hra.out k hk).1)); have hm5 := hid (Hba.out.keep h2 (fun b e => by obtain ⟨c, hc⟩ := own_ty Hra.out e; exact IsInt.not hc (by decide))); have h1 := hid h1; clear h2 h4))
      go_roundw
      case rel =>
        refine ⟨k + 1, _, by go_num, by omega, h1.out, ?_, h3.out⟩
        rw [List.take_add_one, Hl.out]
        exact hm5.out
      case measure => simp [intOf]; omega
    · obtain rfl : k = has.length := by omega
      rw [List.take_of_length_le (Nat.le_refl _)] at Hb
      clear hlt hk
      go_wp2
      go_loopw [8] (fun t8 wr => ∃ (k : Nat) (vs : List Value) (B : List (List Int)), t8 = .int .i64 (k : Int) ∧ k ≤ P.stmts.length ∧ BagAt P has EL k 0 B ∧ wr.ownsRow W.heap.size 22 1 (.slice a5 has.length c5) has.length vs ∧ Bags wr W.heap.size vs B ∧ Ext W wr) (fun t8 _ => P.stmts.length - (intOf t8).toNat)
      case atStart => exact ⟨0, vs, has, rfl, Nat.zero_le _, BagAt.start Hg.out EL, Hr.out, Hb.out, Hx.out⟩
      case round =>
        clear Hr Hb Hx
        obtain ⟨k, vs, B, rfl, hk, hba, hr, hb, hx⟩ := hrel
        have HBa := hid hba
        have Hr := hid hr
        have Hb := hid hb
        have Hx := hid hx
        have HBl := hid hba.len
        clear hba hr hb hx
        have d0 := (HBx.out.ext Hx.out).av 0 rfl
        have d1 := (HBx.out.ext Hx.out).av 1 rfl
        have d2 := (HBx.out.ext Hx.out).av 2 rfl
        simp only [pcells, List.getElem_toArray, List.getElem_cons_zero, List.getElem_cons_succ] at d0 d1 d2
        by_cases hlt : k < P.stmts.length
        · have HC := HRu k hlt wr (HX.out.trans Hx.out)
          obtain ⟨s1, s2, s3, _, _, _⟩ := rule_same (Hg.out.1.2 k (P.stAt k) hlt (stAt_some hlt)) k
          have hra := rule_a_in Hg.out.1 hlt
          rw [← s2] at hra
          have hrb := fun hb => base_b_in Hg.out.1 hlt hb
          rw [← s1, ← s3] at hrb
          have hob := objects_few Hg.out.1
          obtain ⟨r, hr⟩ : ∃ r, r = P.ruleR k (P.stAt k) := ⟨_, rfl⟩
          rw [← hr] at HC s1 s2 s3 hra hrb
          have Hs := hid (And.intro s1 (And.intro s2 s3))
          have Hra := hid hra
          have Hrb := hid hrb
          clear hr s1 s2 s3 hra hrb
          go_wp2_with fail
          refine HC.out.mono ?_
          intro e w2 hx
          obtain ⟨av, rfl, hI, hx2⟩ := hx
          obtain ⟨aa, ca, hav, _⟩ := id hI
          subst hav
          unfold RV.val
          obtain ⟨V, hV⟩ : ∃ V, V = w2.alloc (.cells #[.string r.kind, .int .i64 r.a, .int .i64 r.b, .int .i64 r.k, .slice aa r.args.length ca] 130) := ⟨_, rfl⟩
          have hxV : Ext w2 V := by rw [hV]; exact (Ext.refl _).alloc _
          have HBr : Hid (Blk V w2.heap.size #[.string r.kind, .int .i64 r.a, .int .i64 r.b, .int .i64 r.k, .slice aa r.args.length ca] 130) := hid (by rw [hV]; exact Blk.new _ _ _)
          have HVe := hid hV
          have HrV := hid (hx2.trans hxV)
          have HxV := hid (Hx.out.trans (hx2.trans hxV))
          clear HC hI hx2 hxV hV d0 d1 d2
          cases hkb : (r.kind.toList == [98, 97, 115, 101]) with
          | true =>
            have hkl : r.kind.toList = bBase.toList := (eq_of_beq hkb).trans (eq_of_beq bBase_list).symm
            have Hkb : Hid ((P.ruleV k (P.stAt k)).kind.toList = bBase.toList) := hid (by rw [← Hs.out.1]; exact hkl)
            have Hb01 : Hid (0 ≤ r.b ∧ r.b < 1000) := hid (by have := Hrb.out hkl; omega)
            obtain ⟨A, hA⟩ := Int.eq_ofNat_of_zero_le Hra.out.1
            have hAl : A < has.length := by have := Hra.out.2; have := Hvn.out; have := Hg.out.2.1; omega
            have hAB : A < B.length := by rw [HBl.out]; exact hAl
            have hAv : A < vs.length := by rw [Hb.out.len]; exact hAB
            obtain ⟨vA, hvA⟩ : ∃ vA, vs[A]? = some vA := ⟨_, List.getElem?_eq_getElem hAv⟩
            obtain ⟨lA, hlA⟩ : ∃ lA, lA = B.getD A [] := ⟨_, rfl⟩
            have hBA : B[A]? = some lA := by rw [hlA, List.getD_eq_getElem?_getD, List.getElem?_eq_getElem hAB]; rfl
            have hRowA := (Hb.out.ext HrV.out).row A vA lA hvA hBA
            obtain ⟨aA, cA, rfl⟩ := hRowA.form
            obtain ⟨g5, cp5, hge⟩ := own_some Hr.out (by omega)
            simp only [Value.slice.injEq] at hge
            obtain ⟨rfl, -, rfl⟩ := hge
            have hrV := own_ext Hr.out HrV.out
            obtain ⟨cc5, hb5, hg5⟩ := own_pos hrV
            have HfA : Hid (lA.length ≤ 500000) := hid (by have h1 := HBa.out.few A; rw [← hlA, cntE_zero] at h1; omega)
            have hn5 := own_not hRowA hb5 (by decide)
            have c0 : ∀ w1, Keep (fun q => (Value.slice aA lA.length cA).ownBlock = some q) V w1 → w1.cell? ⟨g5, A, none⟩ = some (.slice aA lA.length cA) := fun w1 k => k.cellx (own_get hrV A hvA) hn5
            have m1 := HBr.out.kc (X := fun q => (Value.slice aA lA.length cA).ownBlock = some q) (own_not hRowA HBr.out (by decide)) 1 rfl
            have m2 := HBr.out.kc (X := fun q => (Value.slice aA lA.length cA).ownBlock = some q) (own_not hRowA HBr.out (by decide)) 2 rfl
            have m0 := HBr.out.av 0 rfl
            simp only [List.getElem_toArray, List.getElem_cons_zero, List.getElem_cons_succ] at m0 m1 m2
            rw [HVe.out] at m0
            rw [hA] at m1
            have Hst := hid (BagAt.base HBa.out Hkb.out (by rw [← Hs.out.2.1]; exact hA) (by rw [← Hs.out.2.2]) Hb01.out hAl)
            obtain ⟨lB, hlB⟩ : ∃ lB, lB = lA ++ [r.b] := ⟨_, rfl⟩
            rw [← hlA, ← hlB] at Hst
            have HlB := hid hlB
            have HRowA := hid hRowA
            have HvA := hid hvA
            have HAv := hid hAv
            have Hn5 := hid hn5
            have HrowV := hid hrV
            have Hb5 := hid hb5
            have Hg5 := hid hg5
            clear hkl hA hvA hlA hBA hRowA hrV hb5 hg5 hn5 hlB
            go_wp2
            rw [← HVe.out]
            clear m0
            refine wp_flowT (fun q => (Value.slice aA lA.length cA).ownBlock = some q) (by kernel_rfl) (by kernel_rfl) ?_
            repeat (apply FlowT.d; (intro w1 hk; unfold does; go_simp; (try go_ints); (first | exact DetR.mk | (simp only [↓IntWalk.iteOmega, Oper.doesUpon_value]; exact DetR.mk) | (simp only [↓IntWalk.iteOmega]; go_simp; (try go_ints); exact DetR.mk))); simp only [Act.put, List.setIfInBounds_toArray, List.set_cons_zero, List.set_cons_succ])
            refine FlowT.s (fun v w' => (∃ b, v = .slice (some ⟨b, 0, none⟩) 1 1) ∧ (∀ b, v = .slice (some ⟨b, 0, none⟩) 1 1 → Blk w' b #[.int .i64 r.b] 3) ∧ Ext V w') 7 rfl (by kernel_rfl) (fun _ _ _ ⟨h1, h2, h3⟩ y => ⟨h1, fun b e => (h2 b e).ext y, h3.trans y⟩) (fun wa hC hk2 => ?_) ?_
            · unfold does
              go_simp
              exact ⟨hk2.alloc _, ⟨_, rfl⟩, fun b e => by
                obtain rfl : wa.heap.size = b := by simpa using e
                exact Blk.new _ _ _, hC.alloc _⟩
            rintro _ ⟨_, ⟨bq, rfl⟩, _, _⟩
            simp only [Act.put, List.setIfInBounds_toArray, List.set_cons_zero, List.set_cons_succ]
            refine FlowT.s (fun v w' => IRow W.heap.size w' v lB ∧ (∀ q, v.ownBlock = some q → (Value.slice aA lA.length cA).ownBlock = some q ∨ V.heap.size ≤ q)) 8 rfl (by kernel_rfl) (fun _ _ _ ⟨h1, h2⟩ y => ⟨own_ext h1 y, h2⟩) (fun wa hC hk2 => ?_) ?_
            · obtain ⟨_, hB, hxa⟩ := hC
              refine does_append_el W.heap.size (Nat.le_trans HxV.out.size hxa.size) 22 3 (.int .i64 0) 1 8 Tryz.underlying22 ints_info rfl (by omega) (by omega) rfl _ _ rfl (.slice aA lA.length cA) lA.length (icells lA) rfl (own_ext HRowA.out hxa) bq [.int .i64 r.b] rfl (by simp [Value.oneCell']) rfl (hB bq rfl) (by have := HfA.out; omega) (fun v' w' h1 h2 h4 => ?_)
              refine ⟨(hxa.keep _).trans h2, ?_, fun q hq => ?_⟩
              · rw [HlB.out]
                unfold IRow
                rw [List.length_append, icells_append]
                exact h1
              · rcases h4 with h | h
                · exact .inl (h ▸ hq)
                · rw [h] at hq
                  obtain rfl := Option.some.inj hq
                  exact .inr hxa.size
            rintro v3 ⟨w3', h3, _⟩
            obtain ⟨a3, c3, rfl⟩ := h3.form
            clear h3
            simp only [Act.put, List.setIfInBounds_toArray, List.set_cons_zero, List.set_cons_succ]
            repeat (apply FlowT.d; (intro w1 hk; unfold does; go_simp; (try go_ints); (first | exact DetR.mk | (simp only [↓IntWalk.iteOmega, Oper.doesUpon_value]; exact DetR.mk) | (simp only [↓IntWalk.iteOmega]; go_simp; (try go_ints); exact DetR.mk))); simp only [Act.put, List.setIfInBounds_toArray, List.set_cons_zero, List.set_cons_succ])
            refine FlowT.fin fun w6 hC hk6 => ?_
            obtain ⟨hr3, ho3⟩ := hC
            have hrow6 := row_keep HrowV.out hk6 (fun i hi => by obtain rfl := Option.some.inj hi; exact Hn5.out)
            obtain ⟨cc6, hb6, _⟩ := own_pos hrow6
            have z0 := c0 w6 hk6
            have f0 := own_free hrow6 A
            have n1 := m1 w6 hk6
            have Hbags := hid ((Hb.out.ext HrV.out).app HAv.out HvA.out hr3 hk6 ho3)
            have Hset := hid (own_set hrow6 A HAv.out (.slice a3 lB.length c3))
            have Hbs := hid (Hbags.out.keep (Keep.set (X := fun q => q = g5) (p := ⟨g5, A, none⟩) (Keep.refl _ w6) rfl (.slice a3 lB.length c3)) (fun b e => by rw [e]; exact IsInt.not hb6 (by decide)))
            have Hx6 : Hid (Ext W (w6.setCell ⟨g5, A, none⟩ (.slice a3 lB.length c3))) := hid (Keep.new HxV.out ((hk6.mono (Y := fun q => q = g5 ∨ (Value.slice aA lA.length cA).ownBlock = some q) fun _ _ h => .inr h).set (.inl rfl) _) (fun q h => by
              rcases h with h | h
              · rw [h]; exact Hg5.out
              · exact (World.ownsRow.lt HRowA.out q h).1))
            clear hr3 ho3 hrow6 hb6 hk6 c0 m1 m2 hkb
            go_wp2
            go_roundw
            case rel => exact ⟨k + 1, _, _, by go_num, by omega, Hst.out, Hset.out, Hbs.out, Hx6.out⟩
            case measure => simp [intOf]; omega
          | false =>
            have Hkb : Hid ((P.ruleV k (P.stAt k)).kind.toList ≠ bBase.toList) := hid (by
              rw [← Hs.out.1]
              intro h
              rw [h, bBase_list] at hkb
              cases hkb)
            have m0 := HBr.out.av 0 rfl
            simp only [List.getElem_toArray, List.getElem_cons_zero, List.getElem_cons_succ] at m0
            rw [HVe.out] at m0
            go_wp2
            rw [← HVe.out]
            go_roundw
            case rel => exact ⟨k + 1, vs, B, by go_num, by omega, HBa.out.skip Hkb.out, own_ext Hr.out HrV.out, Hb.out.ext HrV.out, HxV.out⟩
            case measure => simp [intOf]; omega
        · obtain rfl : k = P.stmts.length := by omega
          have HC := HEo wr (HX.out.trans Hx.out)
          clear HRu HEo
          go_wp2_with fail
          refine HC.out.mono ?_
          intro e w2 hx
          obtain ⟨v, rfl, hr, hx2⟩ := hx
          unfold RERow at hr
          obtain ⟨av, cv, rfl⟩ := row_form hr
          have HrE := hid (own_low hr (Nat.zero_le _))
          have HxB := hid (Hx.out.trans hx2)
          have HrB := hid (own_ext Hr.out hx2)
          have HbB := hid (Hb.out.ext hx2)
          have HHn := hid (show n0 ≤ W.heap.size from Nat.le_trans Hn0.out HX.out.size)
          clear HC hr hx2 d0 d1 d2 hlt hk
          go_wp2
          go_loopw [12] (fun t12 wr => ∃ (i : Nat) (vs : List Value) (B : List (List Int)), t12 = .int .i64 (i : Int) ∧ i ≤ EL.length ∧ BagAt P has EL P.stmts.length i B ∧ wr.ownsRow W.heap.size 22 1 (.slice a5 has.length c5) has.length vs ∧ Bags wr W.heap.size vs B ∧ wr.ownsRow 0 134 2 (.slice av EL.length cv) EL.length (EL.flatMap eCells) ∧ Ext W wr) (fun t12 _ => EL.length - (intOf t12).toNat)
          case atStart => exact ⟨0, vs, B, rfl, Nat.zero_le _, HBa.out, HrB.out, HbB.out, HrE.out, HxB.out⟩
          case round =>
            clear HrE HxB HrB HbB HBa Hr Hb Hx HBl
            obtain ⟨i, vs, B, rfl, hi, hba, hr, hb, hre, hx⟩ := hrel
            have HBa := hid hba
            have Hr := hid hr
            have Hb := hid hb
            have Hre := hid hre
            have Hx := hid hx
            have HBl := hid hba.len
            clear hba hr hb hre hx
            by_cases hil : i < EL.length
            · obtain ⟨g, cp, hge⟩ := own_some Hre.out (by omega)
              simp only [Value.slice.injEq] at hge
              obtain ⟨rfl, -, rfl⟩ := hge
              obtain ⟨⟨x, z⟩, hxk⟩ : ∃ x, EL[i]? = some x := ⟨_, List.getElem?_eq_getElem hil⟩
              obtain ⟨q0, q1⟩ := own_e2 Hre.out hxk
              have hin := edges0_in Hg.out.1 Hg.out.ok _ ((HA.out.mem _).1 (List.mem_of_getElem? hxk)).1
              unfold PP.InN at hin
              obtain ⟨i1, i2, i3, i4⟩ := hin
              simp only at i1 i2 i3 i4
              obtain ⟨A, rfl⟩ := Int.eq_ofNat_of_zero_le i1
              obtain ⟨Z, rfl⟩ := Int.eq_ofNat_of_zero_le i3
              have hAl : A < has.length := by have := Hg.out.2.1; omega
              have hZl : Z < has.length := by have := Hg.out.2.1; omega
              obtain ⟨y, l, bl, cl, hya, hl, hc, hI⟩ := HH.out.at hAl
              subst hya
              have hZB : Z < B.length := by rw [HBl.out]; exact hZl
              have hZv : Z < vs.length := by rw [Hb.out.len]; exact hZB
              obtain ⟨vZ, hvZ⟩ : ∃ vZ, vs[Z]? = some vZ := ⟨_, List.getElem?_eq_getElem hZv⟩
              obtain ⟨lZ, hlZ⟩ : ∃ lZ, lZ = B.getD Z [] := ⟨_, rfl⟩
              have hBZ : B[Z]? = some lZ := by rw [hlZ, List.getD_eq_getElem?_getD, List.getElem?_eq_getElem hZB]; rfl
              have hRowZ := Hb.out.row Z vZ lZ hvZ hBZ
              obtain ⟨aZ, cZ, rfl⟩ := hRowZ.form
              obtain ⟨g5, cp5, hge⟩ := own_some Hr.out (by omega)
              simp only [Value.slice.injEq] at hge
              obtain ⟨rfl, -, rfl⟩ := hge
              obtain ⟨cc5, hb5, hg5⟩ := own_pos Hr.out
              obtain ⟨cce, hbe, _⟩ := own_pos Hre.out
              have hn5 := own_not hRowZ hb5 (by decide)
              have hne := own_not hRowZ hbe (by decide)
              have hlow : ∀ q, (Value.slice aZ lZ.length cZ).ownBlock = some q → W.heap.size ≤ q := fun q e => (World.ownsRow.lt hRowZ q e).1
              have hlk := (Hg.out.ok.ok l (List.mem_of_getElem? hl)).1
              have hll := srt_few hlk
              have HfZ : Hid (lZ.length ≤ 500000) := hid (by
                have h1 := HBa.out.few Z
                have h2 := cntE_few (N := P.nodesV) HA.out.srt (fun e he => by
                  have := edges0_in Hg.out.1 Hg.out.ok _ ((HA.out.mem _).1 he).1
                  exact ⟨this.1, this.2.1⟩) i Z
                have h3 := nodesV_le P Hg.out.1
                rw [← hlZ] at h1
                omega)
              have c0 : ∀ w1, Keep (fun q => (Value.slice aZ lZ.length cZ).ownBlock = some q) wr w1 → w1.cell? ⟨g5, Z, none⟩ = some (.slice aZ lZ.length cZ) := fun w1 k => k.cellx (own_get Hr.out Z hvZ) hn5
              have j0 : ∀ w1, Keep (fun q => (Value.slice aZ lZ.length cZ).ownBlock = some q) wr w1 → w1.cell? ⟨g, i * 2, none⟩ = some (.int .i64 (A : Int)) := fun w1 k => k.cellx q0 hne
              have j1 : ∀ w1, Keep (fun q => (Value.slice aZ lZ.length cZ).ownBlock = some q) wr w1 → w1.cell? ⟨g, i * 2 + 1, none⟩ = some (.int .i64 (Z : Int)) := fun w1 k => k.cellx q1 hne
              have s0 : ∀ w1, Keep (fun q => (Value.slice aZ lZ.length cZ).ownBlock = some q) wr w1 → w1.cell? (y.add A) = some (.slice bl l.length cl) := fun w1 k => k.cellx (Hx.out.cellx hc) (fun e => by
                have h1 := cell_lt hc
                have h2 := hlow _ e
                omega)
              have HSrc : Hid (∀ w1, Keep (fun q => (Value.slice aZ lZ.length cZ).ownBlock = some q) wr w1 → Src w1 bl l.length 1 (icells l)) := hid fun w1 k => (hI.old ((Hx.out.old n0).trans (k.mono fun q _ e => Nat.le_trans HHn.out (hlow q e)))).src
              have HD1 : has.getD A [] = l := by rw [List.getD_eq_getElem?_getD, hl]; rfl
              obtain ⟨lB, hlB⟩ : ∃ lB, lB = lZ ++ l := ⟨_, rfl⟩
              have Hst := hid (BagAt.edge HBa.out hxk (fun l hl => (Hg.out.ok.ok l hl).1) hAl hZl)
              rw [← hlZ, HD1, ← hlB] at Hst
              have HlB := hid hlB
              have HRowZ := hid hRowZ
              have HvZ := hid hvZ
              have HZv := hid hZv
              have Hn5 := hid hn5
              have Hne := hid hne
              have Hg5 := hid hg5
              have Hlow := hid hlow
              clear hxk q0 q1 i1 i2 i3 i4 hl hc hI hZB hvZ hlZ hBZ hRowZ hb5 hg5 hbe hn5 hne hlow hlk HD1 hlB
              go_wp2
              refine wp_flowT (fun q => (Value.slice aZ lZ.length cZ).ownBlock = some q) (by kernel_rfl) (by kernel_rfl) ?_
              repeat (apply FlowT.d; (intro w1 hk; unfold does; go_simp; (try go_ints); (first | exact DetR.mk | (simp only [↓IntWalk.iteOmega, Oper.doesUpon_value]; exact DetR.mk) | (simp only [↓IntWalk.iteOmega]; go_simp; (try go_ints); exact DetR.mk))); simp only [Act.put, List.setIfInBounds_toArray, List.set_cons_zero, List.set_cons_succ])
              refine FlowT.s (fun v w' => IRow W.heap.size w' v lB ∧ (∀ q, v.ownBlock = some q → (Value.slice aZ lZ.length cZ).ownBlock = some q ∨ wr.heap.size ≤ q)) 16 rfl (by kernel_rfl) (fun _ _ _ ⟨h1, h2⟩ y => ⟨own_ext h1 y, h2⟩) (fun wa hC hk2 => ?_) ?_
              · refine does_append_src4 W.heap.size (Nat.le_trans Hx.out.size hk2.size) 22 3 (.int .i64 0) 1 8 Tryz.underlying22 ints_info rfl (by omega) (by omega) rfl _ _ rfl (.slice aZ lZ.length cZ) lZ.length (icells lZ) rfl (own_ext HRowZ.out hC) bl l.length cl (icells l) rfl (HSrc.out wa hk2) (by have := HfZ.out; omega) (fun v' w' h1 h2 h4 => ?_)
                refine ⟨hk2.trans h2, ?_, fun q hq => ?_⟩
                · rw [HlB.out]
                  unfold IRow
                  rw [List.length_append, icells_append]
                  exact h1
                · rcases h4 q hq with h | h
                  · exact .inl h
                  · exact .inr (Nat.le_trans hk2.size h)
              rintro v3 ⟨w3', h3, _⟩
              obtain ⟨a3, c3, rfl⟩ := h3.form
              clear h3
              simp only [Act.put, List.setIfInBounds_toArray, List.set_cons_zero, List.set_cons_succ]
              repeat (apply FlowT.d; (intro w1 hk; unfold does; go_simp; (try go_ints); (first | exact DetR.mk | (simp only [↓IntWalk.iteOmega, Oper.doesUpon_value]; exact DetR.mk) | (simp only [↓IntWalk.iteOmega]; go_simp; (try go_ints); exact DetR.mk))); simp only [Act.put, List.setIfInBounds_toArray, List.set_cons_zero, List.set_cons_succ])
              refine FlowT.fin fun w6 hC hk6 => ?_
              obtain ⟨hr3, ho3⟩ := hC
              have hrow6 := row_keep Hr.out hk6 (fun i hi => by obtain rfl := Option.some.inj hi; exact Hn5.out)
              have hre6 := row_keep Hre.out hk6 (fun i hi => by obtain rfl := Option.some.inj hi; exact Hne.out)
              obtain ⟨cc6, hb6, _⟩ := own_pos hrow6
              have z0 := c0 w6 hk6
              have f0 := own_free hrow6 Z
              have n0' := j0 w6 hk6
              have n1 := j1 w6 hk6
              have Hbags := hid (Hb.out.app HZv.out HvZ.out hr3 hk6 ho3)
              have Hset := hid (own_set hrow6 Z HZv.out (.slice a3 lB.length c3))
              have Hbs := hid (Hbags.out.keep (Keep.set (X := fun q => q = g5) (p := ⟨g5, Z, none⟩) (Keep.refl _ w6) rfl (.slice a3 lB.length c3)) (fun b e => by rw [e]; exact IsInt.not hb6 (by decide)))
              have Hre7 := hid (row_keep hre6 (Keep.set (X := fun q => q = g5) (p := ⟨g5, Z, none⟩) (Keep.refl _ w6) rfl (.slice a3 lB.length c3)) (fun q hq e => own_not hre6 hb6 (by decide) (by rw [hq, e])))
              have Hx6 : Hid (Ext W (w6.setCell ⟨g5, Z, none⟩ (.slice a3 lB.length c3))) := hid (Keep.new Hx.out ((hk6.mono (Y := fun q => q = g5 ∨ (Value.slice aZ lZ.length cZ).ownBlock = some q) fun _ _ h => .inr h).set (.inl rfl) _) (fun q h => by
                rcases h with h | h
                · rw [h]; exact Hg5.out
                · exact Hlow.out q h))
              clear hr3 ho3 hrow6 hre6 hb6 hk6 c0 j0 j1 s0
              go_wp2
              go_roundw
              case rel => exact ⟨i + 1, _, _, by go_num, by omega, Hst.out, Hset.out, Hbs.out, Hre7.out, Hx6.out⟩
              case measure => simp [intOf]; omega
            · obtain rfl : i = EL.length := by omega
              have HDone := hid (BagAt.done Hg.out (B := B) (by rw [← Hel.out]; exact HBa.out))
              have HInr : Hid (∀ l ∈ B, InR l) := hid fun l hl => HBa.out.inr hl
              have HMd := hid Hb.out.made
              clear hil hi
              go_wp2
              go_loopw [14] (fun t14 wr => ∃ (i : Nat) (vs : List Value) (L : List (List Int)), t14 = .int .i64 (i : Int) ∧ i ≤ has.length ∧ L.length = has.length ∧ (∀ j, j < i → L[j]? = (B.map sset)[j]?) ∧ (∀ j, i ≤ j → L[j]? = B[j]?) ∧ wr.ownsRow W.heap.size 22 1 (.slice a5 has.length c5) has.length vs ∧ Made wr vs L ∧ Ext W wr) (fun t14 _ => has.length - (intOf t14).toNat)
              case atStart => exact ⟨0, vs, B, rfl, Nat.zero_le _, HBl.out, fun j h => by omega, fun _ _ => rfl, Hr.out, HMd.out, Hx.out⟩
              case round =>
                clear Hr Hb Hre Hx HMd
                obtain ⟨i, vs, L, rfl, hi, hL, h1, h2, hr, hm, hx⟩ := hrel
                have HL := hid hL
                have H1 := hid h1
                have H2 := hid h2
                have Hr := hid hr
                have Hm := hid hm
                have Hx := hid hx
                clear hL h1 h2 hr hm hx
                by_cases hil : i < has.length
                · obtain ⟨g5, cp5, hge⟩ := own_some Hr.out (by omega)
                  simp only [Value.slice.injEq] at hge
                  obtain ⟨rfl, -, rfl⟩ := hge
                  obtain ⟨al, cl, hcl, hIl⟩ := Made.one Hr.out Hm.out HL.out hil
                  obtain ⟨l, hl⟩ : ∃ l, l = L.getD i [] := ⟨_, rfl⟩
                  rw [← hl] at hcl hIl
                  have hBi : B[i]? = some l := by
                    rw [← H2.out i (Nat.le_refl _), hl, List.getD_eq_getElem?_getD, List.getElem?_eq_getElem (by rw [HL.out]; exact hil)]
                    rfl
                  obtain ⟨lS, hlS⟩ : ∃ lS, lS = sset l := ⟨_, rfl⟩
                  have HC := hid (rsetof_any (.slice al l.length cl) l wr wr.heap.size hIl (HInr.out l (List.mem_of_getElem? hBi)))
                  rw [← hlS] at HC
                  have HBi := hid hBi
                  have HlS := hid hlS
                  clear hl hIl hBi hlS
                  go_wp2_with fail
                  refine HC.out.mono ?_
                  intro e w2 hx
                  obtain ⟨v', rfl, hx2, hr2⟩ := hx
                  obtain ⟨a3, c3, rfl⟩ := hr2.form
                  have hrow := own_ext Hr.out hx2
                  obtain ⟨p1, p2, p3⟩ := Made.put hrow (Hm.out.ext hx2) HL.out (IntsT.row hr2) hil
                  obtain ⟨u, hu⟩ : ∃ u, vs[i]? = some u := ⟨_, List.getElem?_eq_getElem (by rw [Hm.out.1, HL.out]; exact hil)⟩
                  have z0 := own_get hrow i hu
                  have f0 := own_free hrow i
                  obtain ⟨_, _, hbase⟩ := own_pos hrow
                  have P1 := hid p1
                  have P2 := hid p2
                  have Hxx := hid (Keep.new (Hx.out.trans hx2) p3 fun b e => by rw [e]; exact hbase)
                  clear HC hx2 hr2 hrow p1 p2 p3 hu hbase hcl
                  go_wp2
                  go_roundw
                  case rel =>
                    refine ⟨i + 1, _, L.set i lS, by go_num, by omega, by rw [List.length_set]; exact HL.out, fun j hj => ?_, fun j hj => ?_, P1.out, P2.out, Hxx.out⟩
                    · by_cases hji : i = j
                      · subst hji
                        rw [List.getElem?_set_self (by rw [HL.out]; exact hil), List.getElem?_map, HBi.out, HlS.out]
                        rfl
                      · rw [List.getElem?_set_ne hji]
                        exact H1.out j (by omega)
                    · rw [List.getElem?_set_ne (by omega)]
                      exact H2.out j (by omega)
                  case measure => simp [intOf]; omega
                · obtain rfl : i = has.length := by omega
                  have hLr : L = P.roundV has := by
                    rw [← HDone.out]
                    refine List.ext_getElem? fun j => ?_
                    by_cases hj : j < has.length
                    · exact H1.out j hj
                    · rw [List.getElem?_eq_none (by rw [HL.out]; omega), List.getElem?_eq_none (by rw [List.length_map, HBl.out]; omega)]
                  have hs := SetsR.made (L := P.roundV has) (by rw [roundV_len]; exact Hr.out) (by rw [← hLr]; exact Hm.out)
                  have Hs := hid hs
                  clear hs hLr hil hi
                  go_wp2
                  go_ret
                  exact ⟨_, _, rfl, Hs.out, HX.out.trans Hx.out⟩
end Go.Proofs.YtoaoienfggjepaaGreatDoor



/- The reference's least answer, walked. -/
namespace Go.Proofs.YtoaoienfggjepaaGreatDoor
set_option linter.unusedSimpArgs false
set_option linter.unusedVariables false
open Go Go.RowKit

set_option maxRecDepth 100000 in
set_option maxHeartbeats 3200000 in
theorem rleastof_any (a1 a2 a3 : Option Addr) (c1 c2 c3 : Nat) (P : PP) (w : World) (h : ProgR w w.heap.size (.slice a1 P.vars.length c1) (.slice a2 P.funs.length c2) (.slice a3 P.stmts.length c3) P) (hw : P.Well) (n : Nat) (S : List (List Int)) (hL : LeastAt P n S) :
    Calls Tryz.prog 36 #[pval a1 a2 a3 c1 c2 c3 P] w fun e w' => ∃ a c, e = .returned (.tuple #[.slice a P.nodesV c, .int .i64 (n : Int)]) ∧ SetsR w' w'.heap.size (.slice a P.nodesV c) S ∧ Ext w w' := by
  have Hw := hid hw
  have HLe := hid hL
  have hn12 := hL.few hw
  obtain ⟨hf1, hf2, hf3⟩ := hw.few
  obtain ⟨W, hW⟩ : ∃ W, W = w.alloc (.cells (pcells a1 a2 a3 c1 c2 c3 P) 39) := ⟨_, rfl⟩
  have HX : Hid (Ext w W) := hid (by rw [hW]; exact (Ext.refl _).alloc _)
  have HBx : Hid (Blk W w.heap.size (pcells a1 a2 a3 c1 c2 c3 P) 39) := hid (by rw [hW]; exact Blk.new _ _ _)
  have HWe : Hid (W = w.alloc (.cells #[.slice a1 P.vars.length c1, .slice a2 P.funs.length c2, .slice a3 P.stmts.length c3] 39)) := hid (by rw [hW]; rfl)
  have HNo := fun w1 (x : Ext w w1) => hid (rnodesof_any a1 a2 a3 c1 c2 c3 P w1 w.heap.size (h.ext x) (by omega) (by omega))
  have HPR := hid h
  have hN6 := nodesV_le P hw
  have HRo := fun w1 (x : Ext w w1) hv has (hh : SetsR w1 w1.heap.size hv has) (hg : P.GoodS has) => hid (rroundof_any a1 a2 a3 c1 c2 c3 P hv has w1 w1.heap.size ((HPR.out.ext x).lift x.size) hg hh (Nat.le_refl _))
  have HGd := fun k => hid (iterV_good hw k)
  obtain ⟨N, hN⟩ : ∃ N, N = P.nodesV := ⟨_, rfl⟩
  rw [← hN] at HNo hN6 ⊢
  have HN := hid hN
  have d0 := HBx.out.av 0 rfl
  have d1 := HBx.out.av 1 rfl
  have d2 := HBx.out.av 2 rfl
  simp only [pcells, List.getElem_toArray, List.getElem_cons_zero, List.getElem_cons_succ] at d0 d1 d2
  rw [HWe.out] at d0 d1 d2
  unfold pval at HNo HRo ⊢
  have HN1 := HNo W HX.out
  clear hW h hw hL hN HNo
  go_enter Tryz.func36, Tryz.ntmps36
  go_wp2_with fail
  rw [← HWe.out]
  refine HN1.out.mono ?_
  intro e w2 hx
  obtain ⟨rfl, hx2⟩ := hx
  have Hx2 := hid hx2
  obtain ⟨bi, hbi, hbz, hbs, hbb⟩ := info_parts rows_info
  clear HN1 hx2 d0 d1 d2
  go_wp2_with (at_make; refine wpList_make_full w2 rfl _ _ _ rfl w2.heap.size 22 bi (.slice none 0 0) 1 Tryz.underlying44 hbi hbz hbs .i64 .i64 (N : Int) (N : Int) N rfl rfl rfl rfl (by rw [hbb]; omega) (by unfold maxLen; omega) (Nat.le_refl _) ?_; intro w3 hrow hgr)
  have hx3 : Ext w2 w3 := Keep.new (Ext.refl w2) (grown_keep hgr) (fun k hk => by cases hk)
  rw [show (Value.slice none 0 0).cells = #[Value.slice none 0 0] from rfl, toList_madeCells_one, Nat.mul_one] at hrow
  have Hx3 := hid (Hx2.out.trans hx3)
  have HS0 : Hid (SetsR w3 w3.heap.size (.slice (some ⟨w2.heap.size, 0, none⟩) N N) (P.iterV 0)) := hid (by
    have h1 := SetsR.made (v := .slice (some ⟨w2.heap.size, 0, none⟩) N N) (L := List.replicate N []) (by rw [List.length_replicate]; exact hrow) (made_nil w3 N)
    have e0 : P.iterV 0 = List.replicate N [] := by rw [HN.out]; rfl
    exact e0 ▸ h1)
  clear hrow hgr hx3 hbi hbz hbs hbb
  go_wp2
  go_loopw [4, 5] (fun t6 t7 wr => ∃ (k : Nat) (a : Option Addr) (c : Nat), t7 = .int .i64 (k : Int) ∧ t6 = .slice a N c ∧ k ≤ n ∧ SetsR wr wr.heap.size (.slice a N c) (P.iterV k) ∧ Ext W wr) (fun _ t7 _ => 200000 - (intOf t7).toNat)
  case atStart => exact ⟨0, _, _, rfl, rfl, Nat.zero_le _, HS0.out, Hx3.out⟩
  case round =>
    clear HS0 Hx3
    obtain ⟨k, a, c, rfl, rfl, hk, hs, hx⟩ := hrel
    have Hx := hid hx
    have Hs := hid hs
    have hlen : (P.iterV k).length = N := by rw [HN.out]; exact (HGd k).out.2.1
    have HC := HRo wr (HX.out.trans hx) (.slice a N c) (P.iterV k) hs (HGd k).out
    have d0 := (HBx.out.ext hx).av 0 rfl
    have d1 := (HBx.out.ext hx).av 1 rfl
    have d2 := (HBx.out.ext hx).av 2 rfl
    simp only [pcells, List.getElem_toArray, List.getElem_cons_zero, List.getElem_cons_succ] at d0 d1 d2
    rw [hlen] at HC
    clear hs hx hlen HRo
    go_wp2_with fail
    refine HC.out.mono ?_
    intro e w5 hx
    obtain ⟨a5, c5, rfl, hs5, hx5⟩ := hx
    have Hx5 := hid (Hx.out.trans hx5)
    have Hs5 := hid hs5
    have Hso := hid ((Hs.out.ext hx5).lift hx5.size)
    have HSm := hid (samesets_any (.slice a5 N c5) (.slice a N c) (P.roundV (P.iterV k)) (P.iterV k) w5 w5.heap.size hs5 ((Hs.out.ext hx5).lift hx5.size) (fun l hl => ((HGd (k + 1)).out.ok.ok l hl).1) (fun l hl => ((HGd k).out.ok.ok l hl).1))
    obtain ⟨d, hd⟩ : ∃ d, d = decide (P.roundV (P.iterV k) = P.iterV k) := ⟨_, rfl⟩
    rw [← hd] at HSm
    have Hd := hid hd
    clear HC hs5 hx5 d0 d1 d2 hd
    go_wp2_with fail
    refine HSm.out.mono ?_
    intro e w6 hx
    obtain ⟨rfl, hx6⟩ := hx
    have Hx6 := hid (Hx5.out.trans hx6)
    have Hs6 := hid ((Hs5.out.ext hx6).lift hx6.size)
    have Hso6 := hid ((Hso.out.ext hx6).lift hx6.size)
    clear HSm
    cases d with
    | true =>
      have hfix : P.roundV (P.iterV k) = P.iterV k := of_decide_eq_true Hd.out.symm
      have hkn : k = n := by
        rcases Nat.lt_or_ge k n with g | g
        · exact absurd hfix (HLe.out.first k g)
        · omega
      subst hkn
      have HF : Hid (SetsR w6 w6.heap.size (.slice a N c) S) := hid (by
        rw [HLe.out.eq]
        exact Hso6.out)
      clear hx6 hfix
      go_wp2
      refine bodyPost_ret (v := .tuple #[.slice a N c, .int .i64 (k : Int)]) (by simp [results, Tryz.results36, go_sem]) rfl ?_
      exact ⟨a, c, rfl, HF.out, HX.out.trans Hx6.out⟩
    | false =>
      have hne : P.roundV (P.iterV k) ≠ P.iterV k := of_decide_eq_false Hd.out.symm
      have hkn : k < n := by
        rcases Nat.lt_or_ge k n with g | g
        · exact g
        · obtain rfl : k = n := by omega
          exact absurd (by rw [← HLe.out.eq]; exact HLe.out.fix) hne
      have Hs7 : Hid (SetsR w6 w6.heap.size (.slice a5 N c5) (P.iterV (k + 1))) := hid Hs6.out
      clear hx6 hne
      go_wp2
      go_roundw
      case rel => exact ⟨k + 1, a5, c5, by go_num, rfl, by omega, Hs7.out, Hx6.out⟩
      case measure => simp [intOf]; omega
end Go.Proofs.YtoaoienfggjepaaGreatDoor



/- The reference: what sets are wrong in (SetsFault). -/
namespace Go.Proofs.YtoaoienfggjepaaGreatDoor
set_option linter.unusedSimpArgs false
set_option linter.unusedVariables false
open Go Go.RowKit

/-- What sets are wrong in, in numbers. -/
def SFaultIs (P : PP) (has : List (List Int)) (c : Nat) (p : Int) : Prop :=
  (has.length ≠ P.nodesV ∧ c = 3 ∧ p = -1) ∨ (has.length = P.nodesV ∧ (∀ l ∈ has, P.setE l = 0) ∧ c = 0 ∧ p = -1) ∨
  (has.length = P.nodesV ∧ ∃ (i : Nat) (l : List Int), has[i]? = some l ∧ P.setE l ≠ 0 ∧ (∀ j m, j < i → has[j]? = some m → P.setE m = 0) ∧ c = P.setE l ∧ p = (i : Int))
theorem setE_two {P : PP} {l : List Int} (h : chkE l = 0) {x : Int} (hx : x ∈ l) (hm : (P.objectsV : Int) ≤ x) : P.setE l = 2 := by
  have h0 : P.setE l ≠ 0 := fun e => by have := (setE_zero e).2 x hx; omega
  unfold PP.setE at h0 ⊢
  rw [if_pos h] at h0 ⊢
  by_cases hb : 0 < l.length ∧ (P.objectsV : Int) ≤ l.getD (l.length - 1) 0
  · rw [if_pos hb]
  · rw [if_neg hb] at h0; exact absurd rfl h0
theorem setE_chk {P : PP} {l : List Int} (h : chkE l ≠ 0) : P.setE l = chkE l := by unfold PP.setE; rw [if_neg h]
/-- How far the reference is with one set. -/
def SStep (P : PP) (l : List Int) (k e : Nat) : Prop := (e = chkE l ∧ chkE l ≠ 0 ∧ k = 0) ∨ (chkE l = 0 ∧ ((e = 0 ∧ ∀ x ∈ l.take k, x < (P.objectsV : Int)) ∨ (e = 2 ∧ ∃ x ∈ l, (P.objectsV : Int) ≤ x)))
theorem SStep.end {P : PP} {l : List Int} {k e : Nat} (h : SStep P l k e) (hk : e ≠ 0 ∨ k = l.length) : P.setE l = e := by
  rcases h with ⟨rfl, h2, _⟩ | ⟨h1, ⟨rfl, h3⟩ | ⟨rfl, x, hx, hm⟩⟩
  · exact setE_chk h2
  · rcases hk with hk | hk
    · exact absurd rfl hk
    · refine setE_of h1 fun x hx => h3 x ?_
      rw [hk, List.take_length]; exact hx
  · exact setE_two h1 hx hm
end Go.Proofs.YtoaoienfggjepaaGreatDoor



/- RunDoes: numbers copied and a program run, whatever order Go takes. -/
namespace Go.Proofs.YtoaoienfggjepaaGreatDoor
set_option linter.unusedSimpArgs false
set_option linter.unusedVariables false
open Go Go.RowKit

/-- What a run answered, whole. -/
def RdNew (W : World) (ad : Nat → Addr) (P : PP) (l : List Int) (t : Value) (w : World) : Prop := (∃ a1 n1 c1 a2 n2 c2 a3 n3 c3 ev, t = .tuple #[.agg #[.slice a1 n1 c1, .slice a2 n2 c2, .slice a3 n3 c3], ev] ∧ RdOut ad P l W.heap.size w a1 a2 a3 n1 n2 n3 c1 c2 c3 ev) ∧ Ext W w
theorem RdNew.ext {W w w' : World} {ad : Nat → Addr} {P : PP} {l : List Int} {t : Value} (h : RdNew W ad P l t w) (x : Ext w w') : RdNew W ad P l t w' := by
  obtain ⟨⟨a1, n1, c1, a2, n2, c2, a3, n3, c3, ev, h1, h2⟩, h3⟩ := h
  exact ⟨⟨a1, n1, c1, a2, n2, c2, a3, n3, c3, ev, h1, h2.ext x⟩, h3.trans x⟩
/-- .. and where its state lies. -/
structure RdAt (W : World) (ad : Nat → Addr) (P : PP) (l : List Int) (b : Nat) (a1 a2 a3 : Option Addr) (n1 n2 n3 c1 c2 c3 : Nat) (ev : Value) (w : World) : Prop where
  blk : Blk w b #[.slice a1 n1 c1, .slice a2 n2 c2, .slice a3 n3 c3] 52
  out : RdOut ad P l W.heap.size w a1 a2 a3 n1 n2 n3 c1 c2 c3 ev
  ext : Ext W w
theorem RdAt.on {W w w' : World} {ad : Nat → Addr} {P : PP} {l : List Int} {b : Nat} {a1 a2 a3 : Option Addr} {n1 n2 n3 c1 c2 c3 : Nat} {ev : Value} (h : RdAt W ad P l b a1 a2 a3 n1 n2 n3 c1 c2 c3 ev w) (x : Ext w w') : RdAt W ad P l b a1 a2 a3 n1 n2 n3 c1 c2 c3 ev w' := ⟨h.blk.ext x, h.out.ext x, h.ext.trans x⟩
theorem RnRows.low {w : World} {n0 n1 : Nat} {vv tv pv : Value} {s : Rn} (h : RnRows w n0 vv tv pv s) (hn : n1 ≤ n0) : RnRows w n1 vv tv pv s := ⟨own_low h.vars hn, own_low h.things hn, own_low h.places hn⟩
theorem RdOut.low {ad : Nat → Addr} {P : PP} {l : List Int} {n0 n1 : Nat} {w : World} {a1 a2 a3 : Option Addr} {m1 m2 m3 c1 c2 c3 : Nat} {ev : Value} (h : RdOut ad P l n0 w a1 a2 a3 m1 m2 m3 c1 c2 c3 ev) (hn : n1 ≤ n0) : RdOut ad P l n1 w a1 a2 a3 m1 m2 m3 c1 c2 c3 ev := by
  rcases h with ⟨h1, h2, h3⟩ | h
  · exact .inl ⟨h1, h2, h3.low hn⟩
  · exact .inr h
theorem FaultIs.zero {P : PP} {p : Int} (h : FaultIs P 0 p) : P.err1 = 0 ∧ P.allWell ∧ p = -1 := by
  rcases h with ⟨h1, h2, _⟩ | ⟨h1, h2, _, h4⟩ | ⟨h1, i, s, h2, h3, _⟩
  · exact absurd h2.symm h1
  · exact ⟨h1, h2, h4⟩
  · exact absurd h3.symm h2.2.1
end Go.Proofs.YtoaoienfggjepaaGreatDoor

