/- Texts of one proof, put together: YI YN S5 YW. -/
import Derived.Test.YtohfdecefikinaaGreatDoorZCM28
import Derived.Test.YtohfdecefikinaaGreatDoorZCM29
import Derived.Test.YtohfdecefikinaaGreatDoorZCM30
import Derived.Test.YtohfdecefikinaaGreatDoorZCM31

/- cons.Edges of a well program, with sets that are well. -/
namespace Go.Proofs.YtohfdecefikinaaGreatDoor
set_option linter.unusedSimpArgs false
set_option linter.unusedVariables false
open Go Go.RowKit

theorem compactE_upto (l : List (Int × Int)) : ∀ m, (Lib.compactUpTo l.toArray m).length ≤ m
  | 0 => by simp [Lib.compactUpTo]
  | m + 1 => by
    have := compactE_upto l m
    rw [Lib.compactUpTo_succ]
    split <;> simp <;> omega
theorem compactE_len (l : List (Int × Int)) : (Lib.compact l).length ≤ l.length := by
  unfold Lib.compact
  exact compactE_upto l _

theorem own_r {w : World} {base g n cap : Nat} {rs : List R2} (h : w.ownsRow base 46 5 (.slice (some ⟨g, 0, none⟩) n cap) n (rs.flatMap R2.cells)) {i : Nat} {x : R2} (hx : rs[i]? = some x) :
    w.cell? ⟨g, i * 5, none⟩ = some (.string x.r.kind) ∧ w.cell? ⟨g, i * 5 + 1, none⟩ = some (.int .i64 x.r.a) ∧ w.cell? ⟨g, i * 5 + 2, none⟩ = some (.int .i64 x.r.b) ∧ w.cell? ⟨g, i * 5 + 3, none⟩ = some (.int .i64 x.r.k) ∧ w.cell? ⟨g, i * 5 + 4, none⟩ = some x.v := by
  have c : ∀ j v, x.cells[j]? = some v → j < 5 → w.cell? ⟨g, i * 5 + j, none⟩ = some v := fun j v hv hj => own_get h _ ((fm_get R2.cells 5 R2.cells_len rs i j x hx hj).trans hv)
  exact ⟨c 0 _ rfl (by omega), c 1 _ rfl (by omega), c 2 _ rfl (by omega), c 3 _ rfl (by omega), c 4 _ rfl (by omega)⟩
theorem rules_at {P : PP} {rs : List R2} (h : rs.map R2.r = P.rulesV) {k : Nat} (hk : k < P.stmts.length) : ∃ x, rs[k]? = some x ∧ x.r = P.ruleV k (P.stAt k) := by
  have hl : rs.length = P.stmts.length := by have := congrArg List.length h; rw [List.length_map] at this; rw [this]; exact P.rulesUp_len _
  have hkr : k < rs.length := by omega
  refine ⟨rs[k], List.getElem?_eq_getElem hkr, ?_⟩
  have h1 : (rs.map R2.r)[k]? = some (rs[k]).r := by rw [List.getElem?_map, List.getElem?_eq_getElem hkr]; rfl
  rw [h] at h1
  unfold PP.rulesV PP.rulesUp at h1
  rw [List.getElem?_map, List.getElem?_range hk] at h1
  exact (Option.some.inj h1).symm
theorem sets_nil {ad : Nat → Addr} {P : PP} {has : List (List Int)} {w : World} {v : Value} (h : SetsIs ad P has w v) (hl : has.length = P.nodesV) (he : ∀ l ∈ has, P.setE l = 0) : v = .nilIface := by
  rcases h with ⟨h, _⟩ | ⟨_, _, h⟩ | ⟨_, i, l, _, h1, h2, _⟩
  · exact absurd hl h
  · exact h
  · exact absurd (he l (List.mem_of_getElem? h1)) h2

set_option maxRecDepth 100000 in
set_option maxHeartbeats 6400000 in
theorem consedges_ok (a1 a2 a3 : Option Addr) (c1 c2 c3 : Nat) (P : PP) (hv : Value) (has : List (List Int)) (w : World) (n0 : Nat) (ad : Nat → Addr) (h : PW w n0 ad a1 a2 a3 c1 c2 c3 P) (hS : ErrS w ad) (hh : SetsR w n0 hv has)
    (hl : has.length = P.nodesV) (he : ∀ l ∈ has, P.setE l = 0) (hn0 : n0 ≤ w.heap.size) :
    Calls Tryz.prog 16 #[pval a1 a2 a3 c1 c2 c3 P, hv] w fun e w' => ∃ v l, e = .returned (.tuple #[v, .nilIface]) ∧ ERow w.heap.size w' v l ∧ EdgesAre P has l ∧ l.length ≤ 50000 ∧ Ext w w' := by
  obtain ⟨ah, ch, rfl⟩ := hh.form
  have Hs := hid (SetsOk.of hl he)
  have Hl := hid hl
  have He := hid he
  have Hw := hid h.well
  obtain ⟨hf1, hf2, hf3⟩ := h.well.few
  obtain ⟨W, hW⟩ : ∃ W, W = w.alloc (.cells (pcells a1 a2 a3 c1 c2 c3 P) 26) := ⟨_, rfl⟩
  have HX : Hid (Ext w W) := hid (by rw [hW]; exact (Ext.refl _).alloc _)
  have HBx : Hid (Blk W w.heap.size (pcells a1 a2 a3 c1 c2 c3 P) 26) := hid (by rw [hW]; exact Blk.new _ _ _)
  have HWe : Hid (W = w.alloc (.cells #[.slice a1 P.vars.length c1, .slice a2 P.funs.length c2, .slice a3 P.stmts.length c3] 26)) := hid (by rw [hW]; rfl)
  have HK := hid (consof_yes a1 a2 a3 c1 c2 c3 P W n0 ad (h.ext HX.out))
  have HN := fun w1 (x : Ext W w1) => hid (conssets_any a1 a2 a3 c1 c2 c3 P _ has w1 n0 ad (h.ext (HX.out.trans x)) (hS.ext (HX.out.trans x)) (hh.ext (HX.out.trans x)))
  have HRe := fun k (hk : k < P.stmts.length) av n1 w1 (hn1 : n0 ≤ n1) (hn2 : n1 ≤ w1.heap.size) (x : Ext W w1) (ha : IntsR w1 n1 av (P.ruleV k (P.stAt k)).args) => hid (redges_any a1 a2 a3 c1 c2 c3 P k hk av (.slice ah has.length ch) has w1 n1 ad ((h.ext (HX.out.trans x)).lift hn1) ha ((hh.ext (HX.out.trans x)).lift hn1) Hs.out hn2)
  have Hn0 := hid (Nat.le_trans hn0 HX.out.size)
  have d0 := HBx.out.av 0 rfl
  have d1 := HBx.out.av 1 rfl
  have d2 := HBx.out.av 2 rfl
  simp only [pcells, List.getElem_toArray, List.getElem_cons_zero, List.getElem_cons_succ] at d0 d1 d2
  unfold pval at HK HN HRe ⊢
  clear hW h hS hh hl he hn0
  go_enter Tryz.func16, Tryz.ntmps16
  go_wp2_with fail
  rw [← HWe.out]
  refine HK.out.mono ?_
  intro e w1 hx
  obtain ⟨v, rs, rfl, hi, hx1⟩ := hx
  obtain ⟨av, cv, rfl⟩ := row_form hi.row
  rw [show P.rulesV.length = P.stmts.length from P.rulesUp_len _] at hi ⊢
  have HI := hid hi
  have Hx1 := hid hx1
  have HN1 := HN w1 hx1
  clear HK hi d0 d1 d2 HN hx1
  have d0 := (HBx.out.ext Hx1.out).av 0 rfl
  have d1 := (HBx.out.ext Hx1.out).av 1 rfl
  have d2 := (HBx.out.ext Hx1.out).av 2 rfl
  simp only [pcells, List.getElem_toArray, List.getElem_cons_zero, List.getElem_cons_succ] at d0 d1 d2
  go_wp2_with fail
  refine HN1.out.mono ?_
  intro e w2 hx
  obtain ⟨v2, rfl, hi, hx2⟩ := hx
  obtain rfl := sets_nil hi Hl.out He.out
  have Hx2 := hid (Hx1.out.trans hx2)
  have HI2 := hid (HI.out.ext hx2)
  have Hx12 := hid hx2
  clear HN1 hi hx2 d0 d1 d2 HI
  go_wp2
  go_loopw [9, 28] (fun t9 t28 wr => ∃ (k : Nat) (E : List (Int × Int)), t28 = .int .i64 (k : Int) ∧ k ≤ P.stmts.length ∧ E = (P.rulesUp k).flatMap (fun r => P.redges r has) ∧ wr.ownsRow w2.heap.size 58 2 t9 E.length (E.flatMap eCells) ∧ Ext w2 wr) (fun _ t28 _ => P.stmts.length - (intOf t28).toNat)
  case atStart => exact ⟨0, [], rfl, Nat.zero_le _, rfl, World.ownsRow_nil _ _ _ _, Ext.refl _⟩
  case round =>
    obtain ⟨k, E, rfl, hk, hE, hr, hx⟩ := hrel
    obtain ⟨a9, c9, rfl⟩ := row_form hr
    have hE5 : E.length ≤ 50000 := by rw [hE]; exact rulesUp_len Hw.out Hs.out k hk
    have HE := hid hE
    have Hr := hid hr
    have Hx := hid hx
    have HxW := hid (Hx2.out.trans hx)
    clear hr hx hE
    by_cases hlt : k < P.stmts.length
    · obtain ⟨g, cp, hge⟩ := own_some HI2.out.row (by rw [show P.rulesV.length = P.stmts.length from P.rulesUp_len _]; omega)
      simp only [Value.slice.injEq] at hge
      obtain ⟨rfl, -, rfl⟩ := hge
      obtain ⟨x, hxk, hxr⟩ := rules_at HI2.out.eq hlt
      have hrow := own_ext HI2.out.row Hx.out
      rw [show P.rulesV.length = P.stmts.length from P.rulesUp_len _] at hrow
      obtain ⟨q0, q1, q2, q3, q4⟩ := own_r hrow hxk
      have hT := HI2.out.args x (List.mem_of_getElem? hxk)
      obtain ⟨aa, ca, hav⟩ := hT.form
      obtain ⟨r, xv⟩ := x
      simp only at hav hxr q0 q1 q2 q3 q4 hT
      subst hav
      obtain ⟨V, hV⟩ : ∃ V, V = wr.alloc (.cells #[.string r.kind, .int .i64 r.a, .int .i64 r.b, .int .i64 r.k, .slice aa r.args.length ca] 46) := ⟨_, rfl⟩
      have hxV : Ext wr V := by rw [hV]; exact (Ext.refl _).alloc _
      have HVe := hid hV
      have HVx := hid (HxW.out.trans hxV)
      have HBr : Hid (Blk V wr.heap.size #[.string r.kind, .int .i64 r.a, .int .i64 r.b, .int .i64 r.k, .slice aa r.args.length ca] 46) := hid (by rw [hV]; exact Blk.new _ _ _)
      have HC := HRe k hlt (.slice aa r.args.length ca) w2.heap.size V (Nat.le_trans Hn0.out Hx2.out.size) (Nat.le_trans Hx.out.size hxV.size) HVx.out (by rw [← hxr]; exact hT.1.old ((Hx.out.trans hxV).old _))
      rw [← hxr] at HC
      have hq4 := redges_len P (P.ruleV k (P.stAt k)) has 1000 (fun l hl => srt_few (Hs.out.ok l hl).1) (ruleV_few Hw.out hlt)
      rw [← hxr] at hq4
      obtain ⟨q, hq⟩ : ∃ q, q = P.redges r has := ⟨_, rfl⟩
      rw [← hq] at HC hq4
      have Hn : Hid ((P.rulesUp (k + 1)).flatMap (fun r => P.redges r has) = E ++ q) := hid (by rw [PP.rulesUp_succ, List.flatMap_append, ← HE.out, ← hxr, hq]; simp)
      have m0 := HBr.out.av 0 rfl
      have m1 := HBr.out.av 1 rfl
      have m2 := HBr.out.av 2 rfl
      have m3 := HBr.out.av 3 rfl
      have m4 := HBr.out.av 4 rfl
      simp only [List.getElem_toArray, List.getElem_cons_zero, List.getElem_cons_succ] at m0 m1 m2 m3 m4
      have d0 := (HBx.out.ext HVx.out).av 0 rfl
      have d1 := (HBx.out.ext HVx.out).av 1 rfl
      have d2 := (HBx.out.ext HVx.out).av 2 rfl
      simp only [pcells, List.getElem_toArray, List.getElem_cons_zero, List.getElem_cons_succ] at d0 d1 d2
      rw [HVe.out] at m0 m1 m2 m3 m4 d0 d1 d2
      unfold RV.val at HC
      have HrV := hid (own_ext Hr.out hxV)
      clear HRe hV hxV hxk hxr hrow hT hq
      go_wp2_with fail
      rw [← HVe.out]
      refine HC.out.mono ?_
      intro e w3 hx
      obtain ⟨vq, rfl, hq3, hx3⟩ := hx
      unfold ERow at hq3
      obtain ⟨aq, cq, rfl⟩ := row_form hq3
      have Hq3 := hid hq3
      have Hx3 := hid (HVx.out.trans hx3)
      have Hr3 := hid (own_ext HrV.out hx3)
      have Hx23 := hid ((Hx.out.trans (show Ext wr V by rw [HVe.out]; exact (Ext.refl _).alloc _)).trans hx3)
      have hl6 : E.length + q.length ≤ 1000000 := by omega
      clear HC hq3 hx3 m0 m1 m2 m3 m4 d0 d1 d2 q0 q1 q2 q3 q4
      go_wp2_with (at_builtin; refine wpList_append_src w2.heap.size Hx23.out.size 49 58 (.agg #[.int .i64 0, .int .i64 0]) 2 16 Tryz.underlying49 edge_info rfl (by omega) (by omega) rfl _ _ rfl (.slice a9 E.length c9) E.length (E.flatMap eCells) rfl Hr3.out aq q.length cq (q.flatMap eCells) rfl (own_src Hq3.out eCells_one) hl6 ?_; intro v' w' h1 h2 h4; obtain ⟨a', c', rfl⟩ := row_form h1; have h3 := hid (Keep.new Hx23.out h2 (fun b e => (World.ownsRow.lt Hr3.out b e).1)); have h1 := hid h1; clear h2 h4)
      go_roundw
      case rel => exact ⟨k + 1, E ++ q, by go_num, by omega, Hn.out.symm, by rw [List.length_append, List.flatMap_append]; exact h1.out, h3.out⟩
      case measure => simp [intOf]; omega
    · obtain rfl : k = P.stmts.length := by omega
      have HE0 : Hid (E = P.edges0 has) := hid HE.out
      have hin : ∀ e ∈ E, InE e := fun e he => by
        rw [HE0.out] at he
        have hi := edges0_in Hw.out Hs.out e he
        have hn := nodesV_le P Hw.out
        unfold PP.InN at hi
        unfold InE
        omega
      have Hin := hid hin
      have HD := hid (edel_same (fun e => decide (e.1 = e.2)) (.slice a9 E.length c9) E w2 wr w2.heap.size Hx.out (Nat.le_refl _) Hr.out (fun n w1 _ => consedgesc1_any n w1) (by omega))
      have HS := fun lv l w3 (hin : ∀ e ∈ l, InE e) (x : Ext w2 w3) (hr : ERow w2.heap.size w3 lv l) (hf : l.length ≤ 100000) => hid (esort_any lv l hin w2 w3 w2.heap.size x (Nat.le_refl _) hr hf)
      have HC := fun lv l w3 (x : Ext w2 w3) (hr : ERow w2.heap.size w3 lv l) (hf : l.length ≤ 100000) => hid (ecompact_any lv l w2 w3 w2.heap.size x (Nat.le_refl _) hr hf)
      clear HRe hin
      go_wp2_with fail
      refine HD.out.mono ?_
      intro e w3 hx
      obtain ⟨v3, rfl, hr3, hx3⟩ := hx
      obtain ⟨a3', c3', hv3⟩ := row_form hr3
      subst hv3
      obtain ⟨E3, hE3⟩ : ∃ E3, E3 = E.filter (fun x => !(decide (x.1 = x.2))) := ⟨_, rfl⟩
      have h3l : E3.length ≤ E.length := by rw [hE3]; exact List.length_filter_le _ _
      rw [← hE3] at hr3 ⊢
      have HE3 := hid hE3
      have HS3 := HS _ E3 w3 (fun e he => by rw [hE3] at he; exact Hin.out e (List.mem_filter.1 he).1) hx3 hr3 (by omega)
      clear HD HS hr3 hx3 hE3
      go_wp2_with fail
      refine HS3.out.mono ?_
      intro e w4 hx
      obtain ⟨rfl, E4, hr4, h4l, hm4, hp4, hx4⟩ := hx
      have HC4 := HC (.slice a3' E3.length c3') E4 w4 hx4 (by rw [← h4l] at hr4 ⊢; exact hr4) (by omega)
      have Hfin : Hid (EdgesAre P has (Lib.compact E4)) := hid (by
        obtain ⟨g1, g2⟩ := compactP E4 hp4
        refine ⟨g2, fun e => ?_⟩
        rw [g1, hm4, HE3.out, List.mem_filter, ← HE0.out]
        simp)
      have hcl := compactE_len E4
      have Hcl : Hid ((Lib.compact E4).length ≤ 50000) := hid (by omega)
      clear HS3 HC hr4 hm4 hp4 hx4 hcl
      go_wp2_with fail
      refine HC4.out.mono ?_
      intro e w5 hx
      obtain ⟨v5, rfl, hr5, hx5⟩ := hx
      obtain ⟨a5, c5, hv5⟩ := row_form hr5
      subst hv5
      have Hr5 := hid hr5
      have Hx5 := hid (HX.out.trans (Hx2.out.trans hx5))
      clear HC4 hr5 hx5
      go_wp2
      go_ret2
      exact ⟨_, _, rfl, Hr5.out.low (HX.out.trans Hx2.out).size, Hfin.out, Hcl.out, Hx5.out⟩
end Go.Proofs.YtohfdecefikinaaGreatDoor


/- ConsOrder, plainly: statements turned round, where none makes a thing. -/
namespace Go.Proofs.YtohfdecefikinaaGreatDoor
set_option linter.unusedSimpArgs false
set_option linter.unusedVariables false
open Go Go.RowKit

/-- Is an answer: base rules, and edges. -/
structure ClosedP (P : PP) (has : List (List Int)) : Prop where
  base : ∀ k, k < P.stmts.length → (P.ruleV k (P.stAt k)).kind.toList = bBase.toList → (P.ruleV k (P.stAt k)).b ∈ has.getD (P.ruleV k (P.stAt k)).a.toNat []
  edge : ∀ e ∈ P.edges0 has, e.1 ≠ e.2 → ∀ n ∈ has.getD e.1.toNat [], n ∈ has.getD e.2.toNat []
/-- A program with its statements turned round. -/
def PP.turned (P : PP) : PP := ⟨P.vars, P.funs, P.stmts.reverse⟩
def PP.noNew (P : PP) : Prop := ∀ x ∈ P.stmts, x.isK kNew = false
theorem isNew_no {P : PP} (h : P.noNew) (k : Nat) : P.isNew k = false := by
  unfold PP.isNew
  cases hk : P.stmts[k]? with
  | none => rfl
  | some x => exact h x (List.mem_of_getElem? hk)
theorem newsN_no {P : PP} (h : P.noNew) (k : Nat) : P.newsN k = 0 := by
  unfold PP.newsN
  rw [List.filter_eq_nil_iff.2 fun a _ => by rw [isNew_no h a]; simp]
  rfl
theorem noNew_turned {P : PP} (h : P.noNew) : P.turned.noNew := fun x hx => h x (List.mem_reverse.1 hx)
theorem nodes_turned {P : PP} (h : P.noNew) : P.turned.nodesV = P.nodesV := by
  unfold PP.nodesV
  rw [newsN_no h, newsN_no (noNew_turned h)]
  rfl
theorem objects_turned {P : PP} (h : P.noNew) : P.turned.objectsV = P.objectsV := by
  unfold PP.objectsV
  rw [nodes_turned h]
  rfl
theorem setE_turned {P : PP} (h : P.noNew) (l : List Int) : P.turned.setE l = P.setE l := by
  unfold PP.setE
  rw [objects_turned h]
theorem allWell_iff (P : PP) : P.allWell ↔ ∀ x ∈ P.stmts, P.stmtErr x = 0 :=
  ⟨fun h x hx => by
    obtain ⟨k, hk, e⟩ := List.getElem_of_mem hx
    exact h k x hk (by rw [List.getElem?_eq_getElem hk, e]), fun h j t _ ht => h t (List.mem_of_getElem? ht)⟩
theorem err1_turned (P : PP) : P.turned.err1 = P.err1 := by
  unfold PP.err1
  have h1 : P.turned.big = P.big := by unfold PP.big PP.turned; simp
  rw [h1]
  rfl
theorem well_turned (P : PP) : P.turned.Well ↔ P.Well := by
  unfold PP.Well
  rw [err1_turned, allWell_iff, allWell_iff]
  have e : ∀ x, P.turned.stmtErr x = P.stmtErr x := fun x => rfl
  simp only [e]
  refine and_congr Iff.rfl ⟨fun h x hx => h x (List.mem_reverse.2 hx), fun h x hx => h x (List.mem_reverse.1 hx)⟩
theorem edges_turned {P : PP} (h : P.noNew) (has : List (List Int)) (e : Int × Int) : e ∈ P.turned.edges0 has ↔ e ∈ P.edges0 has := by
  rw [mem_edges0, mem_edges0]
  have c : ∀ x, P.turned.sedges x has = P.sedges x has := fun x => sedges_congr (nodes_turned h) rfl x has
  simp only [c]
  exact ⟨fun ⟨x, h1, h2⟩ => ⟨x, List.mem_reverse.1 h1, h2⟩, fun ⟨x, h1, h2⟩ => ⟨x, List.mem_reverse.2 h1, h2⟩⟩
theorem edgesAre_turned {P : PP} (h : P.noNew) {has : List (List Int)} {l : List (Int × Int)} (k : EdgesAre P.turned has l) : EdgesAre P has l :=
  ⟨k.srt, fun e => (k.mem e).trans (and_congr (edges_turned h has e) Iff.rfl)⟩
/-- The base rule of a statement, wherever it stands. -/
def PP.sOk (P : PP) (has : List (List Int)) (x : PS) : Prop := (P.ruleV 0 x).kind.toList = bBase.toList → (P.ruleV 0 x).b ∈ has.getD (P.ruleV 0 x).a.toNat []
theorem rule_at {P : PP} {x : PS} (hx : x.isK kNew = false) (k : Nat) : (P.ruleV k x).kind = (P.ruleV 0 x).kind ∧ (P.ruleV k x).a = (P.ruleV 0 x).a ∧ (P.ruleV k x).b = (P.ruleV 0 x).b := by
  unfold PP.ruleV
  rw [hx]
  cases x.isK kAddr <;> cases x.isK kFun <;> cases x.isK kCall <;> exact ⟨rfl, rfl, rfl⟩
theorem rule_turned {P : PP} (h : P.noNew) {x : PS} (hx : x.isK kNew = false) : P.turned.ruleV 0 x = P.ruleV 0 x := by
  unfold PP.ruleV
  rw [hx, nodes_turned h]
  rfl
theorem closed_iff {P : PP} (hn : P.noNew) (has : List (List Int)) : ClosedP P has ↔ (∀ x ∈ P.stmts, P.sOk has x) ∧ ∀ e ∈ P.edges0 has, e.1 ≠ e.2 → ∀ n ∈ has.getD e.1.toNat [], n ∈ has.getD e.2.toNat [] := by
  constructor
  · rintro ⟨h1, h2⟩
    refine ⟨fun x hx => ?_, h2⟩
    obtain ⟨k, hk, e⟩ := List.getElem_of_mem hx
    have e1 : P.stAt k = x := by
      have := stAt_some hk
      rw [List.getElem?_eq_getElem hk, e] at this
      exact (Option.some.inj this).symm
    have := h1 k hk
    rw [e1] at this
    obtain ⟨r1, r2, r3⟩ := rule_at (P := P) (hn x hx) k
    rw [r1, r2, r3] at this
    exact this
  · rintro ⟨h1, h2⟩
    refine ⟨fun k hk => ?_, h2⟩
    have hx : P.stAt k ∈ P.stmts := List.mem_of_getElem? (stAt_some hk)
    obtain ⟨r1, r2, r3⟩ := rule_at (P := P) (hn _ hx) k
    rw [r1, r2, r3]
    exact h1 _ hx
theorem closed_turned {P : PP} (h : P.noNew) (has : List (List Int)) : ClosedP P.turned has ↔ ClosedP P has := by
  rw [closed_iff h, closed_iff (noNew_turned h)]
  refine and_congr ⟨fun g x hx => ?_, fun g x hx => ?_⟩ ⟨fun g e he => g e ((edges_turned h has e).2 he), fun g e he => g e ((edges_turned h has e).1 he)⟩
  · have := g x (List.mem_reverse.2 hx)
    unfold PP.sOk at this ⊢
    rwa [rule_turned h (h x hx)] at this
  · have hx' := List.mem_reverse.1 hx
    unfold PP.sOk
    rw [rule_turned h (h x hx')]
    exact g x hx'
end Go.Proofs.YtohfdecefikinaaGreatDoor


/- Sets: what two have in common. -/
namespace Go.Proofs.YtohfdecefikinaaGreatDoor
set_option linter.unusedSimpArgs false
set_option linter.unusedVariables false
open Go Go.RowKit

theorem take_filter {p : Int → Bool} {l : List Int} {k : Nat} {q : Int} (h : l[k]? = some q) : (l.take (k + 1)).filter p = (l.take k).filter p ++ (if p q then [q] else []) := by
  rw [List.take_add_one, h]
  simp only [Option.toList, List.filter_append, List.filter_cons, List.filter_nil]
theorem sethas_any (v : Value) (l : List Int) (s : Int) (w : World) (n0 : Nat) (h : IntsR w n0 v l) : Calls Tryz.prog 44 #[v, .int .i64 s] w fun e w' => e = .returned (.bool (decide (s ∈ l))) ∧ w = w' := by
  have H := hid (containsi_any v l s w n0 h)
  obtain ⟨a, cap, rfl, _⟩ := h
  go_enter Tryz.func44, Tryz.ntmps44
  go_wp2_with fail
  refine H.out.mono ?_
  intro e w1 hx
  obtain ⟨rfl, rfl⟩ := hx
  clear H
  go_wp2
  go_ret
  exact ⟨rfl, rfl⟩
end Go.Proofs.YtohfdecefikinaaGreatDoor


/- Sets: is each of one list one of another? (set.Within) -/
namespace Go.Proofs.YtohfdecefikinaaGreatDoor
set_option linter.unusedSimpArgs false
set_option linter.unusedVariables false
open Go Go.RowKit

set_option maxRecDepth 100000 in
set_option maxHeartbeats 800000 in
theorem indexfi_wi (b : Value) (p : Int → Bool) (v : Value) (l : List Int) (w : World) (n0 : Nat) (h : IntsR w n0 v l) (hF : ∀ n w1, Ext w w1 → Calls Tryz.prog 73 #[.int .i64 n, b] w1 fun e w' => e = .returned (.bool (p n)) ∧ Ext w1 w') :
    Calls Tryz.prog 103 #[v, .func (.func 73) #[] #[b]] w fun e w' => ∃ r : Int, e = .returned (.int .i64 r) ∧ IdxF p l r ∧ Ext w w' := by
  have HS := hid h
  have HF := hid hF
  obtain ⟨a, cap, rfl, h2, h3, h4, _⟩ := h
  have H4 := hid h4
  have hml : (l.length : Int) ≤ 9223372036854775807 := by omega
  clear h2 h3 h4 hF
  go_enter Tryz.func103, Tryz.ntmps103
  go_wp2
  go_loopw [8] (fun t8 wr => ∃ k : Nat, t8 = .int .i64 (k : Int) ∧ k ≤ l.length ∧ (∀ j t, j < k → l[j]? = some t → p t = false) ∧ Ext w wr) (fun t8 _ => l.length - (intOf t8).toNat)
  case atStart => exact ⟨0, rfl, Nat.zero_le _, fun j t h => by omega, Ext.refl _⟩
  case round =>
    obtain ⟨k, rfl, hk, hne, hx⟩ := hrel
    have Hne := hid hne
    clear hne
    by_cases hlt : k < l.length
    · obtain ⟨y, rfl⟩ := H4.out (by omega)
      have hxk : l[k]? = some (l[k]'hlt) := List.getElem?_eq_getElem hlt
      obtain ⟨t, ht⟩ : ∃ t, t = l[k]'hlt := ⟨_, rfl⟩
      rw [← ht] at hxk
      obtain ⟨a', cap', h1, _, _, _, h5⟩ := HS.out.old (hx.old n0)
      obtain ⟨rfl, rfl⟩ : some y = a' ∧ cap = cap' := by simpa using h1
      have hc := (h5 y rfl (by omega)).2 k hlt t hxk
      have HN := hid (HF.out t wr hx)
      have Hxk := hid hxk
      have Hx := hid hx
      clear hxk ht h1 h5 hx
      go_wp2_with fail
      refine HN.out.mono ?_
      intro e w1 hx1
      obtain ⟨rfl, hx1⟩ := hx1
      have Hx1 := hid (Hx.out.trans hx1)
      clear HN hx1 Hx hc
      cases he : p t with
      | true =>
        have Hin := hid (show IdxF p l (k : Int) from .inr ⟨k, t, rfl, hlt, Hxk.out, he, Hne.out⟩)
        go_wp2
        go_ret
        exact ⟨(k : Int), rfl, Hin.out, Hx1.out⟩
      | false =>
        have Hf := hid he
        clear he
        go_wp2
        go_roundw
        case rel =>
          refine ⟨k + 1, by go_num, by omega, fun j u hj hu => ?_, Hx1.out⟩
          by_cases hjk : j = k
          · subst hjk
            obtain rfl := Option.some.inj (Hxk.out.symm.trans hu)
            exact Hf.out
          · exact Hne.out j u (by omega) hu
        case measure => simp [intOf]; omega
    · obtain rfl : k = l.length := by omega
      have Hx := hid hx
      clear hx
      have Hnot := hid (show IdxF p l (-1) from .inl ⟨rfl, fun x hx => by
        obtain ⟨j, hj, e2⟩ := List.mem_iff_getElem.1 hx
        exact Hne.out j x hj (by rw [List.getElem?_eq_getElem hj, e2])⟩)
      go_wp2
      go_ret
      exact ⟨(-1 : Int), rfl, Hnot.out, Hx.out⟩

set_option maxRecDepth 100000 in
set_option maxHeartbeats 800000 in
theorem containsfi_wi (b : Value) (p : Int → Bool) (v : Value) (l : List Int) (w : World) (n0 : Nat) (h : IntsR w n0 v l) (hF : ∀ n w1, Ext w w1 → Calls Tryz.prog 73 #[.int .i64 n, b] w1 fun e w' => e = .returned (.bool (p n)) ∧ Ext w1 w') :
    Calls Tryz.prog 72 #[v, .func (.func 73) #[] #[b]] w fun e w' => e = .returned (.bool (l.any p)) ∧ Ext w w' := by
  have H := hid (indexfi_wi b p v l w n0 h hF)
  obtain ⟨a, cap, rfl, h2, h3, _⟩ := h
  have hml : (l.length : Int) ≤ 9223372036854775807 := by omega
  clear hF
  go_enter Tryz.func72, Tryz.ntmps72
  go_wp2_with fail
  refine H.out.mono ?_
  intro e w1 hx
  obtain ⟨r, rfl, hr, hx⟩ := hx
  clear H
  rcases hr with ⟨rfl, hr⟩ | ⟨i, x, rfl, hi, hxi, hp, _⟩
  · have Hr := hid (show l.any p = false from List.any_eq_false.2 fun x hx => by rw [hr x hx]; simp)
    clear hr
    go_wp2
    go_ret
    exact ⟨by rw [Hr.out]; rfl, hx⟩
  · have Hr := hid (show l.any p = true from List.any_eq_true.2 ⟨x, List.mem_of_getElem? hxi, hp⟩)
    clear hp hxi
    go_wp2
    go_ret
    exact ⟨by rw [Hr.out]; rfl, hx⟩
theorem setwithinc_any (g : Nat) (vb : Value) (b : List Int) (n : Int) (w : World) (n0 : Nat) (hB : Blk w g #[vb] 42) (hb : IntsR w n0 vb b) :
    Calls Tryz.prog 73 #[.int .i64 n, .pointer (some ⟨g, 0, none⟩)] w fun e w' => e = .returned (.bool (!decide (n ∈ b))) ∧ Ext w w' := by
  have H := hid (sethas_any vb b n w n0 hb)
  obtain ⟨a, cap, rfl, _⟩ := hb
  have c0 := hB.av 0 rfl
  simp only [List.getElem_toArray, List.getElem_cons_zero] at c0
  clear hB
  generalize decide (n ∈ b) = d at *
  go_enter Tryz.func73, Tryz.ntmps73
  go_wp2_with fail
  refine H.out.mono ?_
  intro e w1 hx
  obtain ⟨rfl, rfl⟩ := hx
  clear H c0
  go_wp2
  go_ret
  exact ⟨rfl, Ext.refl _⟩
set_option maxRecDepth 100000 in
set_option maxHeartbeats 800000 in
theorem setwithin_any (va vb : Value) (a b : List Int) (w : World) (n0 : Nat) (ha : IntsR w n0 va a) (hb : IntsR w n0 vb b) :
    Calls Tryz.prog 47 #[va, vb] w fun e w' => e = .returned (.bool (a.all fun n => decide (n ∈ b))) ∧ Ext w w' := by
  obtain ⟨W, hW⟩ : ∃ W, W = w.alloc (.cells #[vb] 42) := ⟨_, rfl⟩
  have hxW : Ext w W := by rw [hW]; exact (Ext.refl _).alloc _
  have HBl : Hid (Blk W w.heap.size #[vb] 42) := hid (by rw [hW]; exact Blk.new _ _ _)
  have HC := hid (containsfi_wi (.pointer (some ⟨w.heap.size, 0, none⟩)) (fun n => !decide (n ∈ b)) va a W n0 (ha.old (hxW.old n0)) (fun n w2 x2 => setwithinc_any w.heap.size vb b n w2 n0 (HBl.out.ext x2) (hb.old ((hxW.trans x2).old n0))))
  have HxW := hid hxW
  obtain ⟨aa, ca, rfl, _⟩ := ha
  obtain ⟨ab, cb, rfl, _⟩ := hb
  have HWe := hid hW
  obtain ⟨d, hd⟩ : ∃ d, d = a.any (fun n => !decide (n ∈ b)) := ⟨_, rfl⟩
  have Hd : Hid ((a.all fun n => decide (n ∈ b)) = !d) := hid (by
    rw [hd, List.any_eq_not_all_not, Bool.not_not]
    congr 1
    funext n
    rw [Bool.not_not])
  rw [← hd] at HC
  clear hxW hW hd
  go_enter Tryz.func47, Tryz.ntmps47
  go_wp2_with fail
  rw [← HWe.out]
  refine HC.out.mono ?_
  intro e w1 hx
  obtain ⟨rfl, hx1⟩ := hx
  have Hx1 := hid (HxW.out.trans hx1)
  clear HC hx1
  go_wp2
  go_ret
  exact ⟨by rw [Hd.out]; rfl, Hx1.out⟩
end Go.Proofs.YtohfdecefikinaaGreatDoor
