/- Texts of one proof, put together: T5 T6 T1 T7 ZZYh ZZYj ZZYk ZZYl. -/
import Derived.Test.YtihdpijgngooaaaGreatDoorHHA05
import Derived.Test.YtihdpijgngooaaaGreatDoorHHA09
import Derived.Test.YtihdpijgngooaaaGreatDoorHHA11
import Derived.Test.YtihdpijgngooaaaGreatDoorHHA15
import Derived.Test.YtihdpijgngooaaaGreatDoorHHA01
set_option linter.unusedSimpArgs false
set_option linter.unusedVariables false
namespace Go.Proofs.YtihdpijgngooaaaGreatDoor
open Go Go.RowKit
theorem isE_congr {P : PP} {r s : RV} (h1 : r.kind.toList = s.kind.toList) (h2 : r.a = s.a) (h3 : r.b = s.b) (h4 : r.args = s.args) (has : List (List Int)) (a b : Int) : P.isE r has a b = P.isE s has a b := by
  unfold PP.isE fEdge
  rw [h1, h2, h3, h4]
def PP.rulesRUp (P : PP) (n : Nat) : List RV := ((List.range n).map fun k => P.ruleR k (P.stAt k)).filter fun r => !(r.kind.toList == bBase.toList)
theorem rulesRUp_succ (P : PP) (n : Nat) : P.rulesRUp (n + 1) = P.rulesRUp n ++ (if (P.ruleR n (P.stAt n)).kind.toList == bBase.toList then [] else [P.ruleR n (P.stAt n)]) := by
  unfold PP.rulesRUp
  rw [List.range_succ, List.map_append, List.filter_append]
  congr 1
  simp only [List.map_cons, List.map_nil, List.filter_cons, List.filter_nil]
  cases (P.ruleR n (P.stAt n)).kind.toList == bBase.toList <;> rfl
theorem rulesRUp_len (P : PP) (n : Nat) : (P.rulesRUp n).length ≤ n := by
  unfold PP.rulesRUp
  have := List.length_filter_le (fun r : RV => !(r.kind.toList == bBase.toList)) ((List.range n).map fun k => P.ruleR k (P.stAt k))
  rwa [List.length_map, List.length_range] at this
theorem any_rules {P : PP} (hw : P.Well) (has : List (List Int)) (a b : Int) : (P.rulesRUp P.stmts.length).any (fun r => P.isE r has a b) = P.rulesE.any fun r => P.isE r has a b := by
  unfold PP.rulesRUp PP.rulesE PP.rulesV PP.rulesUp
  rw [List.any_filter, List.any_filter, List.any_map, List.any_map]
  rw [Bool.eq_iff_iff, List.any_eq_true, List.any_eq_true]
  have c : ∀ k, k ∈ List.range P.stmts.length → (((fun r : RV => !(r.kind.toList == bBase.toList) && P.isE r has a b) ∘ fun k => P.ruleR k (P.stAt k)) k = ((fun r : RV => !(r.kind.toList == bBase.toList) && P.isE r has a b) ∘ fun k => P.ruleV k (P.stAt k)) k) := fun k hk => by
    have hk := List.mem_range.1 hk
    obtain ⟨h1, h2, h3, _, _, h4⟩ := rule_same (hw.2 k (P.stAt k) hk (stAt_some hk)) k
    simp only [Function.comp_apply]
    rw [isE_congr h1 h2 h3 h4, h1]
  exact ⟨fun ⟨k, hk, h⟩ => ⟨k, hk, by rw [← c k hk]; exact h⟩, fun ⟨k, hk, h⟩ => ⟨k, hk, by rw [c k hk]; exact h⟩⟩
structure REdge (n : Nat) (r : RV) : Prop where
  kd : (r.kind.toList == kCopy) = true ∨ (r.kind.toList == kLoad) = true ∨ (r.kind.toList == kStore) = true ∨ (r.kind.toList == kCall) = true
  a : 0 ≤ r.a ∧ r.a < n
  b : 0 ≤ r.b ∧ r.b < n
theorem ruleR_edge {P : PP} (hw : P.Well) {k : Nat} (hk : k < P.stmts.length) (hb : ((P.ruleR k (P.stAt k)).kind.toList == bBase.toList) = false) : REdge P.nodesV (P.ruleR k (P.stAt k)) := by
  have h0 := hw.2 k (P.stAt k) hk (stAt_some hk)
  have hg := PP.good h0
  have hnv := nodes_vars P
  obtain ⟨x, hx⟩ : ∃ x, x = P.stAt k := ⟨_, rfl⟩
  rw [← hx] at h0 hg hb ⊢
  have hgx := hg.gx
  have base : ∀ r : RV, r.kind = bBase → (r.kind.toList == bBase.toList) = true := fun r h => by rw [h]; exact beq_self_eq_true _
  have go : ∀ (g3 : x.isK kFun = false) (g2 : x.isK kNew = false) (g1 : x.isK kAddr = false), (x.isK kCopy = true ∨ x.isK kLoad = true ∨ x.isK kStore = true ∨ x.isK kCall = true) → REdge P.nodesV (P.ruleR k x) := fun g3 g2 g1 g => by
    have e : P.ruleR k x = ⟨x.kind, x.y, x.x, k, x.args⟩ := by unfold PP.ruleR; rw [g1, g2, g3]; rfl
    have hy := hg.yv g3 g2
    rw [e]
    exact ⟨g, by show 0 ≤ x.y ∧ x.y < (P.nodesV : Int); omega, by show 0 ≤ x.x ∧ x.x < (P.nodesV : Int); omega⟩
  rcases kind_cases h0 with g | g | g | g | g | g | g
  · rw [base _ (by unfold PP.ruleR; rw [g]; rfl)] at hb; cases hb
  · exact go (isK_ne g (k' := kFun) rfl) (isK_ne g (k' := kNew) rfl) (isK_ne g (k' := kAddr) rfl) (.inl g)
  · exact go (isK_ne g (k' := kFun) rfl) (isK_ne g (k' := kNew) rfl) (isK_ne g (k' := kAddr) rfl) (.inr (.inl g))
  · exact go (isK_ne g (k' := kFun) rfl) (isK_ne g (k' := kNew) rfl) (isK_ne g (k' := kAddr) rfl) (.inr (.inr (.inl g)))
  · rw [base _ (by unfold PP.ruleR; rw [isK_ne g (k' := kAddr) rfl, g]; rfl)] at hb; cases hb
  · rw [base _ (by unfold PP.ruleR; rw [isK_ne g (k' := kAddr) rfl, isK_ne g (k' := kNew) rfl, g]; rfl)] at hb; cases hb
  · exact go (isK_ne g (k' := kFun) rfl) (isK_ne g (k' := kNew) rfl) (isK_ne g (k' := kAddr) rfl) (.inr (.inr (.inr g)))
theorem rulesRUp_edge {P : PP} (hw : P.Well) {n : Nat} (hn : n ≤ P.stmts.length) : ∀ r ∈ P.rulesRUp n, REdge P.nodesV r := by
  intro r hr
  unfold PP.rulesRUp at hr
  obtain ⟨h1, h2⟩ := List.mem_filter.1 hr
  obtain ⟨k, hk, rfl⟩ := List.mem_map.1 h1
  have hk := List.mem_range.1 hk
  exact ruleR_edge hw (by omega) (by simpa using h2)
theorem risedge_any (a1 a2 a3 : Option Addr) (c1 c2 c3 : Nat) (P : PP) (r : RV) (av hv : Value) (has : List (List Int)) (p q : Int) (w : World) (n0 : Nat) (h : ProgR w n0 (.slice a1 P.vars.length c1) (.slice a2 P.funs.length c2) (.slice a3 P.stmts.length c3) P) (hf1 : P.vars.length ≤ 1000) (hf3 : P.stmts.length ≤ 1000) (hf2 : P.funs.length ≤ 1000) (ha : IntsR w n0 av r.args) (hh : SetsR w n0 hv has) (hr : REdge has.length r) :
    Calls Tryz.prog 74 #[pval a1 a2 a3 c1 c2 c3 P, r.val av, hv, .int .i64 p, .int .i64 q] w fun e w' => e = .returned (.bool (P.isE r has p q)) ∧ Ext w w' := by
  rcases hr.kd with g | g | g | g
  · exact risedge_copy a1 a2 a3 c1 c2 c3 P r av hv has p q w n0 h hf1 hf3 ha hh g
  · exact risedge_load a1 a2 a3 c1 c2 c3 P r av hv has p q w n0 h hf1 hf3 ha hh g hr.a
  · exact risedge_store a1 a2 a3 c1 c2 c3 P r av hv has p q w n0 h hf1 hf3 ha hh g hr.b
  · exact risedge_call a1 a2 a3 c1 c2 c3 P r av hv has p q w n0 h hf1 hf3 ha hh g hr.a hf2
def RERow (base : Nat) (w : World) (v : Value) (l : List (Int × Int)) : Prop := w.ownsRow base 111 2 v l.length (l.flatMap eCells)
theorem redge_info : (Tryz.prog.info? 111).map (fun i => (i.zero, i.size, i.bytes)) = some (some (.agg #[.int .i64 0, .int .i64 0]), 2, 16) := by kernel_rfl
theorem rrule_info : (Tryz.prog.info? 126).map (fun i => (i.zero, i.size, i.bytes)) = some (some (.agg #[.string ⟨#[]⟩, .int .i64 0, .int .i64 0, .int .i64 0, .slice none 0 0]), 5, 64) := by kernel_rfl
theorem own_rr {w : World} {base g n cap : Nat} {t : TypeId} {rs : List R2} (h : w.ownsRow base t 5 (.slice (some ⟨g, 0, none⟩) n cap) n (rs.flatMap R2.cells)) {i : Nat} {x : R2} (hx : rs[i]? = some x) :
    w.cell? ⟨g, i * 5, none⟩ = some (.string x.r.kind) ∧ w.cell? ⟨g, i * 5 + 1, none⟩ = some (.int .i64 x.r.a) ∧ w.cell? ⟨g, i * 5 + 2, none⟩ = some (.int .i64 x.r.b) ∧ w.cell? ⟨g, i * 5 + 3, none⟩ = some (.int .i64 x.r.k) ∧ w.cell? ⟨g, i * 5 + 4, none⟩ = some x.v := by
  have c : ∀ j v, x.cells[j]? = some v → j < 5 → w.cell? ⟨g, i * 5 + j, none⟩ = some v := fun j v hv hj => own_get h _ ((fm_get R2.cells 5 R2.cells_len rs i j x hx hj).trans hv)
  exact ⟨c 0 _ rfl (by omega), c 1 _ rfl (by omega), c 2 _ rfl (by omega), c 3 _ rfl (by omega), c 4 _ rfl (by omega)⟩
theorem rowE_succ (P : PP) (has : List (List Int)) (a n : Nat) : P.rowE has a (n + 1) = P.rowE has a n ++ (if P.edgeB has a n then [((a : Int), (n : Int))] else []) := by
  unfold PP.rowE
  rw [List.range_succ, List.filter_append, List.map_append]
  congr 1
  simp only [List.filter_cons, List.filter_nil]
  cases P.edgeB has a n <;> rfl
theorem refE_succ (P : PP) (has : List (List Int)) (n : Nat) : P.refE has (n + 1) = P.refE has n ++ P.rowE has n P.nodesV := by
  unfold PP.refE
  rw [List.range_succ, List.flatMap_append]
  simp
theorem rowE_len (P : PP) (has : List (List Int)) (a n : Nat) : (P.rowE has a n).length ≤ n := by
  unfold PP.rowE
  rw [List.length_map]
  have := List.length_filter_le (fun b : Nat => P.edgeB has (a : Int) (b : Int)) (List.range n)
  rwa [List.length_range] at this
theorem refE_len {P : PP} (hw : P.Well) (has : List (List Int)) {n : Nat} (hn : n ≤ P.nodesV) : (P.refE has n).length ≤ 14400 := by
  have hN := nodesV_le P hw
  have h1 := flatMap_len (fun a => P.rowE has a P.nodesV) 120 (List.range n) fun a _ => Nat.le_trans (rowE_len P has a _) hN
  rw [List.length_range] at h1
  unfold PP.refE
  have : n * 120 ≤ 120 * 120 := Nat.mul_le_mul_right _ (by omega)
  omega
theorem any_take_succ {α : Type} {l : List α} {k : Nat} {x : α} (h : l[k]? = some x) (g : α → Bool) : (l.take (k + 1)).any g = ((l.take k).any g || g x) := by
  rw [List.take_add_one, h, List.any_append]
  simp
set_option maxRecDepth 100000 in
set_option maxHeartbeats 6400000 in
theorem redgesof_any (a1 a2 a3 : Option Addr) (c1 c2 c3 : Nat) (P : PP) (hv : Value) (has : List (List Int)) (w : World) (n0 : Nat) (h : ProgR w n0 (.slice a1 P.vars.length c1) (.slice a2 P.funs.length c2) (.slice a3 P.stmts.length c3) P) (hw : P.Well) (hh : SetsR w n0 hv has) (hl : has.length = P.nodesV) (hn0 : n0 ≤ w.heap.size) :
    Calls Tryz.prog 33 #[pval a1 a2 a3 c1 c2 c3 P, hv] w fun e w' => ∃ v, e = .returned v ∧ RERow w.heap.size w' v (P.refE has P.nodesV) ∧ Ext w w' := by
  obtain ⟨ah, ch, rfl⟩ := hh.form
  have Hw := hid hw
  have Hlen := hid hl
  obtain ⟨hf1, hf2, hf3⟩ := hw.few
  have hN6 := nodesV_le P hw
  obtain ⟨W, hW⟩ : ∃ W, W = w.alloc (.cells (pcells a1 a2 a3 c1 c2 c3 P) 26) := ⟨_, rfl⟩
  have HX : Hid (Ext w W) := hid (by rw [hW]; exact (Ext.refl _).alloc _)
  have HBx : Hid (Blk W w.heap.size (pcells a1 a2 a3 c1 c2 c3 P) 26) := hid (by rw [hW]; exact Blk.new _ _ _)
  have HWe : Hid (W = w.alloc (.cells #[.slice a1 P.vars.length c1, .slice a2 P.funs.length c2, .slice a3 P.stmts.length c3] 26)) := hid (by rw [hW]; rfl)
  have HNo := hid (rnodesof_any a1 a2 a3 c1 c2 c3 P W n0 (h.ext HX.out) (by omega) (by omega))
  have HRu := fun k (hk : k < P.stmts.length) w1 (x : Ext w w1) => hid (rruleof_any a1 a2 a3 c1 c2 c3 P k _ (stAt_some hk) w1 n0 (h.ext x) hw)
  have HIs := fun r av w1 (p q : Int) (x : Ext w w1) (ha : IntsR w1 n0 av r.args) (hr : REdge has.length r) => hid (risedge_any a1 a2 a3 c1 c2 c3 P r av (.slice ah has.length ch) has p q w1 n0 (h.ext x) (by omega) (by omega) (by omega) ha (hh.ext x) hr)
  obtain ⟨N, hN⟩ : ∃ N, N = P.nodesV := ⟨_, rfl⟩
  rw [← hN] at HNo hN6 hl
  have HN := hid hN
  have d0 := HBx.out.av 0 rfl
  have d1 := HBx.out.av 1 rfl
  have d2 := HBx.out.av 2 rfl
  simp only [pcells, qA0, qA1, qA2] at d0 d1 d2
  rw [HWe.out] at d0 d1 d2
  unfold pval at HNo HRu HIs ⊢
  have Hn0 := hid (Nat.le_trans hn0 HX.out.size)
  clear h hw hh hW hN hl hn0
  go_enter Tryz.func33, Tryz.ntmps33
  go_wp2_with fail
  rw [← HWe.out]
  refine HNo.out.mono ?_
  intro e w1 hx
  obtain ⟨rfl, hx1⟩ := hx
  have Hx1 := hid hx1
  clear HNo hx1 d0 d1 d2
  have d2 := (HBx.out.ext Hx1.out).av 2 rfl
  simp only [pcells, qA0, qA1, qA2] at d2
  go_wp2
  go_loopw [6, 7] (fun t6 t7 wr => ∃ (k : Nat) (rs : List R2), t7 = .int .i64 (k : Int) ∧ k ≤ P.stmts.length ∧ rs.map R2.r = P.rulesRUp k ∧ wr.ownsRow W.heap.size 126 5 t6 rs.length (rs.flatMap R2.cells) ∧ (∀ x ∈ rs, IntsR wr n0 x.v x.r.args) ∧ Ext W wr) (fun _ t7 _ => P.stmts.length - (intOf t7).toNat)
  case atStart => exact ⟨0, [], rfl, Nat.zero_le _, rfl, World.ownsRow_nil _ _ _ _, (fun x h => by cases h), Hx1.out⟩
  case round =>
    obtain ⟨k, rs, rfl, hk, he, hr, ha, hx⟩ := hrel
    obtain ⟨a6, c6, rfl⟩ := row_form hr
    have hrl : rs.length ≤ k := by
      have h1 := congrArg List.length he
      rw [List.length_map] at h1
      rw [h1]
      exact rulesRUp_len P k
    have He := hid he
    have Hr := hid hr
    have Ha := hid ha
    have Hx := hid hx
    clear he hr ha hx d2
    have d0 := (HBx.out.ext Hx.out).av 0 rfl
    have d1 := (HBx.out.ext Hx.out).av 1 rfl
    have d2 := (HBx.out.ext Hx.out).av 2 rfl
    simp only [pcells, qA0, qA1, qA2] at d0 d1 d2
    by_cases hlt : k < P.stmts.length
    · have HC := HRu k hlt wr (HX.out.trans Hx.out)
      have Hsu := hid (rulesRUp_succ P k)
      obtain ⟨r, hr⟩ : ∃ r, r = P.ruleR k (P.stAt k) := ⟨_, rfl⟩
      rw [← hr] at HC Hsu
      clear HRu HIs hr
      go_wp2_with fail
      refine HC.out.mono ?_
      intro e w2 hx
      obtain ⟨av, rfl, hI, hx2⟩ := hx
      obtain ⟨aa, ca, hav, _⟩ := id hI
      subst hav
      unfold RV.val
      have HI := hid hI
      obtain ⟨V, hV⟩ : ∃ V, V = w2.alloc (.cells #[.string r.kind, .int .i64 r.a, .int .i64 r.b, .int .i64 r.k, .slice aa r.args.length ca] 126) := ⟨_, rfl⟩
      have hxV : Ext w2 V := by rw [hV]; exact (Ext.refl _).alloc _
      have HBr : Hid (Blk V w2.heap.size #[.string r.kind, .int .i64 r.a, .int .i64 r.b, .int .i64 r.k, .slice aa r.args.length ca] 126) := hid (by rw [hV]; exact Blk.new _ _ _)
      have HVe := hid hV
      have HVx := hid hxV
      have HxV := hid (Hx.out.trans (hx2.trans hxV))
      have HrV := hid (own_ext Hr.out (hx2.trans hxV))
      have HwV := hid (hx2.trans hxV)
      clear HC hI hx2 hxV hV d0 d1 d2
      cases hkb : (r.kind.toList == [98, 97, 115, 101]) with
      | true =>
        have Hn : Hid (P.rulesRUp (k + 1) = P.rulesRUp k) := hid (by rw [Hsu.out, eq_of_beq bBase_list, if_pos hkb, List.append_nil])
        have hkb' : (r.kind.toList != [98, 97, 115, 101]) = false := by rw [bne, hkb]; rfl
        clear Hsu
        go_wp2
        rw [← HVe.out]
        go_roundw
        case rel => exact ⟨k + 1, rs, by go_num, by omega, He.out.trans Hn.out.symm, HrV.out, fun x hx => (Ha.out x hx).old (HwV.out.old _), HxV.out⟩
        case measure => simp [intOf]; omega
      | false =>
        have Hn : Hid (P.rulesRUp (k + 1) = P.rulesRUp k ++ [r]) := hid (by rw [Hsu.out, eq_of_beq bBase_list, hkb]; rfl)
        have hkb' : (r.kind.toList != [98, 97, 115, 101]) = true := by rw [bne, hkb]; rfl
        obtain ⟨U, hU⟩ : ∃ U, U = V.alloc (.cells #[.string r.kind, .int .i64 r.a, .int .i64 r.b, .int .i64 r.k, .slice aa r.args.length ca] 126) := ⟨_, rfl⟩
        have HUx : Hid (Ext W U) := hid (by rw [hU]; exact HxV.out.alloc _)
        have HVU : Hid (Ext V U) := hid (by rw [hU]; exact (Ext.refl _).alloc _)
        have HUr : Hid (U.ownsRow W.heap.size 126 5 (.slice a6 rs.length c6) rs.length (rs.flatMap R2.cells)) := hid (by rw [hU]; exact own_ext HrV.out ((Ext.refl _).alloc _))
        have HUb : Hid (Blk U V.heap.size #[.string r.kind, .int .i64 r.a, .int .i64 r.b, .int .i64 r.k, .slice aa r.args.length ca] 126) := hid (by rw [hU]; exact Blk.new _ _ _)
        have HUe : Hid (U = (w2.alloc (.cells #[.string r.kind, .int .i64 r.a, .int .i64 r.b, .int .i64 r.k, .slice aa r.args.length ca] 126)).alloc (.cells #[.string r.kind, .int .i64 r.a, .int .i64 r.b, .int .i64 r.k, .slice aa r.args.length ca] 126)) := hid (by rw [hU, HVe.out])
        have HVs : Hid (V.heap.size = w2.heap.size + 1) := hid (by rw [HVe.out, heap_size_alloc])
        rw [HVs.out] at HUb
        clear Hsu hU
        go_wp2_with (at_builtin; rw [← HUe.out]; refine wpList_append_el W.heap.size HUx.out.size 125 126 (.agg #[.string ⟨#[]⟩, .int .i64 0, .int .i64 0, .int .i64 0, .slice none 0 0]) 5 64 Tryz.underlying125 rrule_info rfl (by omega) (by omega) rfl _ _ rfl (.slice a6 rs.length c6) rs.length (rs.flatMap R2.cells) rfl HUr.out (w2.heap.size + 1) [.string r.kind, .int .i64 r.a, .int .i64 r.b, .int .i64 r.k, .slice aa r.args.length ca] rfl (by simp [Value.oneCell']) rfl HUb.out (by omega) ?_; intro v' w' h1 h2 h4; obtain ⟨a', c', rfl⟩ := row_form h1; have h3 := hid (Keep.new HUx.out h2 (fun b e => (World.ownsRow.lt HUr.out b e).1)); have hold := hid (show Old n0 U w' from h2.mono fun b _ e => Nat.le_trans Hn0.out (World.ownsRow.lt HUr.out b e).1); have h1 := hid h1; clear h2 h4)
        go_roundw
        case rel =>
          refine ⟨k + 1, rs ++ [⟨r, .slice aa r.args.length ca⟩], by go_num, by omega, ?_, ?_, ?_, h3.out⟩
          · rw [List.map_append, He.out, Hn.out]; rfl
          · rw [List.length_append, List.flatMap_append]; simpa [R2.cells] using h1.out
          · intro x hx
            rcases List.mem_append.1 hx with hx | hx
            · exact ((Ha.out x hx).old ((HwV.out.trans HVU.out).old _)).old hold.out
            · obtain rfl := List.mem_singleton.1 hx
              exact (HI.out.old ((HwV.out.trans HVU.out).old _)).old hold.out
        case measure => simp [intOf]; omega
    · obtain rfl : k = P.stmts.length := by omega
      obtain ⟨V, hV⟩ : ∃ V, V = wr := ⟨_, rfl⟩
      subst hV
      have HEd := hid (rulesRUp_edge Hw.out (Nat.le_refl _))
      rw [← He.out] at HEd
      clear HRu hlt hk
      go_wp2
      clear d0 d1 d2
      go_loopw [9, 10] (fun t9 t10 wq => ∃ (a : Nat) (L : List (Int × Int)), t10 = .int .i64 (a : Int) ∧ a ≤ N ∧ L = P.refE has a ∧ wq.ownsRow V.heap.size 111 2 t9 L.length (L.flatMap eCells) ∧ Ext V wq) (fun _ t10 _ => N - (intOf t10).toNat)
      case atStart => exact ⟨0, [], rfl, Nat.zero_le _, rfl, World.ownsRow_nil _ _ _ _, Ext.refl _⟩
      case round =>
        obtain ⟨a, L, rfl, ha, hL, hr, hx⟩ := hrel
        obtain ⟨a9, c9, rfl⟩ := row_form hr
        have HL := hid hL
        have Hr9 := hid hr
        have Hx9 := hid hx
        clear hL hr hx
        by_cases haN : a < N
        · go_wp2
          go_loopw [9, 11] (fun t9 t11 wq => ∃ (b : Nat) (M : List (Int × Int)), t11 = .int .i64 (b : Int) ∧ b ≤ N ∧ M = L ++ P.rowE has a b ∧ wq.ownsRow V.heap.size 111 2 t9 M.length (M.flatMap eCells) ∧ Ext V wq) (fun _ t11 _ => N - (intOf t11).toNat)
          case atStart => exact ⟨0, L, rfl, Nat.zero_le _, by simp [PP.rowE], Hr9.out, Hx9.out⟩
          case round =>
            obtain ⟨b, M, rfl, hb, hM, hr, hx⟩ := hrel
            obtain ⟨a9', c9', rfl⟩ := row_form hr
            have hML : M.length ≤ 20000 := by
              rw [hM, List.length_append, HL.out]
              have h1 := refE_len Hw.out has (n := a) (by rw [← HN.out]; omega)
              have h2 := rowE_len P has a b
              omega
            have HM := hid hM
            have HrM := hid hr
            have HxM := hid hx
            clear hM hr hx Hr9 Hx9
            by_cases hbN : b < N
            · go_wp2
              go_loopw [12, 13] (fun t12 t13 wq => ∃ (k : Nat) (d : Bool), t13 = .int .i64 (k : Int) ∧ t12 = .bool d ∧ k ≤ rs.length ∧ d = ((rs.map R2.r).take k).any (fun r => P.isE r has a b) ∧ (a = b → k = 0) ∧ Ext V wq ∧ wq.ownsRow V.heap.size 111 2 (.slice a9' M.length c9') M.length (M.flatMap eCells)) (fun _ t13 _ => rs.length - (intOf t13).toNat)
              case atStart => exact ⟨0, false, rfl, rfl, Nat.zero_le _, by simp, fun _ => rfl, HxM.out, HrM.out⟩
              case round =>
                clear HrM HxM
                obtain ⟨k, d, rfl, rfl, hk, hd, hab, hx, hrM⟩ := hrel
                have Hd := hid hd
                have Hab := hid hab
                have HxK := hid hx
                have HrM := hid hrM
                have Hedge : Hid (P.edgeB has a b = (decide ((a : Int) ≠ (b : Int)) && (rs.map R2.r).any (fun r => P.isE r has a b))) := hid (by
                  unfold PP.edgeB
                  rw [He.out, any_rules Hw.out])
                clear hd hab hx hrM
                by_cases hkl : k < rs.length
                · cases d with
                  | true =>
                    have He2 : Hid (P.edgeB has a b = true) := hid (by
                      have hne : a ≠ b := fun e => by
                        have h0 := Hab.out e
                        have h1 := Hd.out
                        rw [h0] at h1
                        simp at h1
                      rw [Hedge.out, decide_eq_true (show (a : Int) ≠ (b : Int) from fun e => hne (by omega)), Bool.true_and, List.any_eq_true]
                      obtain ⟨r, hr1, hr2⟩ := List.any_eq_true.1 Hd.out.symm
                      exact ⟨r, List.mem_of_mem_take hr1, hr2⟩)
                    have Hrow : Hid (P.rowE has a (b + 1) = P.rowE has a b ++ [((a : Int), (b : Int))]) := hid (by rw [rowE_succ, He2.out]; rfl)
                    have HUx : Hid (Ext V (wr.alloc (.cells #[.int .i64 (a : Int), .int .i64 (b : Int)] 111))) := hid (HxK.out.alloc _)
                    have HUr : Hid ((wr.alloc (.cells #[.int .i64 (a : Int), .int .i64 (b : Int)] 111)).ownsRow V.heap.size 111 2 (.slice a9' M.length c9') M.length (M.flatMap eCells)) := hid (own_ext HrM.out ((Ext.refl _).alloc _))
                    go_wp2_with (at_builtin; refine wpList_append_el V.heap.size HUx.out.size 61 111 (.agg #[.int .i64 0, .int .i64 0]) 2 16 Tryz.underlying61 redge_info rfl (by omega) (by omega) rfl _ _ rfl (.slice a9' M.length c9') M.length (M.flatMap eCells) rfl HUr.out wr.heap.size [.int .i64 (a : Int), .int .i64 (b : Int)] rfl (by simp [Value.oneCell']) rfl (Blk.new _ _ _) (by omega) ?_; intro v' w' h1 h2 h4; obtain ⟨a', c', rfl⟩ := row_form h1; have h3 := hid (Keep.new HUx.out h2 (fun b e => (World.ownsRow.lt HUr.out b e).1)); have h1 := hid h1; clear h2 h4)
                    go_roundw
                    case rel => exact ⟨b + 1, M ++ [((a : Int), (b : Int))], by go_num, by omega, by rw [HM.out, Hrow.out, List.append_assoc], by rw [List.length_append, List.flatMap_append]; simpa [eCells] using h1.out, h3.out⟩
                    case measure => simp [intOf]; omega
                  | false =>
                    by_cases hab2 : a = b
                    · have He2 : Hid (P.edgeB has a b = false) := hid (by rw [Hedge.out, decide_eq_false (fun h => h (by rw [hab2])), Bool.false_and])
                      have hab3 : ((a : Int) != (b : Int)) = false := by rw [hab2]; simp
                      clear hab2
                      have Hrow : Hid (P.rowE has a (b + 1) = P.rowE has a b) := hid (by rw [rowE_succ, He2.out]; simp)
                      go_wp2
                      go_roundw
                      case rel => exact ⟨b + 1, M, by go_num, by omega, by rw [HM.out, Hrow.out], HrM.out, HxK.out⟩
                      case measure => simp [intOf]; omega
                    · have hab3 : ((a : Int) != (b : Int)) = true := bne_iff_ne.2 (fun h => hab2 (by omega))
                      obtain ⟨g6, cp, hge⟩ := own_some Hr.out (by omega)
                      simp only [Value.slice.injEq] at hge
                      obtain ⟨rfl, -, rfl⟩ := hge
                      obtain ⟨x, hxk⟩ : ∃ x, rs[k]? = some x := ⟨_, List.getElem?_eq_getElem hkl⟩
                      obtain ⟨q0, q1, q2, q3, q4⟩ := own_rr (own_ext Hr.out HxK.out) hxk
                      have hI := Ha.out x (List.mem_of_getElem? hxk)
                      have hE := HEd.out x.r (List.mem_map.2 ⟨x, List.mem_of_getElem? hxk, rfl⟩)
                      obtain ⟨aa, ca, hav, _⟩ := id hI
                      have hmk : (rs.map R2.r)[k]? = some x.r := by rw [List.getElem?_map, hxk]; rfl
                      obtain ⟨r, xv⟩ := x
                      simp only at hav hI hE q0 q1 q2 q3 q4 hmk
                      subst hav
                      have HC := fun w1 (y : Ext wr w1) => HIs r (.slice aa r.args.length ca) w1 (a : Int) (b : Int) (HX.out.trans (Hx.out.trans (HxK.out.trans y))) (hI.old ((HxK.out.trans y).old _)) (by rw [Hlen.out]; exact hE)
                      have Hn : Hid (((rs.map R2.r).take (k + 1)).any (fun r => P.isE r has a b) = P.isE r has a b) := hid (by rw [any_take_succ hmk, ← Hd.out, Bool.false_or])
                      obtain ⟨e, he⟩ : ∃ e, e = P.isE r has a b := ⟨_, rfl⟩
                      rw [← he] at HC Hn
                      unfold RV.val at HC
                      have j0 : ∀ w1, Keep (fun _ => False) wr w1 → w1.cell? ⟨g6, k * 5, none⟩ = some (.string r.kind) := fun w1 k => k.ext.cellx q0
                      have j1 : ∀ w1, Keep (fun _ => False) wr w1 → w1.cell? ⟨g6, k * 5 + 1, none⟩ = some (.int .i64 r.a) := fun w1 k => k.ext.cellx q1
                      have j2 : ∀ w1, Keep (fun _ => False) wr w1 → w1.cell? ⟨g6, k * 5 + 2, none⟩ = some (.int .i64 r.b) := fun w1 k => k.ext.cellx q2
                      have j3 : ∀ w1, Keep (fun _ => False) wr w1 → w1.cell? ⟨g6, k * 5 + 3, none⟩ = some (.int .i64 r.k) := fun w1 k => k.ext.cellx q3
                      have j4 : ∀ w1, Keep (fun _ => False) wr w1 → w1.cell? ⟨g6, k * 5 + 4, none⟩ = some (.slice aa r.args.length ca) := fun w1 k => k.ext.cellx q4
                      have d0 := (HBx.out.ext (Hx.out.trans HxK.out)).kc (X := fun _ => False) (fun e => e) 0 rfl
                      have d1 := (HBx.out.ext (Hx.out.trans HxK.out)).kc (X := fun _ => False) (fun e => e) 1 rfl
                      have d2 := (HBx.out.ext (Hx.out.trans HxK.out)).kc (X := fun _ => False) (fun e => e) 2 rfl
                      simp only [pcells, qA0, qA1, qA2] at d0 d1 d2
                      have Hne := hid hab2
                      clear HIs hxk q0 q1 q2 q3 q4 hI hE hmk he hab2
                      go_wp2
                      refine wp_flowT (fun _ => False) (by kernel_rfl) (by kernel_rfl) ?_
                      repeat (apply FlowT.d; (intro w1 hk; unfold does; go_simp; (try go_ints); (first | exact DetR.mk | (simp only [↓IntWalk.iteOmega, Oper.doesUpon_value]; exact DetR.mk) | (simp only [↓IntWalk.iteOmega]; go_simp; (try go_ints); exact DetR.mk))); simp only [Act.put, qS0, qS1, qS2])
                      apply FlowT.d
                      · intro w1 hk
                        unfold does
                        go_simp
                        exact CallR.det ((HC w1 hk.ext).out)
                      simp only [Act.put, qS0, qS1, qS2]
                      repeat (apply FlowT.d; (intro w1 hk; unfold does; go_simp; (try go_ints); (first | exact DetR.mk | (simp only [↓IntWalk.iteOmega, Oper.doesUpon_value]; exact DetR.mk) | (simp only [↓IntWalk.iteOmega]; go_simp; (try go_ints); exact DetR.mk))); simp only [Act.put, qS0, qS1, qS2])
                      refine FlowT.fin fun w5 hx5 hk5 => ?_
                      have Hx5 := hid (HxK.out.trans hx5)
                      have HrM5 := hid (own_ext HrM.out hx5)
                      clear hx5 hk5 j0 j1 j2 j3 j4 d0 d1 d2 HC
                      go_wp2
                      go_roundw
                      case rel => exact ⟨k + 1, e, by go_num, rfl, by omega, Hn.out.symm, fun h => absurd h Hne.out, Hx5.out, HrM5.out⟩
                      case measure => simp [intOf]; omega
                · obtain rfl : k = rs.length := by omega
                  have Hfull : Hid (d = (rs.map R2.r).any (fun r => P.isE r has a b)) := hid (by rw [Hd.out, List.take_of_length_le (by rw [List.length_map]; exact Nat.le_refl _)])
                  have He2 : Hid (P.edgeB has a b = d) := hid (by
                    rw [Hedge.out, ← Hfull.out]
                    by_cases hab2 : a = b
                    · have h0 := Hab.out hab2
                      have h1 := Hd.out
                      rw [h0] at h1
                      rw [h1]; simp
                    · rw [decide_eq_true (show (a : Int) ≠ (b : Int) from fun e => hab2 (by omega)), Bool.true_and])
                  clear hkl
                  cases d with
                  | true =>
                    have Hrow : Hid (P.rowE has a (b + 1) = P.rowE has a b ++ [((a : Int), (b : Int))]) := hid (by rw [rowE_succ, He2.out]; rfl)
                    have HUx : Hid (Ext V (wr.alloc (.cells #[.int .i64 (a : Int), .int .i64 (b : Int)] 111))) := hid (HxK.out.alloc _)
                    have HUr : Hid ((wr.alloc (.cells #[.int .i64 (a : Int), .int .i64 (b : Int)] 111)).ownsRow V.heap.size 111 2 (.slice a9' M.length c9') M.length (M.flatMap eCells)) := hid (own_ext HrM.out ((Ext.refl _).alloc _))
                    go_wp2_with (at_builtin; refine wpList_append_el V.heap.size HUx.out.size 61 111 (.agg #[.int .i64 0, .int .i64 0]) 2 16 Tryz.underlying61 redge_info rfl (by omega) (by omega) rfl _ _ rfl (.slice a9' M.length c9') M.length (M.flatMap eCells) rfl HUr.out wr.heap.size [.int .i64 (a : Int), .int .i64 (b : Int)] rfl (by simp [Value.oneCell']) rfl (Blk.new _ _ _) (by omega) ?_; intro v' w' h1 h2 h4; obtain ⟨a', c', rfl⟩ := row_form h1; have h3 := hid (Keep.new HUx.out h2 (fun b e => (World.ownsRow.lt HUr.out b e).1)); have h1 := hid h1; clear h2 h4)
                    go_roundw
                    case rel => exact ⟨b + 1, M ++ [((a : Int), (b : Int))], by go_num, by omega, by rw [HM.out, Hrow.out, List.append_assoc], by rw [List.length_append, List.flatMap_append]; simpa [eCells] using h1.out, h3.out⟩
                    case measure => simp [intOf]; omega
                  | false =>
                    have Hrow : Hid (P.rowE has a (b + 1) = P.rowE has a b) := hid (by rw [rowE_succ, He2.out]; simp)
                    go_wp2
                    go_roundw
                    case rel => exact ⟨b + 1, M, by go_num, by omega, by rw [HM.out, Hrow.out], HrM.out, HxK.out⟩
                    case measure => simp [intOf]; omega
            · obtain rfl : b = N := by omega
              have Hn : Hid (M = P.refE has (a + 1)) := hid (by rw [HM.out, HL.out, refE_succ, HN.out])
              go_wp2
              go_roundw
              case rel => exact ⟨a + 1, M, by go_num, by omega, Hn.out, HrM.out, HxM.out⟩
              case measure => simp [intOf]; omega
        · obtain rfl : a = N := by omega
          have Hn : Hid (P.refE has P.nodesV = L) := hid (by rw [HL.out, HN.out])
          go_wp2
          go_ret
          exact ⟨_, rfl, by unfold RERow; rw [Hn.out]; exact own_low Hr9.out (HX.out.trans Hx.out).size, HX.out.trans (Hx.out.trans Hx9.out)⟩
theorem own_e2 {w : World} {base g n cap : Nat} {t : TypeId} {R : List (Int × Int)} (h : w.ownsRow base t 2 (.slice (some ⟨g, 0, none⟩) n cap) n (R.flatMap eCells)) {i : Nat} {x : Int × Int} (hx : R[i]? = some x) :
    w.cell? ⟨g, i * 2, none⟩ = some (.int .i64 x.1) ∧ w.cell? ⟨g, i * 2 + 1, none⟩ = some (.int .i64 x.2) := own_e h hx
theorem edge_load {me k : Int} {s : SH} (e : Int × Int) : (s.edge me k e).load ≤ s.load + 1 := by
  unfold SH.edge
  split
  · omega
  · rw [tell_load]; omega
theorem edges_load {me k : Int} : ∀ (l : List (Int × Int)) {s : SH}, (l.foldl (SH.edge me k) s).load ≤ s.load + l.length
  | [], _ => Nat.le_refl _
  | e :: l, s => by
    have h1 := edges_load (me := me) (k := k) l (s := s.edge me k e)
    have h2 := edge_load (me := me) (k := k) (s := s) e
    rw [List.foldl_cons, List.length_cons]
    omega
set_option maxRecDepth 100000 in
set_option maxHeartbeats 3200000 in
theorem shardfire_b (c : SC) (s : SH) (r : RV) (aa : Option Addr) (ca : Nat) (o : Nat) (w : World) (G F : Nat → Prop) (g : Nat) (hS : ShAt w G F g c s) (ho : o < c.P.objectsV) (ha : IntsF w F (.slice aa r.args.length ca) r.args) (hE : r.fired = true → ∀ e ∈ c.P.fires r (o : Int), EdIn c.P e) (hld : s.load ≤ 800000000) (hkc : (r.kind.toList == [99, 97, 108, 108]) = true) (hin : (c.P.nodesV : Int) ≤ (o : Int)) :
    Calls Tryz.prog 107 #[.pointer (some ⟨g, 0, none⟩), r.val (.slice aa r.args.length ca), .int .i64 (o : Int)] w fun x w' => x = .returned (.tuple #[]) ∧ ShAt w' G F g c (s.fire c.P (c.me : Nat) (c.k : Nat) r (o : Int)) ∧ Keep (fun b => ¬ F b) w w' := by
  have hS0 := hS
  obtain ⟨m1, m2, f1, f2, vt, vo, ts, os, h⟩ := hS
  have hw := h.con.well
  obtain ⟨hn1, hn2⟩ := hw.nodes
  obtain ⟨W, hW⟩ : ∃ W, W = w.alloc (.cells #[.string r.kind, .int .i64 r.a, .int .i64 r.b, .int .i64 r.k, .slice aa r.args.length ca] 90) := ⟨_, rfl⟩
  have HX : Hid (Ext w W) := hid (by rw [hW]; exact (Ext.refl _).alloc _)
  have HBx : Hid (Blk W w.heap.size #[.string r.kind, .int .i64 r.a, .int .i64 r.b, .int .i64 r.k, .slice aa r.args.length ca] 90) := hid (by rw [hW]; exact Blk.new _ _ _)
  have HWe : Hid (W = w.alloc (.cells #[.string r.kind, .int .i64 r.a, .int .i64 r.b, .int .i64 r.k, .slice aa r.args.length ca] 90)) := hid hW
  have HSa := hid (hS0.ext HX.out)
  have HS := hid (h.ext HX.out)
  have HA := hid (ha.keep (HX.out.keep fun _ => False) (fun _ _ h => h) fun _ h => h)
  have al := ha.form
  have hal : (r.args.length : Int) ≤ 9223372036854775807 := by obtain ⟨a, cap, h1, h2, h3, _⟩ := al; omega
  have Hw := hid hw
  have HE := hid hE
  have Hld := hid hld
  have hob : o < 126 := by omega
  have Ho := hid ho
  have m0 := HBx.out.av 0 rfl
  have m1' := HBx.out.av 1 rfl
  have m2' := HBx.out.av 2 rfl
  have b6 := HS.out.blk.av 6 rfl
  simp only [shCells, qA0, qA1, qA2] at m0 m1' m2' b6
  unfold RV.val
  clear hS0 h hW ha al hw hE hld ho
  obtain ⟨N, hN0⟩ : ∃ N, N = o - c.P.nodesV := ⟨_, rfl⟩
  have hN : N < c.P.funs.length := by have := Ho.out; unfold PP.objectsV at this; omega
  have hsub : (o : Int) - (c.P.nodesV : Int) = (N : Int) := by omega
  have hFd := HS.out.con.funs
  obtain ⟨af, cf, hvf, -⟩ := hFd.form
  rw [hvf] at hFd
  obtain ⟨yf, f, afp, cfp, hyf, hfk, e0, e1, e2, hIp⟩ := (FunsF.toR hFd fun b hb => HS.out.flt b (HS.out.gf b hb)).at hN
  have hfm : f ∈ c.P.funs := List.mem_of_getElem? hfk
  have hq4 := called_few Hw.out hfm r
  have hpf := (PP.goodF (PP.funs_ok Hw.out.1) hfm).few
  obtain ⟨q, hq⟩ : ∃ q, q = calledV f r := ⟨_, rfl⟩
  have hfr : c.P.fires r (o : Int) = q := by
    unfold PP.fires kCall
    rw [hkc, cond_true]
    have hfv : c.P.funV (o : Int) = (N : Int) := by
      unfold PP.funV
      rw [if_pos (by omega)]; omega
    unfold PP.callsOf
    rw [hfv, if_pos (by omega), hq]
    show calledV ((c.P.funs.getD N _)) r = _
    rw [List.getD_eq_getElem?_getD, hfk]; rfl
  have Hr : Hid (s.fire c.P (c.me : Nat) (c.k : Nat) r (o : Int) = q.foldl (SH.edge (c.me : Nat) (c.k : Nat)) s) := hid (by
    unfold SH.fire RV.fired kCall
    rw [hfr, hkc, Bool.or_true]; rfl)
  have hfd : r.fired = true := by unfold RV.fired kCall; rw [hkc, Bool.or_true]
  have HSq : Hid (∀ e ∈ q, EdIn c.P e) := hid fun e he => HE.out hfd e (by rw [hfr]; exact he)
  have HCl := fun wx (x : Ext W wx) => hid (conscalled_any f r (.slice afp f.params.length cfp) (.slice aa r.args.length ca) wx W.heap.size (hIp.old (x.old _)) ((HA.out.toR HS.out.flt).old (x.old _)) (by omega))
  rw [← hq] at HCl hq4
  unfold RV.val at HCl
  subst hyf
  have b1 := HS.out.blk.av 1 rfl
  have b1k := HS.out.blk.kc (X := fun _ => False) (fun e => e) 1 rfl
  have b6k := HS.out.blk.kc (X := fun _ => False) (fun e => e) 6 rfl
  have f0 : ∀ wx, Keep (fun _ => False) W wx → wx.cell? (yf.add (N * 3)) = some (.string f.name) := fun wx kk => kk.ext.cellx e0
  have f1' : ∀ wx, Keep (fun _ => False) W wx → wx.cell? ⟨(yf.add (N * 3)).block, (yf.add (N * 3)).off + 1, none⟩ = some (.slice afp f.params.length cfp) := fun wx kk => kk.ext.cellx e1
  have f2' : ∀ wx, Keep (fun _ => False) W wx → wx.cell? ⟨(yf.add (N * 3)).block, (yf.add (N * 3)).off + 2, none⟩ = some (.int .i64 f.ret) := fun wx kk => kk.ext.cellx e2
  have k0 := HBx.out.kc (X := fun _ => False) (fun e => e) 0 rfl
  have k1 := HBx.out.kc (X := fun _ => False) (fun e => e) 1 rfl
  have k2 := HBx.out.kc (X := fun _ => False) (fun e => e) 2 rfl
  have k3 := HBx.out.kc (X := fun _ => False) (fun e => e) 3 rfl
  have k4 := HBx.out.kc (X := fun _ => False) (fun e => e) 4 rfl
  simp only [shCells, qA0, qA1, qA2] at b1 b1k b6k k0 k1 k2 k3 k4
  rw [hvf] at b1 b1k
  have hfl : c.P.funs.length ≤ 1000000 := by have := Hw.out.few; omega
  clear hfk e0 e1 e2 hIp hfm hq hfr hvf hFd hfd hN0
  generalize c.P.nodesV = NN at *
  go_enter Tryz.func107, Tryz.ntmps107
  rw [HWe.out] at m0 m1' m2' b6
  go_wp2
  rw [← HWe.out]
  refine wp_flow (fun _ => False) (by kernel_rfl) (by kernel_rfl) ?_
  apply Flow.d 0 _ rfl (by simp) (by kernel_rfl)
  · intro w1 hk; unfold does; go_simp; (try go_ints); exact DetR.mk
  simp only [qA0, qA1, qA2, Act.put, qS0, qS1, qS2]
  apply Flow.d 1 _ rfl (by simp) (by kernel_rfl)
  · intro w1 hk; unfold does; go_simp; (try go_ints); exact DetR.mk
  simp only [qA0, qA1, qA2, Act.put, qS0, qS1, qS2]
  apply Flow.d 2 _ rfl (by simp) (by kernel_rfl)
  · intro w1 hk; unfold does; go_simp; (try go_ints); exact DetR.mk
  simp only [qA0, qA1, qA2, Act.put, qS0, qS1, qS2]
  apply Flow.d 3 _ rfl (by simp) (by kernel_rfl)
  · intro w1 hk; unfold does; go_simp; (try go_ints); exact DetR.mk
  simp only [qA0, qA1, qA2, Act.put, qS0, qS1, qS2]
  apply Flow.d 4 _ rfl (by simp) (by kernel_rfl)
  · intro w1 hk; unfold does; go_simp; (try go_ints); exact DetR.mk
  simp only [qA0, qA1, qA2, Act.put, qS0, qS1, qS2]
  apply Flow.d 5 _ rfl (by simp) (by kernel_rfl)
  · intro w1 hk; unfold does; go_simp; (try go_ints); exact DetR.mk
  simp only [qA0, qA1, qA2, Act.put, qS0, qS1, qS2]
  apply Flow.d 6 _ rfl (by simp) (by kernel_rfl)
  · intro w1 hk; unfold does; go_simp; (try go_ints); exact DetR.mk
  simp only [qA0, qA1, qA2, Act.put, qS0, qS1, qS2]
  apply Flow.d 7 _ rfl (by simp) (by kernel_rfl)
  · intro w1 hk; unfold does; go_simp; (try go_ints); exact DetR.mk
  simp only [qA0, qA1, qA2, Act.put, qS0, qS1, qS2]
  apply Flow.d 8 _ rfl (by simp) (by kernel_rfl)
  · intro w1 hk; unfold does; go_simp; (try go_ints); exact DetR.mk
  simp only [qA0, qA1, qA2, Act.put, qS0, qS1, qS2]
  apply Flow.d 9 _ rfl (by simp) (by kernel_rfl)
  · intro w1 hk; unfold does; go_simp; (try go_ints); exact DetR.mk
  simp only [qA0, qA1, qA2, Act.put, qS0, qS1, qS2]
  apply Flow.d 10 _ rfl (by simp) (by kernel_rfl)
  · intro w1 hk; unfold does; go_simp; (try go_ints); exact DetR.mk
  simp only [qA0, qA1, qA2, Act.put, qS0, qS1, qS2]
  apply Flow.d 11 _ rfl (by simp) (by kernel_rfl)
  · intro w1 hk; unfold does; go_simp; (try go_ints); exact DetR.mk
  simp only [qA0, qA1, qA2, Act.put, qS0, qS1, qS2]
  apply Flow.d 12 _ rfl (by simp) (by kernel_rfl)
  · intro w1 hk; unfold does; go_simp; (try go_ints); exact DetR.mk
  simp only [qA0, qA1, qA2, Act.put, qS0, qS1, qS2]
  apply Flow.d 13 _ rfl (by simp) (by kernel_rfl)
  · intro w1 hk; unfold does; go_simp; (try go_ints); exact DetR.mk
  simp only [qA0, qA1, qA2, Act.put, qS0, qS1, qS2]
  apply Flow.d 16 _ rfl (by simp) (by kernel_rfl)
  · intro w1 hk; unfold does; go_simp; (try go_ints); exact DetR.mk
  simp only [qA0, qA1, qA2, Act.put, qS0, qS1, qS2]
  refine Flow.one 14 _ rfl (by kernel_rfl) (fun v w' => (∃ a c, v = .slice a q.length c) ∧ ERow w.heap.size w' v q ∧ Ext W w') (fun _ _ _ ⟨h1, h2, h3⟩ y => ⟨h1, h2.ext y, h3.trans y⟩) (fun w2 hC hk2 => ?_) ?_
  · unfold does
    go_simp
    refine CallR.act ((HCl w2 hC).out.mono ?_)
    rintro e w3 ⟨v, rfl, hr, hx⟩
    exact ⟨v, rfl, hk2.trans (hx.keep _), row_form hr, hr.low (HX.out.trans hC).size, hC.trans hx⟩
  rintro _ ⟨_, ⟨a8, c8, rfl⟩, _, _⟩
  simp only [qA0, qA1, qA2, Act.put, qS0, qS1, qS2]
  apply Flow.d 15 _ rfl (by simp) (by kernel_rfl)
  · intro w1 hk; unfold does; go_simp; (try go_ints); exact DetR.mk
  simp only [qA0, qA1, qA2, Act.put, qS0, qS1, qS2]
  refine Flow.fin (by kernel_rfl) fun w4 hC4 hk4 => ?_
  obtain ⟨_, h5, h6⟩ := hC4
  have Hx4 := hid (HX.out.trans h6)
  have H5 := hid h5
  have HS4 : Hid (ShAt w4 G (fun b => F b ∨ (W.heap.size ≤ b ∧ b < w4.heap.size)) g c s) := hid (HSa.out.frz h6)
  have Hrf : Hid (∀ b, (Value.slice a8 q.length c8).ownBlock = some b → F b ∨ (W.heap.size ≤ b ∧ b < w4.heap.size)) := hid fun b hb => by
    have h1 := World.ownsRow.lt h5 b hb
    rcases Nat.lt_or_ge b W.heap.size with g1 | g1
    · exact .inr ⟨by
        have h2 : W.heap.size = w.heap.size + 1 := by rw [HWe.out, heap_size_alloc]
        have h3 : b ≠ w.heap.size := by
          rintro rfl
          obtain ⟨c', hc⟩ := own_ty h5 hb
          exact (HBx.out.ext h6).ty_ne hc (by decide) rfl
        omega, h1.2⟩
    · exact .inr ⟨g1, h1.2⟩
  have HGF := hid HS.out.gf
  clear h5 h6 hk4 HCl f0 f1' f2' b1 b1k b6k k0 k1 k2 k3 k4 m0 m1' m2' b6 HS
  generalize hF' : (fun b => F b ∨ (W.heap.size ≤ b ∧ b < w4.heap.size)) = F' at HS4
  have HF1 : Hid (∀ b, F b → F' b) := hid fun b hb => by rw [← hF']; exact .inl hb
  have HrF : Hid (∀ b, (Value.slice a8 q.length c8).ownBlock = some b → F' b) := hid fun b hb => by rw [← hF']; exact Hrf.out b hb
  clear hF' Hrf
  go_wp2
  go_loopw [36] (fun t36 wr => ∃ k : Nat, t36 = .int .i64 (k : Int) ∧ k ≤ q.length ∧ ShAt wr G F' g c ((q.take k).foldl (SH.edge (c.me : Nat) (c.k : Nat)) s) ∧ ERow w.heap.size wr (.slice a8 q.length c8) q ∧ Keep (fun b => ¬ F b) w wr) (fun t36 _ => q.length - (intOf t36).toNat)
  case atStart => exact ⟨0, rfl, Nat.zero_le _, HS4.out, H5.out, Hx4.out.keep _⟩
  case round =>
    obtain ⟨k, rfl, hk, hS, hR, hK⟩ := hrel
    have HR := hid hR
    have HK := hid hK
    by_cases hlt : k < q.length
    · obtain ⟨x, hqx⟩ : ∃ x, q[k]? = some x := ⟨_, List.getElem?_eq_getElem hlt⟩
      obtain ⟨g8, cp8, hge⟩ := own_some hR (by omega)
      simp only [Value.slice.injEq] at hge
      obtain ⟨rfl, -, rfl⟩ := hge
      obtain ⟨q0, q1⟩ := own_e2 hR hqx
      obtain ⟨⟨k1, k2⟩, k3, k4⟩ := HSq.out x (List.mem_of_getElem? hqx)
      have Hn : Hid ((q.take (k + 1)).foldl (SH.edge (c.me : Nat) (c.k : Nat)) s = SH.edge (c.me : Nat) (c.k : Nat) ((q.take k).foldl (SH.edge (c.me : Nat) (c.k : Nat)) s) x) := hid (by rw [List.take_add_one, hqx, List.foldl_append]; rfl)
      obtain ⟨x1, x2⟩ := x
      simp only at q0 q1 k1 k2 k3 k4
      obtain ⟨i, rfl⟩ := Int.eq_ofNat_of_zero_le k1
      obtain ⟨j, rfl⟩ := Int.eq_ofNat_of_zero_le k3
      obtain ⟨wA, hwA⟩ : ∃ wA, wA = wr.alloc (.cells #[.int .i64 (i : Int), .int .i64 (j : Int)] 95) := ⟨_, rfl⟩
      have hxA : Ext wr wA := by rw [hwA]; exact (Ext.refl _).alloc _
      have HxA := hid hxA
      have hload : ((q.take k).foldl (SH.edge (c.me : Nat) (c.k : Nat)) s).load ≤ 900000000 := by
        have h1 := edges_load (me := (c.me : Nat)) (k := (c.k : Nat)) (q.take k) (s := s)
        rw [List.length_take] at h1
        have := Hld.out
        omega
      have hnv := Hw.out.nodes
      have HE2 := hid (shardedge_any c ((q.take k).foldl (SH.edge (c.me : Nat) (c.k : Nat)) s) i j wA G F' g (hS.ext hxA) (by omega) (by omega) hload)
      have HwA := hid hwA
      clear hS hR hK hqx k1 k2 k3 k4 hxA hwA hload hnv
      go_wp2_with fail
      rw [← HwA.out]
      refine HE2.out.mono ?_
      intro z w5 hx
      obtain ⟨rfl, hS5, hK5⟩ := hx
      have HS5 := hid hS5
      have HK5 := hid hK5
      clear hS5 hK5 HE2 q0 q1
      go_wp2
      go_roundw
      case rel =>
        refine ⟨k + 1, by go_num, by omega, ?_, ?_, ?_⟩
        · rw [Hn.out]; exact HS5.out
        · exact row_keep (HR.out.ext HxA.out) HK5.out fun b hb hx => hx (HrF.out b hb)
        · exact (HK.out.ext_r HxA.out).trans (HK5.out.mono fun b _ hx hF => hx (HF1.out b hF))
      case measure => simp [intOf]; omega
    · obtain rfl : k = q.length := by omega
      rw [List.take_length] at hS
      have HSz := hid (hS.less HGF.out HF1.out)
      clear hS hR hK
      go_wp2
      go_end0
      exact ⟨rfl, by rw [Hr.out]; exact HSz.out, HK.out⟩
theorem shardfire_any (c : SC) (s : SH) (r : RV) (aa : Option Addr) (ca : Nat) (o : Nat) (w : World) (G F : Nat → Prop) (g : Nat) (hS : ShAt w G F g c s) (ho : o < c.P.objectsV) (ha : IntsF w F (.slice aa r.args.length ca) r.args) (hE : r.fired = true → ∀ e ∈ c.P.fires r (o : Int), EdIn c.P e) (hld : s.load ≤ 800000000) :
    Calls Tryz.prog 107 #[.pointer (some ⟨g, 0, none⟩), r.val (.slice aa r.args.length ca), .int .i64 (o : Int)] w fun x w' => x = .returned (.tuple #[]) ∧ ShAt w' G F g c (s.fire c.P (c.me : Nat) (c.k : Nat) r (o : Int)) ∧ Keep (fun b => ¬ F b) w w' := by
  cases hkc : (r.kind.toList == [99, 97, 108, 108]) with
  | true =>
    by_cases hin : (o : Int) < (c.P.nodesV : Int)
    · exact shardfire_a c s r aa ca o w G F g hS ho ha hE hld hkc hin
    · exact shardfire_b c s r aa ca o w G F g hS ho ha hE hld hkc (by omega)
  | false =>
  cases hkl : (r.kind.toList == [108, 111, 97, 100]) with
  | true =>
    by_cases hin : (o : Int) < (c.P.nodesV : Int)
    · exact shardfire_c c s r aa ca o w G F g hS ho ha hE hld hkc hkl hin
    · exact shardfire_d c s r aa ca o w G F g hS ho ha hE hld hkc hkl (by omega)
  | false =>
  cases hks : (r.kind.toList == [115, 116, 111, 114, 101]) with
  | true =>
    by_cases hin : (o : Int) < (c.P.nodesV : Int)
    · exact shardfire_e c s r aa ca o w G F g hS ho ha hE hld hkc hkl hks hin
    · exact shardfire_f c s r aa ca o w G F g hS ho ha hE hld hkc hkl hks (by omega)
  | false => exact shardfire_g c s r aa ca o w G F g hS ho ha hE hld hkc hkl hks
theorem asks_load {P : PP} {me k : Int} (hw : P.Well) (s : SH) {f : Int × Int} (h1 : 0 ≤ f.1 ∧ f.1 < P.nodesV) (h2 : 0 ≤ f.2 ∧ f.2 < P.objectsV) (j : Nat) : ((P.rulesV.take j).foldl (SH.ask P me k f) s).load ≤ s.load + 320 := by
  have hl := rulesV_len P
  have hf := hw.few
  have h := (fold_adds (SH.ask P me k f) 4 (P.rulesV.take j) s fun r hr u => ask_adds (me := me) (k := k) hw u h1 h2 (List.mem_of_mem_take hr)).load
  rw [List.length_take] at h
  have : 4 * min j P.rulesV.length ≤ 4 * 80 := by omega
  omega
set_option maxRecDepth 100000 in
set_option maxHeartbeats 12800000 in
theorem shardcame_any (c : SC) (s : SH) (a b : Nat) (w : World) (G F : Nat → Prop) (g : Nat) (hS : ShAt w G F g c s) (hok : s.Ok c.P (c.me : Nat) (c.k : Nat)) (ha : a < c.P.nodesV) (hb : b < c.P.objectsV) (hld : s.load ≤ 700000000) :
    Calls Tryz.prog 81 #[.pointer (some ⟨g, 0, none⟩), .int .i64 (a : Int), .int .i64 (b : Int)] w fun x w' => x = .returned (.tuple #[]) ∧ ShAt w' G F g c (s.came c.P (c.me : Nat) (c.k : Nat) ((a : Int), (b : Int))) ∧ Keep (fun b => ¬ F b) w w' := by
  have hS0 := hS
  obtain ⟨m1, m2, f1, f2, vt, vo, ts, os, h⟩ := hS
  have hnn := h.con.well.nodes
  have ha' : a < 126 := by omega
  have hb' : b < 126 := by omega
  have Hn126 := hid (hok.nxt126 h.con.well)
  have Hw := hid h.con.well
  have Han := hid ha
  have Hbo := hid hb
  obtain ⟨v, hv, l1, l2⟩ := h.mm1.look2 (b := (a : Int)) (a := (b : Int)) (by omega) (by omega)
  have HS := hid h
  have HSa := hid hS0
  have Hld := hid hld
  have b8a := h.blk.av 8 rfl
  simp only [shCells, qA0, qA1, qA2] at b8a
  clear hS0 hok hld hnn
  by_cases hm : ((a : Int), (b : Int)) ∈ s.has
  · have Hr : Hid (s.came c.P (c.me : Nat) (c.k : Nat) ((a : Int), (b : Int)) = s) := hid (by rw [came_eq, if_pos hm])
    rw [decide_eq_true hm] at l2
    clear hm h hv ha hb
    go_enter Tryz.func81, Tryz.ntmps81
    go_wp2
    refine bodyPost_ret (v := .tuple #[]) (results_none (by kernel_rfl) _ _ _) rfl ?_
    exact ⟨rfl, by rw [Hr.out]; exact HSa.out, Keep.refl _ _⟩
  · rw [decide_eq_false hm] at l2
    have Hce : Hid (s.came c.P (c.me : Nat) (c.k : Nat) ((a : Int), (b : Int)) = c.P.rulesV.foldl (SH.ask c.P (c.me : Nat) (c.k : Nat) ((a : Int), (b : Int))) (s.sent (c.me : Nat) (c.k : Nat) ((a : Int), (b : Int)))) := hid (by rw [came_eq, if_neg hm])
    clear hm ha hb HSa
    rcases h.mm1.val (a : Int) with ⟨g1, -⟩ | ⟨q, g1, -, -⟩
    · rw [g1] at hv
      simp only [Option.getD_none, Value.map.injEq] at hv
      subst hv
      obtain ⟨w2, hup, hM2, hI2, hK2⟩ := room_run h.mm1 g1 (by omega)
      have HS2 := hid (h.setHas hK2 hM2 hI2)
      have HK2 : Hid (Keep (fun b => ¬ F b) w w2) := hid (hK2.mono fun q _ hq => hq.elim (fun e => h.own q (.inr (.inl e))) fun hi => h.own q (.inr (.inr (.inr (.inl hi)))))
      have hmm := @run_makeMap Tryz.prog
      have heq := shmmEql_none
      have Hf2 : Hid ((fun l => if l = (a : Int) then some (.map (some w.heap.size)) else f1 l) (a : Int) = some (Value.map (some w.heap.size))) := hid (by simp)
      generalize (fun l => if l = (a : Int) then some (.map (some w.heap.size)) else f1 l) = f1' at HS2 Hf2
      clear h g1 hM2 hI2 hK2
      go_enter Tryz.func81, Tryz.ntmps81
      have hfx := Hf2.out
      obtain ⟨Kq, Sq⟩ := HS2.out.mm1.at hfx
      have l3 := HS2.out.mm1.look1 (b := (a : Int)) (by omega)
      rw [hfx] at l3
      simp only [Option.getD_some] at l3
      obtain ⟨w3, hput, hk3, hs3, hkp3⟩ := run_kmap_put_stm Tryz.underlying99 Kq Sq (k := (b : Int)) (by omega) (.bool true)
      obtain ⟨hM3, hkp⟩ := HS2.out.mm1.put hfx hk3 hs3 hkp3
      have HS3 := hid (HS2.out.setHas hkp hM3 fun q hq => .inl hq)
      have HK3 : Hid (Keep (fun b => ¬ F b) w w3) := hid (HK2.out.trans (hkp.mono fun q _ hq => hq.elim (fun e => HS2.out.own q (.inr (.inl e))) fun hi => HS2.out.own q (.inr (.inr (.inr (.inl hi))))))
      have l4 := HS3.out.mm2.look1 (b := (a : Int)) (by omega)
      have HKy := hid (shardkeys_any (a : Int) w3 HS3.out.mm2 Hn126.out)
      obtain ⟨vk, hvk⟩ : ∃ vk, vk = (f2 (a : Int)).getD (.map none) := ⟨_, rfl⟩
      rw [← hvk] at l4 HKy
      have b8 := HS2.out.blk.av 8 rfl
      have b9 := HS3.out.blk.av 9 rfl
      simp only [shCells, qA0, qA1, qA2] at b9 b8
      clear hfx Kq Sq hk3 hs3 hkp3 hM3 hkp hvk
      go_wp2_with fail
      refine HKy.out.mono ?_
      intro e w4 hx
      obtain ⟨v4, rfl, hr4, hx4⟩ := hx
      have Hfl : Hid ((keysL s.nxt (a : Int)).foldl (SH.sendTo (c.me : Nat) (c.k : Nat) (b : Int)) { s with has := s.has ++ [((a : Int), (b : Int))] } = s.sent (c.me : Nat) (c.k : Nat) ((a : Int), (b : Int))) := hid rfl
      have Hin : Hid (∀ o ∈ keysL s.nxt (a : Int), 0 ≤ o ∧ o < 126) := hid fun o ho => (keysL_in ho).2
      have hlen := keysL_few s.nxt (a : Int)
      generalize keysL s.nxt (a : Int) = L at hr4 Hfl Hin hlen
      obtain ⟨av, cv, rfl⟩ := row_form hr4
      have HS4 : Hid (ShAt w4 G (fun b => F b ∨ (w3.heap.size ≤ b ∧ b < w4.heap.size)) g c { s with has := s.has ++ [((a : Int), (b : Int))] }) := hid (ShAt.frz ⟨_, _, _, _, _, _, _, _, HS3.out⟩ hx4)
      have Hrf : Hid (∀ q, (Value.slice av L.length cv).ownBlock = some q → F q ∨ (w3.heap.size ≤ q ∧ q < w4.heap.size)) := hid fun q hq => .inr (hr4.lt hq)
      have HR4 := hid hr4
      have HK4 := hid (HK3.out.ext_r hx4)
      have HGF := hid HS3.out.gf
      obtain ⟨s1, hs1⟩ : ∃ s1 : SH, s1 = { s with has := s.has ++ [((a : Int), (b : Int))] } := ⟨_, rfl⟩
      have Hld1 : Hid (s1.load ≤ 700000000) := hid (by rw [hs1]; exact Hld.out)
      rw [← hs1] at HS4 Hfl
      generalize hF' : (fun b => F b ∨ (w3.heap.size ≤ b ∧ b < w4.heap.size)) = F' at HS4
      have HF1 : Hid (∀ b, F b → F' b) := hid fun b hb => by rw [← hF']; exact .inl hb
      have HrF : Hid (∀ b, (Value.slice av L.length cv).ownBlock = some b → F' b) := hid fun b hb => by rw [← hF']; exact Hrf.out b hb
      clear HKy hr4 hx4 l3 l4 hput b9 b8 HS3 HK3 Hrf hF' hs1
      go_wp2
      go_loopw [47] (fun t47 wr => ∃ j : Nat, t47 = .int .i64 (j : Int) ∧ j ≤ L.length ∧ ShAt wr G F' g c ((L.take j).foldl (SH.sendTo (c.me : Nat) (c.k : Nat) (b : Int)) s1) ∧ IRow w3.heap.size wr (.slice av L.length cv) L ∧ Keep (fun b => ¬ F b) w wr) (fun t47 _ => L.length - (intOf t47).toNat)
      case atStart => exact ⟨0, rfl, Nat.zero_le _, HS4.out, HR4.out, HK4.out⟩
      case round =>
        obtain ⟨j, rfl, hj, hS5, hR5, hK5⟩ := hrel
        have HR5 := hid hR5
        have HK5 := hid hK5
        by_cases hlt : j < L.length
        · obtain ⟨x, hqx⟩ : ∃ x, L[j]? = some x := ⟨_, List.getElem?_eq_getElem hlt⟩
          obtain ⟨g8, cp8, hge⟩ := own_some hR5 (by omega)
          simp only [Value.slice.injEq] at hge
          obtain ⟨rfl, -, rfl⟩ := hge
          have q0 := own_i hR5 hqx
          obtain ⟨hx0, hx1⟩ := Hin.out x (List.mem_of_getElem? hqx)
          obtain ⟨o, rfl⟩ := Int.eq_ofNat_of_zero_le hx0
          have Hn : Hid ((L.take (j + 1)).foldl (SH.sendTo (c.me : Nat) (c.k : Nat) (b : Int)) s1 = SH.tell (c.me : Nat) (c.k : Nat) ((L.take j).foldl (SH.sendTo (c.me : Nat) (c.k : Nat) (b : Int)) s1) (o : Nat) 100 [(o : Int), (b : Int)]) := hid (by rw [List.take_add_one, hqx, List.foldl_append]; rfl)
          have hl5 : ((L.take j).foldl (SH.sendTo (c.me : Nat) (c.k : Nat) (b : Int)) s1).load ≤ 900000000 := by
            rw [sendsTo_load, List.length_take]
            have := Hld1.out
            omega
          obtain ⟨wA, hwA⟩ : ∃ wA, wA = wr.alloc (.cells #[.int .i64 (o : Int), .int .i64 (b : Int)] 3) := ⟨_, rfl⟩
          have hxA : Ext wr wA := by rw [hwA]; exact (Ext.refl _).alloc _
          have HxA := hid hxA
          have hrow : IRow 0 wA (.slice (some ⟨wr.heap.size, 0, none⟩) 2 2) [(o : Int), (b : Int)] := by
            rw [hwA]
            exact irow_two wr o b
          have HT := hid (shardtell_any c ((L.take j).foldl (SH.sendTo (c.me : Nat) (c.k : Nat) (b : Int)) s1) o 100 [(o : Int), (b : Int)] _ wA G F' g (hS5.ext hxA) hrow (by omega) hl5)
          have HwA := hid hwA
          clear hS5 hR5 hK5 hqx hx0 hx1 hxA hwA hl5 hrow
          go_wp2_with fail
          rw [← HwA.out]
          refine HT.out.mono ?_
          intro z w6 hx
          obtain ⟨rfl, hS6, hK6⟩ := hx
          have HS6 := hid hS6
          have HK6 := hid hK6
          clear hS6 hK6 HT q0
          go_wp2
          go_roundw
          case rel =>
            refine ⟨j + 1, by go_num, by omega, ?_, ?_, ?_⟩
            · rw [Hn.out]; exact HS6.out
            · exact row_keep (own_ext HR5.out HxA.out) HK6.out fun b hb hx => hx (HrF.out b hb)
            · exact (HK5.out.ext_r HxA.out).trans (HK6.out.mono fun b _ hx hF => hx (HF1.out b hF))
          case measure => simp [intOf]; omega
        · obtain rfl : j = L.length := by omega
          rw [List.take_length, Hfl.out] at hS5
          have hl2 : (s.sent (c.me : Nat) (c.k : Nat) ((a : Int), (b : Int))).load ≤ 700000200 := by
            rw [← Hfl.out, sendsTo_load]
            have := Hld1.out
            omega
          have HS2 := hid (hS5.less HGF.out HF1.out)
          have Hc2 := Hce
          generalize s.sent (c.me : Nat) (c.k : Nat) ((a : Int), (b : Int)) = s2 at HS2 hl2 Hc2
          have Hl2 := hid hl2
          have HK2 := hid hK5
          clear hS5 hR5 hK5 hl2 HS4 HR4 HK4 HF1 HrF
          obtain ⟨m1b, m2b, f1b, f2b, vtb, vob, tsb, osb, hh⟩ := HS2.out
          have b3 := hh.blk.av 3 rfl
          simp only [shCells, qA0, qA1, qA2] at b3
          obtain ⟨ar, cr, hvr⟩ := row_form hh.con.rrow
          rw [hvr] at b3
          have hR80 : c.P.rulesV.length ≤ 80 := by have := Hw.out.few; rw [rulesV_len]; omega
          have hRe : Hid (c.P.rulesV.length = c.rs.length) := hid (by rw [← hh.con.req, List.length_map])
          have Hvr := hid hvr
          clear hh hvr
          go_wp2
          go_loopw [63] (fun t63 wr => ∃ j : Nat, t63 = .int .i64 (j : Int) ∧ j ≤ c.P.rulesV.length ∧ ShAt wr G F g c ((c.P.rulesV.take j).foldl (SH.ask c.P (c.me : Nat) (c.k : Nat) ((a : Int), (b : Int))) s2) ∧ Keep (fun b => ¬ F b) w wr) (fun t63 _ => c.P.rulesV.length - (intOf t63).toNat)
          case atStart => exact ⟨0, rfl, Nat.zero_le _, HS2.out, HK2.out⟩
          case round =>
            clear b3
            obtain ⟨j, rfl, hj, hS9, hK9⟩ := hrel
            have HK9 := hid hK9
            by_cases hlt : j < c.P.rulesV.length
            · obtain ⟨T0, hT0⟩ : ∃ T0, T0 = (c.P.rulesV.take j).foldl (SH.ask c.P (c.me : Nat) (c.k : Nat) ((a : Int), (b : Int))) s2 := ⟨_, rfl⟩
              rw [← hT0] at hS9
              have HS9 := hid hS9
              obtain ⟨m1', m2', f1', f2', vt', vo', ts', os', hh⟩ := hS9
              have hrr := hh.con.rrow
              rw [Hvr.out] at hrr
              obtain ⟨gr, cr', hge⟩ := own_some hrr (by omega)
              simp only [Value.slice.injEq] at hge
              obtain ⟨rfl, -, rfl⟩ := hge
              obtain ⟨x, hxk⟩ : ∃ x, c.rs[j]? = some x := ⟨_, List.getElem?_eq_getElem (by rw [← hRe.out]; exact hlt)⟩
              obtain ⟨q0, q1, q2, q3, q4⟩ := own_r hrr hxk
              have hI := hh.con.rargs x (List.mem_of_getElem? hxk)
              obtain ⟨aa, ca, hav, -⟩ := hI.form
              have hsk : c.P.rulesV[j]? = some x.r := by rw [← hh.con.req, List.getElem?_map, hxk]; rfl
              have hgf := hh.gf
              obtain ⟨r, xv⟩ := x
              simp only at hav q0 q1 q2 q3 q4 hI hsk
              subst hav
              have Hrv : Hid (r ∈ c.P.rulesV) := hid (List.mem_of_getElem? hsk)
              have Hn : Hid ((c.P.rulesV.take (j + 1)).foldl (SH.ask c.P (c.me : Nat) (c.k : Nat) ((a : Int), (b : Int))) s2 = SH.ask c.P (c.me : Nat) (c.k : Nat) ((a : Int), (b : Int)) T0 r) := hid (by rw [List.take_add_one, hsk, List.foldl_append, hT0]; rfl)
              have Hl9 : Hid (T0.load ≤ 800000000) := hid (by
                rw [hT0]
                have := asks_load (me := (c.me : Nat)) (k := (c.k : Nat)) Hw.out s2 (f := ((a : Int), (b : Int))) (by have := Han.out; simp only; omega) (by have := Hbo.out; simp only; omega) j
                have := Hl2.out
                omega)
              have HA9 := hid (hI.keep (Keep.refl (fun _ => False) wr) (fun _ _ h => h) fun b hb => hgf b hb)
              obtain ⟨V, hV⟩ : ∃ V, V = wr.alloc (.cells #[.string r.kind, .int .i64 r.a, .int .i64 r.b, .int .i64 r.k, .slice aa r.args.length ca] 90) := ⟨_, rfl⟩
              have HVe := hid hV
              have HVx : Hid (Ext wr V) := hid (by rw [hV]; exact (Ext.refl _).alloc _)
              have hBr : Blk V wr.heap.size #[.string r.kind, .int .i64 r.a, .int .i64 r.b, .int .i64 r.k, .slice aa r.args.length ca] 90 := by rw [hV]; exact Blk.new _ _ _
              have m0 := hBr.av 0 rfl
              have m1' := hBr.av 1 rfl
              have m2' := hBr.av 2 rfl
              have m3' := hBr.av 3 rfl
              have m4' := hBr.av 4 rfl
              simp only [qA0, qA1, qA2] at m0 m1' m2' m3' m4'
              rw [hV] at m0 m1' m2' m3' m4'
              have hal : (r.args.length : Int) ≤ 9223372036854775807 := by obtain ⟨_, cap, h1, h2, h3, _⟩ := hI.form; omega
              clear hh hrr hxk hI hsk hV hT0 hgf hBr hK9
              cases hks : (r.kind.toList == [115, 116, 111, 114, 101]) with
              | true =>
                have hpv : r.pivot = r.b := by unfold RV.pivot kStore; rw [hks]; rfl
                by_cases hp : r.b = (a : Int)
                · have hpb : (r.b == (a : Int)) = true := by simpa using hp
                  have hpv2 : r.pivot = (a : Int) := hpv.trans hp
                  have Hn2 : Hid ((c.P.rulesV.take (j + 1)).foldl (SH.ask c.P (c.me : Nat) (c.k : Nat) ((a : Int), (b : Int))) s2 = SH.fire c.P (c.me : Nat) (c.k : Nat) T0 r (b : Int)) := hid (by rw [Hn.out]; unfold SH.ask; rw [if_pos hpv2])
                  have HFi := hid (shardfire_any c T0 r aa ca b V G F g (HS9.out.ext HVx.out) Hbo.out (HA9.out.keep (HVx.out.keep fun _ => False) (fun _ _ h => h) fun _ h => h) (fun hf e he => fires_ed Hw.out Hrv.out hf (by have := Hbo.out; omega) (by rw [hpv2]; have := Han.out; omega) he) Hl9.out)
                  unfold RV.val at HFi
                  clear hp hpv2 hpv
                  go_wp2_with fail
                  rw [← HVe.out]
                  refine HFi.out.mono ?_
                  intro z w6 hx
                  obtain ⟨rfl, hS6, hK6⟩ := hx
                  have HS6 := hid hS6
                  have HK6 := hid hK6
                  clear hS6 hK6 HFi q0 q1 q2 q3 q4 m0 m1' m2' m3' m4'
                  go_wp2
                  go_roundw
                  case rel =>
                    refine ⟨j + 1, by go_num, by omega, ?_, ?_⟩
                    · rw [Hn2.out]; exact HS6.out
                    · exact (HK9.out.ext_r HVx.out).trans HK6.out
                  case measure => simp [intOf]; omega
                · have hpb : (r.b == (a : Int)) = false := beq_eq_false_iff_ne.2 hp
                  have hpv2 : ¬ r.pivot = (a : Int) := fun e => hp (hpv.symm.trans e)
                  have Hn2 : Hid ((c.P.rulesV.take (j + 1)).foldl (SH.ask c.P (c.me : Nat) (c.k : Nat) ((a : Int), (b : Int))) s2 = T0) := hid (by rw [Hn.out]; unfold SH.ask; rw [if_neg hpv2])
                  clear hp hpv2 hpv
                  go_wp2
                  rw [← HVe.out]
                  go_roundw
                  case rel =>
                    refine ⟨j + 1, by go_num, by omega, ?_, ?_⟩
                    · rw [Hn2.out]; exact HS9.out.ext HVx.out
                    · exact HK9.out.ext_r HVx.out
                  case measure => simp [intOf]; omega
              | false =>
                have hpv : r.pivot = r.a := by unfold RV.pivot kStore; rw [hks]; rfl
                by_cases hp : r.a = (a : Int)
                · have hpb : (r.a == (a : Int)) = true := by simpa using hp
                  have hpv2 : r.pivot = (a : Int) := hpv.trans hp
                  have Hn2 : Hid ((c.P.rulesV.take (j + 1)).foldl (SH.ask c.P (c.me : Nat) (c.k : Nat) ((a : Int), (b : Int))) s2 = SH.fire c.P (c.me : Nat) (c.k : Nat) T0 r (b : Int)) := hid (by rw [Hn.out]; unfold SH.ask; rw [if_pos hpv2])
                  have HFi := hid (shardfire_any c T0 r aa ca b V G F g (HS9.out.ext HVx.out) Hbo.out (HA9.out.keep (HVx.out.keep fun _ => False) (fun _ _ h => h) fun _ h => h) (fun hf e he => fires_ed Hw.out Hrv.out hf (by have := Hbo.out; omega) (by rw [hpv2]; have := Han.out; omega) he) Hl9.out)
                  unfold RV.val at HFi
                  clear hp hpv2 hpv
                  go_wp2_with fail
                  rw [← HVe.out]
                  refine HFi.out.mono ?_
                  intro z w6 hx
                  obtain ⟨rfl, hS6, hK6⟩ := hx
                  have HS6 := hid hS6
                  have HK6 := hid hK6
                  clear hS6 hK6 HFi q0 q1 q2 q3 q4 m0 m1' m2' m3' m4'
                  go_wp2
                  go_roundw
                  case rel =>
                    refine ⟨j + 1, by go_num, by omega, ?_, ?_⟩
                    · rw [Hn2.out]; exact HS6.out
                    · exact (HK9.out.ext_r HVx.out).trans HK6.out
                  case measure => simp [intOf]; omega
                · have hpb : (r.a == (a : Int)) = false := beq_eq_false_iff_ne.2 hp
                  have hpv2 : ¬ r.pivot = (a : Int) := fun e => hp (hpv.symm.trans e)
                  have Hn2 : Hid ((c.P.rulesV.take (j + 1)).foldl (SH.ask c.P (c.me : Nat) (c.k : Nat) ((a : Int), (b : Int))) s2 = T0) := hid (by rw [Hn.out]; unfold SH.ask; rw [if_neg hpv2])
                  clear hp hpv2 hpv
                  go_wp2
                  rw [← HVe.out]
                  go_roundw
                  case rel =>
                    refine ⟨j + 1, by go_num, by omega, ?_, ?_⟩
                    · rw [Hn2.out]; exact HS9.out.ext HVx.out
                    · exact HK9.out.ext_r HVx.out
                  case measure => simp [intOf]; omega
            · obtain rfl : j = c.P.rulesV.length := by omega
              rw [List.take_length, ← Hc2.out] at hS9
              have HS9 := hid hS9
              clear hS9 hK9
              go_wp2
              go_end0
              exact ⟨rfl, HS9.out, HK9.out⟩
    · rw [g1] at hv
      simp only [Option.getD_some, Value.map.injEq] at hv
      subst hv
      have heq := shmmEql_some
      have Hf2 := hid g1
      clear h g1
      go_enter Tryz.func81, Tryz.ntmps81
      have hfx := Hf2.out
      obtain ⟨Kq, Sq⟩ := HS.out.mm1.at hfx
      have l3 := HS.out.mm1.look1 (b := (a : Int)) (by omega)
      rw [hfx] at l3
      simp only [Option.getD_some] at l3
      obtain ⟨w3, hput, hk3, hs3, hkp3⟩ := run_kmap_put_stm Tryz.underlying99 Kq Sq (k := (b : Int)) (by omega) (.bool true)
      obtain ⟨hM3, hkp⟩ := HS.out.mm1.put hfx hk3 hs3 hkp3
      have HS3 := hid (HS.out.setHas hkp hM3 fun q hq => .inl hq)
      have HK3 : Hid (Keep (fun b => ¬ F b) w w3) := hid ((Keep.refl (fun b => ¬ F b) w).trans (hkp.mono fun q _ hq => hq.elim (fun e => HS.out.own q (.inr (.inl e))) fun hi => HS.out.own q (.inr (.inr (.inr (.inl hi))))))
      have l4 := HS3.out.mm2.look1 (b := (a : Int)) (by omega)
      have HKy := hid (shardkeys_any (a : Int) w3 HS3.out.mm2 Hn126.out)
      obtain ⟨vk, hvk⟩ : ∃ vk, vk = (f2 (a : Int)).getD (.map none) := ⟨_, rfl⟩
      rw [← hvk] at l4 HKy
      have b8 := HS.out.blk.av 8 rfl
      have b9 := HS3.out.blk.av 9 rfl
      simp only [shCells, qA0, qA1, qA2] at b9 b8
      clear hfx Kq Sq hk3 hs3 hkp3 hM3 hkp hvk
      go_wp2_with fail
      refine HKy.out.mono ?_
      intro e w4 hx
      obtain ⟨v4, rfl, hr4, hx4⟩ := hx
      have Hfl : Hid ((keysL s.nxt (a : Int)).foldl (SH.sendTo (c.me : Nat) (c.k : Nat) (b : Int)) { s with has := s.has ++ [((a : Int), (b : Int))] } = s.sent (c.me : Nat) (c.k : Nat) ((a : Int), (b : Int))) := hid rfl
      have Hin : Hid (∀ o ∈ keysL s.nxt (a : Int), 0 ≤ o ∧ o < 126) := hid fun o ho => (keysL_in ho).2
      have hlen := keysL_few s.nxt (a : Int)
      generalize keysL s.nxt (a : Int) = L at hr4 Hfl Hin hlen
      obtain ⟨av, cv, rfl⟩ := row_form hr4
      have HS4 : Hid (ShAt w4 G (fun b => F b ∨ (w3.heap.size ≤ b ∧ b < w4.heap.size)) g c { s with has := s.has ++ [((a : Int), (b : Int))] }) := hid (ShAt.frz ⟨_, _, _, _, _, _, _, _, HS3.out⟩ hx4)
      have Hrf : Hid (∀ q, (Value.slice av L.length cv).ownBlock = some q → F q ∨ (w3.heap.size ≤ q ∧ q < w4.heap.size)) := hid fun q hq => .inr (hr4.lt hq)
      have HR4 := hid hr4
      have HK4 := hid (HK3.out.ext_r hx4)
      have HGF := hid HS3.out.gf
      obtain ⟨s1, hs1⟩ : ∃ s1 : SH, s1 = { s with has := s.has ++ [((a : Int), (b : Int))] } := ⟨_, rfl⟩
      have Hld1 : Hid (s1.load ≤ 700000000) := hid (by rw [hs1]; exact Hld.out)
      rw [← hs1] at HS4 Hfl
      generalize hF' : (fun b => F b ∨ (w3.heap.size ≤ b ∧ b < w4.heap.size)) = F' at HS4
      have HF1 : Hid (∀ b, F b → F' b) := hid fun b hb => by rw [← hF']; exact .inl hb
      have HrF : Hid (∀ b, (Value.slice av L.length cv).ownBlock = some b → F' b) := hid fun b hb => by rw [← hF']; exact Hrf.out b hb
      clear HKy hr4 hx4 l3 l4 hput b9 b8 HS3 HK3 Hrf hF' hs1
      go_wp2
      go_loopw [47] (fun t47 wr => ∃ j : Nat, t47 = .int .i64 (j : Int) ∧ j ≤ L.length ∧ ShAt wr G F' g c ((L.take j).foldl (SH.sendTo (c.me : Nat) (c.k : Nat) (b : Int)) s1) ∧ IRow w3.heap.size wr (.slice av L.length cv) L ∧ Keep (fun b => ¬ F b) w wr) (fun t47 _ => L.length - (intOf t47).toNat)
      case atStart => exact ⟨0, rfl, Nat.zero_le _, HS4.out, HR4.out, HK4.out⟩
      case round =>
        obtain ⟨j, rfl, hj, hS5, hR5, hK5⟩ := hrel
        have HR5 := hid hR5
        have HK5 := hid hK5
        by_cases hlt : j < L.length
        · obtain ⟨x, hqx⟩ : ∃ x, L[j]? = some x := ⟨_, List.getElem?_eq_getElem hlt⟩
          obtain ⟨g8, cp8, hge⟩ := own_some hR5 (by omega)
          simp only [Value.slice.injEq] at hge
          obtain ⟨rfl, -, rfl⟩ := hge
          have q0 := own_i hR5 hqx
          obtain ⟨hx0, hx1⟩ := Hin.out x (List.mem_of_getElem? hqx)
          obtain ⟨o, rfl⟩ := Int.eq_ofNat_of_zero_le hx0
          have Hn : Hid ((L.take (j + 1)).foldl (SH.sendTo (c.me : Nat) (c.k : Nat) (b : Int)) s1 = SH.tell (c.me : Nat) (c.k : Nat) ((L.take j).foldl (SH.sendTo (c.me : Nat) (c.k : Nat) (b : Int)) s1) (o : Nat) 100 [(o : Int), (b : Int)]) := hid (by rw [List.take_add_one, hqx, List.foldl_append]; rfl)
          have hl5 : ((L.take j).foldl (SH.sendTo (c.me : Nat) (c.k : Nat) (b : Int)) s1).load ≤ 900000000 := by
            rw [sendsTo_load, List.length_take]
            have := Hld1.out
            omega
          obtain ⟨wA, hwA⟩ : ∃ wA, wA = wr.alloc (.cells #[.int .i64 (o : Int), .int .i64 (b : Int)] 3) := ⟨_, rfl⟩
          have hxA : Ext wr wA := by rw [hwA]; exact (Ext.refl _).alloc _
          have HxA := hid hxA
          have hrow : IRow 0 wA (.slice (some ⟨wr.heap.size, 0, none⟩) 2 2) [(o : Int), (b : Int)] := by
            rw [hwA]
            exact irow_two wr o b
          have HT := hid (shardtell_any c ((L.take j).foldl (SH.sendTo (c.me : Nat) (c.k : Nat) (b : Int)) s1) o 100 [(o : Int), (b : Int)] _ wA G F' g (hS5.ext hxA) hrow (by omega) hl5)
          have HwA := hid hwA
          clear hS5 hR5 hK5 hqx hx0 hx1 hxA hwA hl5 hrow
          go_wp2_with fail
          rw [← HwA.out]
          refine HT.out.mono ?_
          intro z w6 hx
          obtain ⟨rfl, hS6, hK6⟩ := hx
          have HS6 := hid hS6
          have HK6 := hid hK6
          clear hS6 hK6 HT q0
          go_wp2
          go_roundw
          case rel =>
            refine ⟨j + 1, by go_num, by omega, ?_, ?_, ?_⟩
            · rw [Hn.out]; exact HS6.out
            · exact row_keep (own_ext HR5.out HxA.out) HK6.out fun b hb hx => hx (HrF.out b hb)
            · exact (HK5.out.ext_r HxA.out).trans (HK6.out.mono fun b _ hx hF => hx (HF1.out b hF))
          case measure => simp [intOf]; omega
        · obtain rfl : j = L.length := by omega
          rw [List.take_length, Hfl.out] at hS5
          have hl2 : (s.sent (c.me : Nat) (c.k : Nat) ((a : Int), (b : Int))).load ≤ 700000200 := by
            rw [← Hfl.out, sendsTo_load]
            have := Hld1.out
            omega
          have HS2 := hid (hS5.less HGF.out HF1.out)
          have Hc2 := Hce
          generalize s.sent (c.me : Nat) (c.k : Nat) ((a : Int), (b : Int)) = s2 at HS2 hl2 Hc2
          have Hl2 := hid hl2
          have HK2 := hid hK5
          clear hS5 hR5 hK5 hl2 HS4 HR4 HK4 HF1 HrF
          obtain ⟨m1b, m2b, f1b, f2b, vtb, vob, tsb, osb, hh⟩ := HS2.out
          have b3 := hh.blk.av 3 rfl
          simp only [shCells, qA0, qA1, qA2] at b3
          obtain ⟨ar, cr, hvr⟩ := row_form hh.con.rrow
          rw [hvr] at b3
          have hR80 : c.P.rulesV.length ≤ 80 := by have := Hw.out.few; rw [rulesV_len]; omega
          have hRe : Hid (c.P.rulesV.length = c.rs.length) := hid (by rw [← hh.con.req, List.length_map])
          have Hvr := hid hvr
          clear hh hvr
          go_wp2
          go_loopw [63] (fun t63 wr => ∃ j : Nat, t63 = .int .i64 (j : Int) ∧ j ≤ c.P.rulesV.length ∧ ShAt wr G F g c ((c.P.rulesV.take j).foldl (SH.ask c.P (c.me : Nat) (c.k : Nat) ((a : Int), (b : Int))) s2) ∧ Keep (fun b => ¬ F b) w wr) (fun t63 _ => c.P.rulesV.length - (intOf t63).toNat)
          case atStart => exact ⟨0, rfl, Nat.zero_le _, HS2.out, HK2.out⟩
          case round =>
            clear b3
            obtain ⟨j, rfl, hj, hS9, hK9⟩ := hrel
            have HK9 := hid hK9
            by_cases hlt : j < c.P.rulesV.length
            · obtain ⟨T0, hT0⟩ : ∃ T0, T0 = (c.P.rulesV.take j).foldl (SH.ask c.P (c.me : Nat) (c.k : Nat) ((a : Int), (b : Int))) s2 := ⟨_, rfl⟩
              rw [← hT0] at hS9
              have HS9 := hid hS9
              obtain ⟨m1', m2', f1', f2', vt', vo', ts', os', hh⟩ := hS9
              have hrr := hh.con.rrow
              rw [Hvr.out] at hrr
              obtain ⟨gr, cr', hge⟩ := own_some hrr (by omega)
              simp only [Value.slice.injEq] at hge
              obtain ⟨rfl, -, rfl⟩ := hge
              obtain ⟨x, hxk⟩ : ∃ x, c.rs[j]? = some x := ⟨_, List.getElem?_eq_getElem (by rw [← hRe.out]; exact hlt)⟩
              obtain ⟨q0, q1, q2, q3, q4⟩ := own_r hrr hxk
              have hI := hh.con.rargs x (List.mem_of_getElem? hxk)
              obtain ⟨aa, ca, hav, -⟩ := hI.form
              have hsk : c.P.rulesV[j]? = some x.r := by rw [← hh.con.req, List.getElem?_map, hxk]; rfl
              have hgf := hh.gf
              obtain ⟨r, xv⟩ := x
              simp only at hav q0 q1 q2 q3 q4 hI hsk
              subst hav
              have Hrv : Hid (r ∈ c.P.rulesV) := hid (List.mem_of_getElem? hsk)
              have Hn : Hid ((c.P.rulesV.take (j + 1)).foldl (SH.ask c.P (c.me : Nat) (c.k : Nat) ((a : Int), (b : Int))) s2 = SH.ask c.P (c.me : Nat) (c.k : Nat) ((a : Int), (b : Int)) T0 r) := hid (by rw [List.take_add_one, hsk, List.foldl_append, hT0]; rfl)
              have Hl9 : Hid (T0.load ≤ 800000000) := hid (by
                rw [hT0]
                have := asks_load (me := (c.me : Nat)) (k := (c.k : Nat)) Hw.out s2 (f := ((a : Int), (b : Int))) (by have := Han.out; simp only; omega) (by have := Hbo.out; simp only; omega) j
                have := Hl2.out
                omega)
              have HA9 := hid (hI.keep (Keep.refl (fun _ => False) wr) (fun _ _ h => h) fun b hb => hgf b hb)
              obtain ⟨V, hV⟩ : ∃ V, V = wr.alloc (.cells #[.string r.kind, .int .i64 r.a, .int .i64 r.b, .int .i64 r.k, .slice aa r.args.length ca] 90) := ⟨_, rfl⟩
              have HVe := hid hV
              have HVx : Hid (Ext wr V) := hid (by rw [hV]; exact (Ext.refl _).alloc _)
              have hBr : Blk V wr.heap.size #[.string r.kind, .int .i64 r.a, .int .i64 r.b, .int .i64 r.k, .slice aa r.args.length ca] 90 := by rw [hV]; exact Blk.new _ _ _
              have m0 := hBr.av 0 rfl
              have m1' := hBr.av 1 rfl
              have m2' := hBr.av 2 rfl
              have m3' := hBr.av 3 rfl
              have m4' := hBr.av 4 rfl
              simp only [qA0, qA1, qA2] at m0 m1' m2' m3' m4'
              rw [hV] at m0 m1' m2' m3' m4'
              have hal : (r.args.length : Int) ≤ 9223372036854775807 := by obtain ⟨_, cap, h1, h2, h3, _⟩ := hI.form; omega
              clear hh hrr hxk hI hsk hV hT0 hgf hBr hK9
              cases hks : (r.kind.toList == [115, 116, 111, 114, 101]) with
              | true =>
                have hpv : r.pivot = r.b := by unfold RV.pivot kStore; rw [hks]; rfl
                by_cases hp : r.b = (a : Int)
                · have hpb : (r.b == (a : Int)) = true := by simpa using hp
                  have hpv2 : r.pivot = (a : Int) := hpv.trans hp
                  have Hn2 : Hid ((c.P.rulesV.take (j + 1)).foldl (SH.ask c.P (c.me : Nat) (c.k : Nat) ((a : Int), (b : Int))) s2 = SH.fire c.P (c.me : Nat) (c.k : Nat) T0 r (b : Int)) := hid (by rw [Hn.out]; unfold SH.ask; rw [if_pos hpv2])
                  have HFi := hid (shardfire_any c T0 r aa ca b V G F g (HS9.out.ext HVx.out) Hbo.out (HA9.out.keep (HVx.out.keep fun _ => False) (fun _ _ h => h) fun _ h => h) (fun hf e he => fires_ed Hw.out Hrv.out hf (by have := Hbo.out; omega) (by rw [hpv2]; have := Han.out; omega) he) Hl9.out)
                  unfold RV.val at HFi
                  clear hp hpv2 hpv
                  go_wp2_with fail
                  rw [← HVe.out]
                  refine HFi.out.mono ?_
                  intro z w6 hx
                  obtain ⟨rfl, hS6, hK6⟩ := hx
                  have HS6 := hid hS6
                  have HK6 := hid hK6
                  clear hS6 hK6 HFi q0 q1 q2 q3 q4 m0 m1' m2' m3' m4'
                  go_wp2
                  go_roundw
                  case rel =>
                    refine ⟨j + 1, by go_num, by omega, ?_, ?_⟩
                    · rw [Hn2.out]; exact HS6.out
                    · exact (HK9.out.ext_r HVx.out).trans HK6.out
                  case measure => simp [intOf]; omega
                · have hpb : (r.b == (a : Int)) = false := beq_eq_false_iff_ne.2 hp
                  have hpv2 : ¬ r.pivot = (a : Int) := fun e => hp (hpv.symm.trans e)
                  have Hn2 : Hid ((c.P.rulesV.take (j + 1)).foldl (SH.ask c.P (c.me : Nat) (c.k : Nat) ((a : Int), (b : Int))) s2 = T0) := hid (by rw [Hn.out]; unfold SH.ask; rw [if_neg hpv2])
                  clear hp hpv2 hpv
                  go_wp2
                  rw [← HVe.out]
                  go_roundw
                  case rel =>
                    refine ⟨j + 1, by go_num, by omega, ?_, ?_⟩
                    · rw [Hn2.out]; exact HS9.out.ext HVx.out
                    · exact HK9.out.ext_r HVx.out
                  case measure => simp [intOf]; omega
              | false =>
                have hpv : r.pivot = r.a := by unfold RV.pivot kStore; rw [hks]; rfl
                by_cases hp : r.a = (a : Int)
                · have hpb : (r.a == (a : Int)) = true := by simpa using hp
                  have hpv2 : r.pivot = (a : Int) := hpv.trans hp
                  have Hn2 : Hid ((c.P.rulesV.take (j + 1)).foldl (SH.ask c.P (c.me : Nat) (c.k : Nat) ((a : Int), (b : Int))) s2 = SH.fire c.P (c.me : Nat) (c.k : Nat) T0 r (b : Int)) := hid (by rw [Hn.out]; unfold SH.ask; rw [if_pos hpv2])
                  have HFi := hid (shardfire_any c T0 r aa ca b V G F g (HS9.out.ext HVx.out) Hbo.out (HA9.out.keep (HVx.out.keep fun _ => False) (fun _ _ h => h) fun _ h => h) (fun hf e he => fires_ed Hw.out Hrv.out hf (by have := Hbo.out; omega) (by rw [hpv2]; have := Han.out; omega) he) Hl9.out)
                  unfold RV.val at HFi
                  clear hp hpv2 hpv
                  go_wp2_with fail
                  rw [← HVe.out]
                  refine HFi.out.mono ?_
                  intro z w6 hx
                  obtain ⟨rfl, hS6, hK6⟩ := hx
                  have HS6 := hid hS6
                  have HK6 := hid hK6
                  clear hS6 hK6 HFi q0 q1 q2 q3 q4 m0 m1' m2' m3' m4'
                  go_wp2
                  go_roundw
                  case rel =>
                    refine ⟨j + 1, by go_num, by omega, ?_, ?_⟩
                    · rw [Hn2.out]; exact HS6.out
                    · exact (HK9.out.ext_r HVx.out).trans HK6.out
                  case measure => simp [intOf]; omega
                · have hpb : (r.a == (a : Int)) = false := beq_eq_false_iff_ne.2 hp
                  have hpv2 : ¬ r.pivot = (a : Int) := fun e => hp (hpv.symm.trans e)
                  have Hn2 : Hid ((c.P.rulesV.take (j + 1)).foldl (SH.ask c.P (c.me : Nat) (c.k : Nat) ((a : Int), (b : Int))) s2 = T0) := hid (by rw [Hn.out]; unfold SH.ask; rw [if_neg hpv2])
                  clear hp hpv2 hpv
                  go_wp2
                  rw [← HVe.out]
                  go_roundw
                  case rel =>
                    refine ⟨j + 1, by go_num, by omega, ?_, ?_⟩
                    · rw [Hn2.out]; exact HS9.out.ext HVx.out
                    · exact HK9.out.ext_r HVx.out
                  case measure => simp [intOf]; omega
            · obtain rfl : j = c.P.rulesV.length := by omega
              rw [List.take_length, ← Hc2.out] at hS9
              have HS9 := hid hS9
              clear hS9 hK9
              go_wp2
              go_end0
              exact ⟨rfl, HS9.out, HK9.out⟩
inductive Runs (P : PP) (me k : Int) (s : SH) : SH → Prop
  | refl : Runs P me k s s
  | step {t : SH} : Runs P me k s t → t.todo ≠ [] → Runs P me k s (t.step P me k)
theorem Runs.ok {P : PP} {me k : Int} {s t : SH} (hw : P.Well) (h : Runs P me k s t) (hs : s.Ok P me k) : t.Ok P me k ∧ t.phi ≤ s.phi := by
  induction h with
  | refl => exact ⟨hs, Nat.le_refl _⟩
  | step _ hne ih =>
    obtain ⟨g1, g2⟩ := step_less hw ih.1 hne
    exact ⟨g1, Nat.le_trans (Nat.le_of_lt g2) ih.2⟩
theorem Runs.keeps {P : PP} {me k : Int} {s t : SH} (h : Runs P me k s t) (I : SH → Prop) (hI : ∀ u, I u → u.todo ≠ [] → I (u.step P me k)) (hs : I s) : I t := by
  induction h with
  | refl => exact hs
  | step _ hne ih => exact hI _ ih hne
theorem least_num (p : Nat → Prop) (h : ∃ n, p n) : ∃ m, p m ∧ ∀ k, p k → m ≤ k := by
  obtain ⟨n, hn⟩ := h
  induction n using Nat.strongRecOn with
  | ind n ih =>
    by_cases hm : ∃ m, m < n ∧ p m
    · obtain ⟨m, h1, h2⟩ := hm
      exact ih m h1 h2
    · exact ⟨n, hn, fun k hk => Nat.le_of_not_lt fun hl => hm ⟨k, hl, hk⟩⟩
noncomputable def infM (p : Nat → Prop) : Nat := Classical.epsilon fun m => p m ∧ ∀ k, p k → m ≤ k
theorem infM_of {p : Nat → Prop} (h : ∃ n, p n) : p (infM p) ∧ ∀ k, p k → infM p ≤ k := Classical.epsilon_spec (least_num p h)
section
variable {w w' : World} {G F : Nat → Prop} {g : Nat} {c : SC} {m1 m2 : Nat} {f1 f2 : Int → Option Value} {vt vo : Value} {ts os : List N2} {s : SH}
theorem N2.cells_len (x : N2) : x.cells.length = 3 := rfl
theorem ShB.cutTodo {gq off cap n : Nat} {x : N2} {tr : List N2} (h : ShB w G F g c m1 m2 f1 f2 (.slice (some ⟨gq, off, none⟩) n cap) vo (x :: tr) os s) {l : List NV} (hl : s.todo = x.n :: l) :
    ShB (w.setCell ⟨g, 10, none⟩ (.slice (some (if cap = 1 then ⟨gq, off, none⟩ else ⟨gq, off + 3, none⟩)) (n - 1) (cap - 1))) G F g c m1 m2 f1 f2 (.slice (some (if cap = 1 then ⟨gq, off, none⟩ else ⟨gq, off + 3, none⟩)) (n - 1) (cap - 1)) vo tr os { s with todo := l } := by
  have hr := h.tq
  obtain ⟨a', c', e'⟩ := hr.form
  simp only [Value.slice.injEq] at e'
  obtain ⟨rfl, rfl, rfl⟩ := e'
  rw [hl] at hr
  have ht := hr.tail (by rw [List.length_cons]; omega)
  have hn := h.tn
  rw [hl, List.map_cons] at hn
  refine h.setTodo (Keep.refl _ w) (List.cons.inj hn).2 ?_ (fun y hy => h.tr y (List.mem_cons_of_mem _ hy)) fun b hb => .inl ?_
  · rw [hl]
    exact ht
  · rw [← hb]
    show some gq = some (if cap = 1 then (⟨gq, off, none⟩ : Addr) else ⟨gq, off + 3, none⟩).block
    split <;> rfl
theorem ShB.whole (h : ShB w G F g c m1 m2 f1 f2 vt vo ts os s) : ShB w G (fun b => b < w.heap.size ∧ ¬ ShOwn g m1 m2 f1 f2 vt vo b) g c m1 m2 f1 f2 vt vo ts os s :=
  h.turn (fun b hb hx => hx.2 hb) (fun b hb => ⟨h.flt b (h.gf b hb), fun q => h.own b q (h.gf b hb)⟩) fun b hb => hb.1
theorem ShB.not_own (h : ShB w G F g c m1 m2 f1 f2 vt vo ts os s) {b : Nat} {cs : Array Value} {e : TypeId} (hb : Blk w b cs e) (h1 : e ≠ 88) (h2 : e ≠ 58) : ¬ ShOwn g m1 m2 f1 f2 vt vo b := by
  rintro (rfl | rfl | rfl | ho | ho | ho | ho)
  · exact off_of hb h1 ⟨_, h.blk⟩
  · exact h.mm1.map.not_blk hb
  · exact h.mm2.map.not_blk hb
  · exact h.mm1.in_blk ho hb
  · exact h.mm2.in_blk ho hb
  · obtain ⟨c', hc⟩ := h.tblk ho
    exact off_of hb h2 ⟨_, hc⟩
  · obtain ⟨c', hc⟩ := h.oblk ho
    exact off_of hb h2 ⟨_, hc⟩
theorem ShB.not_int (h : ShB w G F g c m1 m2 f1 f2 vt vo ts os s) {b : Nat} (hb : IsInt w b) : ¬ ShOwn g m1 m2 f1 f2 vt vo b := by
  have hne : ∀ {e : TypeId} {cs : Array Value}, Blk w b cs e → e ≠ 3 → False := fun hc he => by
    obtain ⟨c', z, hz⟩ := hb
    have := hc.symm.trans hz
    simp at this
    exact he this.2.1
  rintro (rfl | rfl | rfl | ho | ho | ho | ho)
  · exact hne h.blk (by decide)
  · exact h.mm1.map.not_int hb
  · exact h.mm2.map.not_int hb
  · obtain ⟨_, hm⟩ := h.mm1.in_map ho
    exact hm.not_int hb
  · obtain ⟨_, hm⟩ := h.mm2.in_map ho
    exact hm.not_int hb
  · obtain ⟨c', hc⟩ := h.tblk ho
    exact hne hc (by decide)
  · obtain ⟨c', hc⟩ := h.oblk ho
    exact hne hc (by decide)
theorem IsInt.lt {b : Nat} (h : IsInt w b) : b < w.heap.size := by
  obtain ⟨c', z, hz⟩ := h
  exact (Array.getElem?_eq_some_iff.1 hz).1
end
structure NotesR (w : World) (F : Nat → Prop) (v : Value) (l : List NV) (os : List N2) : Prop where
  row : OwnsQ w 0 58 3 v l.length (os.flatMap N2.cells)
  eq : os.map N2.n = l
  nums : ∀ x ∈ os, IRow 0 w x.v x.n.nums
  fr : ∀ b, v.ownBlock = some b → F b
  fn : ∀ x ∈ os, ∀ b, x.v.ownBlock = some b → F b
noncomputable def shMes (G F : Nat → Prop) (g : Nat) (c : SC) (s : SH) (w : World) : Nat := infM fun n => ∃ t, Runs c.P (c.me : Nat) (c.k : Nat) s t ∧ ShAt w G F g c t ∧ t.phi = n
theorem shMes_of {G F : Nat → Prop} {g : Nat} {c : SC} {s t : SH} {w : World} (h : Runs c.P (c.me : Nat) (c.k : Nat) s t) (hS : ShAt w G F g c t) : ∃ u, Runs c.P (c.me : Nat) (c.k : Nat) s u ∧ ShAt w G F g c u ∧ u.phi = shMes G F g c s w :=
  (infM_of (p := fun n => ∃ t, Runs c.P (c.me : Nat) (c.k : Nat) s t ∧ ShAt w G F g c t ∧ t.phi = n) ⟨_, t, h, hS, rfl⟩).1
theorem shMes_le {G F : Nat → Prop} {g : Nat} {c : SC} {s t : SH} {w : World} (h : Runs c.P (c.me : Nat) (c.k : Nat) s t) (hS : ShAt w G F g c t) : shMes G F g c s w ≤ t.phi :=
  (infM_of (p := fun n => ∃ t, Runs c.P (c.me : Nat) (c.k : Nat) s t ∧ ShAt w G F g c t ∧ t.phi = n) ⟨_, t, h, hS, rfl⟩).2 _ ⟨t, h, hS, rfl⟩
theorem load_phi (s : SH) : s.load ≤ s.phi := by unfold SH.phi; omega
theorem comes_take {P : PP} {me k : Int} {s : SH} (hw : P.Well) {n : Int} (h1 : 0 ≤ n ∧ n < P.nodesV) (h3 : n % k = me) {l : List Int} (h : s.Ok P me k) (hl : ∀ o ∈ l, 0 ≤ o ∧ o < P.objectsV) (j : Nat) : ((l.take j).foldl (SH.comes P me k n) s).Ok P me k ∧ ((l.take j).foldl (SH.comes P me k n) s).phi ≤ s.phi := by
  obtain ⟨g1, _⟩ := comes_grows hw h1 h3 (l.take j) h fun o ho => hl o (List.mem_of_mem_take ho)
  exact ⟨g1.ok, g1.phi⟩
set_option maxRecDepth 100000 in
set_option maxHeartbeats 12800000 in
theorem shardwork_any (c : SC) (s : SH) (w : World) (G F : Nat → Prop) (g : Nat) (hS : ShAt w G F g c s) (hok : s.Ok c.P (c.me : Nat) (c.k : Nat)) (hph : s.phi ≤ 600000000) :
    Calls Tryz.prog 49 #[.pointer (some ⟨g, 0, none⟩)] w fun x w' => ∃ (v : Value) (t : SH) (os : List N2) (F' : Nat → Prop), x = .returned v ∧ Runs c.P (c.me : Nat) (c.k : Nat) s t ∧ t.todo = [] ∧ ShAt w' G F' g c { t with out := [] } ∧ NotesR w' F' v t.out os ∧ (∀ b, F b → F' b) ∧ (∀ b, IsInt w' b → F' b) ∧ Keep (fun b => ¬ F b) w w' := by
  have HOk0 := hid hok
  have Hph := hid hph
  have hw : c.P.Well := by obtain ⟨_, _, _, _, _, _, _, _, h⟩ := hS; exact h.con.well
  have HS0 := hid hS
  have Hw := hid hw
  clear hS hok hph hw
  go_enter Tryz.func49, Tryz.ntmps49
  go_wp2
  go_loopw [3] (fun _ wr => ∃ t, Runs c.P (c.me : Nat) (c.k : Nat) s t ∧ ShAt wr G F g c t ∧ Keep (fun b => ¬ F b) w wr) (fun _ wr => shMes G F g c s wr)
  case atStart => exact ⟨s, .refl, HS0.out, Keep.refl _ _⟩
  case round =>
    clear HS0
    obtain ⟨t0, hr0, hS0, hK⟩ := hrel
    obtain ⟨t, hrt, hSt, hmu⟩ := shMes_of hr0 hS0
    have HK := hid hK
    have Hrt := hid hrt
    have Hmu := hid hmu
    have Hok := hid (hrt.ok Hw.out HOk0.out)
    clear hr0 hS0 hK hrt hmu
    obtain ⟨m1, m2, f1, f2, vt, vo, ts, os, hS⟩ := hSt
    by_cases hne : t.todo = []
    · obtain ⟨av, cv, rfl⟩ := hS.tq.form
      obtain ⟨ao, co, rfl⟩ := hS.oq.form
      have b10 := hS.blk.av 10 rfl
      have b11 := hS.blk.av 11 rfl
      have f11 := hS.blk.free 11
      simp only [shCells, qA0, qA1, qA2] at b10 b11
      rw [hne, List.length_nil] at b10
      have HSo := hid (hS.setOut (Keep.refl _ wr) (vo' := .slice none 0 0) (os' := []) (l := []) rfl (OwnsQ.nil _ _ _ _) (fun _ h => (by cases h)) (fun _ h => (by cases h)))
      have Hne := hid hne
      have HSk := hid hS
      clear hne hS
      go_wp2
      go_ret
      have kg : Keep (fun q => q = g) wr (wr.setCell ⟨g, 11, none⟩ (.slice none 0 0)) := (Keep.refl (fun q => q = g) wr).set rfl _
      have hnum : ∀ x ∈ os, IRow 0 (wr.setCell ⟨g, 11, none⟩ (.slice none 0 0)) x.v x.n.nums := fun x hx => own_off (HSk.out.or x hx) kg fun b hb => by rw [hb]; exact off_of HSk.out.blk (by decide)
      refine ⟨_, t, os, _, rfl, Hrt.out, Hne.out, ⟨_, _, _, _, _, _, _, _, HSo.out.whole⟩, ⟨HSk.out.oq.off kg fun b hb => (by rw [hb]; exact off_of HSk.out.blk (by decide)), HSk.out.on, hnum, fun b hb => ⟨?_, ?_⟩, fun x hx b hb => ?_⟩, fun b hb => ⟨HSo.out.flt b hb, fun q => HSo.out.own b q hb⟩, fun b hb => ⟨hb.lt, HSo.out.not_int hb⟩, HK.out.set (HSk.out.own g (.inl rfl)) _⟩
      · obtain ⟨c', hc⟩ := HSk.out.oblk hb
        exact Nat.lt_of_lt_of_le hc.lt kg.size
      · obtain ⟨c', hc⟩ := HSk.out.oblk hb
        rintro (rfl | rfl | rfl | ho | ho | ho | ho)
        · exact off_of hc (by decide) ⟨_, HSk.out.blk⟩
        · exact HSk.out.mm1.map.not_blk hc
        · exact HSk.out.mm2.map.not_blk hc
        · exact HSk.out.mm1.in_blk ho hc
        · exact HSk.out.mm2.in_blk ho hc
        · exact HSk.out.ne b ho hb
        · cases ho
      · obtain ⟨c', hc⟩ := own_ty (hnum x hx) hb
        exact ⟨hc.lt, HSo.out.not_own hc (by decide) (by decide)⟩
    · obtain ⟨x, tr, rfl⟩ : ∃ x tr, ts = x :: tr := by
        cases ts with
        | nil => exact absurd hS.tn.symm hne
        | cons x tr => exact ⟨x, tr, rfl⟩
      have hl : t.todo = x.n :: tr.map N2.n := hS.tn.symm
      obtain ⟨gq, off, cap, rfl, hcap⟩ := hS.tq.pos (by rw [hl, List.length_cons]; omega)
      have hnum := hS.tr x List.mem_cons_self
      obtain ⟨hxi, hxm⟩ := Hok.out.1.todo x.n (by rw [hl]; exact List.mem_cons_self)
      have hxi := hxi.is
      obtain ⟨xn, xv⟩ := x
      obtain ⟨xto, xk, xl⟩ := xn
      simp only at hnum hxi hxm hl
      obtain ⟨av, cv, rfl⟩ := row_form hnum
      have q0 := hS.tq.get 0 (u := .int .i64 xto) rfl
      have q1 := hS.tq.get 1 (u := .int .u8 xk) rfl
      have q2 := hS.tq.get 2 (u := .slice av xl.length cv) rfl
      simp only [Nat.add_zero] at q0
      have b10 := hS.blk.av 10 rfl
      have f10 := hS.blk.free 10
      simp only [shCells, qA0, qA1, qA2] at b10
      obtain ⟨W1, hW1⟩ : ∃ W1, W1 = wr.alloc (.cells #[.int .i64 xto, .int .u8 xk, .slice av xl.length cv] 58) := ⟨_, rfl⟩
      have hx1 : Ext wr W1 := by rw [hW1]; exact (Ext.refl _).alloc _
      have hBx : Blk W1 wr.heap.size #[.int .i64 xto, .int .u8 xk, .slice av xl.length cv] 58 := by rw [hW1]; exact Blk.new _ _ _
      have hcr : t.todo.length ≤ cap ∧ 1 ≤ t.todo.length := by
        refine ⟨?_, by rw [hl, List.length_cons]; omega⟩
        rcases hS.tq.2 with ⟨hx, _⟩ | ⟨g', off', cap', cur, hx, _, _, hx4, _⟩
        · cases hx
        · simp only [Value.slice.injEq] at hx
          rw [hx.2.2]; exact hx4
      have hcut := (hS.ext hx1).cutTodo hl
      obtain ⟨s1, hs1⟩ : ∃ s1 : SH, s1 = { t with todo := tr.map N2.n } := ⟨_, rfl⟩
      obtain ⟨vt', hvt⟩ : ∃ vt', vt' = Value.slice (some (if cap = 1 then (⟨gq, off, none⟩ : Addr) else ⟨gq, off + 3, none⟩)) (t.todo.length - 1) (cap - 1) := ⟨_, rfl⟩
      have hvb : vt'.ownBlock = (Value.slice (some ⟨gq, off, none⟩) t.todo.length cap).ownBlock := by
        rw [hvt]
        show some (if cap = 1 then (⟨gq, off, none⟩ : Addr) else ⟨gq, off + 3, none⟩).block = some gq
        split <;> rfl
      obtain ⟨m, hm⟩ : ∃ m, t.todo.length = m + 1 := ⟨t.todo.length - 1, by omega⟩
      have hvt2 : vt' = Value.slice (some (if cap = 1 then (⟨gq, off, none⟩ : Addr) else ⟨gq, off + 3, none⟩)) m (cap - 1) := by rw [hvt, hm, Nat.add_sub_cancel]
      obtain ⟨W3, hW3⟩ : ∃ W3, W3 = W1.setCell ⟨g, 10, none⟩ vt' := ⟨_, rfl⟩
      rw [← hvt, ← hs1, ← hW3] at hcut
      have b10' := (hS.blk.ext hx1).av 10 rfl
      have f10' := (hS.blk.ext hx1).free 10
      simp only [shCells, qA0, qA1, qA2] at b10'
      rw [hm] at b10 b10'
      rw [hW1] at b10' f10'
      clear f10
      by_cases hc1 : cap = 1
      · have hm0 : m = 0 := by omega
        have hvt3 : vt' = .slice (some ⟨gq, off, none⟩) 0 0 := by rw [hvt2, if_pos hc1, hc1, hm0]
        have HW3 : Hid (W3 = (wr.alloc (.cells #[.int .i64 xto, .int .u8 xk, .slice av xl.length cv] 58)).setCell ⟨g, 10, none⟩ (.slice (some ⟨gq, off, none⟩) 0 0)) := hid (by rw [hW3, hW1, hvt3])
        rw [hm0, hc1, Nat.zero_add] at b10 b10'
        have HS3 := hid hcut
        have Hnum : Hid (IRow 0 W3 (.slice av xl.length cv) xl) := hid (by
          rw [hW3]
          refine own_off (own_ext hnum hx1) ((Keep.refl (fun q => q = g) W1).set rfl _) fun b hb => ?_
          rw [hb]; exact off_of (hS.blk.ext hx1) (by decide))
        have HBx3 : Hid (Blk W3 wr.heap.size #[.int .i64 xto, .int .u8 xk, .slice av xl.length cv] 58) := hid (by
          rw [hW3]
          exact hBx.set_ne (fun e => (hS.blk.ext hx1).ty_ne hBx (by decide) e) _)
        have Hnew : Hid (¬ ShOwn g m1 m2 f1 f2 vt' vo wr.heap.size) := hid fun hb => by
          have h1 : ShOwn g m1 m2 f1 f2 (.slice (some ⟨gq, off, none⟩) t.todo.length cap) vo wr.heap.size := by
            rcases hb with hb | hb | hb | hb | hb | hb | hb
            · exact .inl hb
            · exact .inr (.inl hb)
            · exact .inr (.inr (.inl hb))
            · exact .inr (.inr (.inr (.inl hb)))
            · exact .inr (.inr (.inr (.inr (.inl hb))))
            · exact .inr (.inr (.inr (.inr (.inr (.inl (by rw [← hvb]; exact hb))))))
            · exact .inr (.inr (.inr (.inr (.inr (.inr hb)))))
          have := hS.own_lt h1
          omega
        have HK3 : Hid (Keep (fun b => ¬ F b) w W3) := hid (by
          rw [hW3]
          exact (HK.out.ext_r hx1).set (hS.own g (.inl rfl)) _)
        clear hvt hvt2 hvt3 hvb hW1 hx1 hBx hcut hW3 hm hm0 hcr hcap hne hnum hc1
        rcases hxi with ⟨hk, n, l, hxl, hn, hto, hlo⟩ | ⟨hk, a, b, hxl, ha, hto, hb⟩
        · simp only at hk hxl hto
          subst hk
          subst hxl
          obtain ⟨n, rfl⟩ := Int.eq_ofNat_of_zero_le hn.1
          simp only [List.length_cons] at q2 b10' f10' HW3 HBx3 Hnum
          have Hok1 : Hid (s1.Ok c.P (c.me : Nat) (c.k : Nat)) := hid (by rw [hs1]; exact todo_ok Hok.out.1 hl)
          have Hph1 : Hid (s1.phi ≤ 600000000) := hid (by
            have h1 := load_phi s1
            have h2 := Hok.out.2
            have h3 := Hph.out
            have h4 : s1.phi ≤ t.phi := by
              rw [hs1]
              unfold SH.phi SH.load
              rw [hl, List.length_cons]
              simp only
              omega
            omega)
          have Hless := hid (step_less Hw.out Hok.out.1 (by rw [hl]; simp)).2
          have Hrs := hid (Hrt.out.step (by rw [hl]; simp))
          have Hstp : Hid (t.step c.P (c.me : Nat) (c.k : Nat) = s1.note c.P (c.me : Nat) (c.k : Nat) ⟨xto, 100, ((n : Int) :: l)⟩) := hid (by unfold SH.step; rw [hl, hs1])
          have Hlo := hid hlo
          have Hn := hid hn
          have Hnm : Hid ((n : Int) % (c.k : Int) = (c.me : Int)) := hid (hto.symm.trans hxm)
          have Hst1 : Hid (t.step c.P (c.me : Nat) (c.k : Nat) = l.foldl (SH.comes c.P (c.me : Nat) (c.k : Nat) (n : Int)) s1) := hid (by rw [Hstp.out]; rfl)
          clear hlo hn hto hxm hl hs1 hS
          have HSx := hid HS3.out.whole
          have Hwh : Hid (∀ b, F b → b < W3.heap.size ∧ ¬ ShOwn g m1 m2 f1 f2 vt' vo b) := hid fun b hb => ⟨HS3.out.flt b hb, fun q => HS3.out.own b q hb⟩
          have Hnf : Hid (∀ b, (Value.slice av (l.length + 1) cv).ownBlock = some b → b < W3.heap.size ∧ ¬ ShOwn g m1 m2 f1 f2 vt' vo b) := hid fun b hb => by
            obtain ⟨c', hc⟩ := own_ty Hnum.out hb
            exact ⟨hc.lt, HS3.out.not_own hc (by decide) (by decide)⟩
          have Hbf : Hid (wr.heap.size < W3.heap.size ∧ ¬ ShOwn g m1 m2 f1 f2 vt' vo wr.heap.size) := hid ⟨HBx3.out.lt, Hnew.out⟩
          have HSat : Hid (ShAt W3 G (fun b => b < W3.heap.size ∧ ¬ ShOwn g m1 m2 f1 f2 vt' vo b) g c s1) := hid ⟨_, _, _, _, _, _, _, _, HSx.out⟩
          generalize hF' : (fun b => b < W3.heap.size ∧ ¬ ShOwn g m1 m2 f1 f2 vt' vo b) = F' at HSat
          have HF1 : Hid (∀ b, F b → F' b) := hid fun b hb => by rw [← hF']; exact Hwh.out b hb
          have HnF : Hid (∀ b, (Value.slice av (l.length + 1) cv).ownBlock = some b → F' b) := hid fun b hb => by rw [← hF']; exact Hnf.out b hb
          have HbF : Hid (F' wr.heap.size) := hid (by rw [← hF']; exact Hbf.out)
          have HgF := hid HS3.out.gf
          clear hF' Hwh Hnf Hbf HSx
          have dk2 := HBx3.out.kc (X := fun b => ¬ F' b) (fun h => h HbF.out) 2 rfl
          have d1 := HBx3.out.av 1 rfl
          have d2 := HBx3.out.av 2 rfl
          simp only [qA0, qA1, qA2] at dk2 d1 d2
          obtain ⟨gn, cn, hge⟩ := own_some Hnum.out (by simp)
          simp only [Value.slice.injEq] at hge
          obtain ⟨rfl, -, rfl⟩ := hge
          have hgn : ¬ ¬ F' gn := fun h => h (HnF.out gn rfl)
          have n0 : ∀ w1, Keep (fun b => ¬ F' b) W3 w1 → w1.cell? ⟨gn, 0, none⟩ = some (.int .i64 (n : Int)) := fun w1 k => k.cellx (own_i Hnum.out (i := 0) (x := (n : Int)) rfl) hgn
          have hcl : l.length + 1 ≤ cv ∧ (cv : Int) ≤ 9223372036854775807 := by
            obtain ⟨_, hx | ⟨_, _, _, hx, _, _, hx4, hx5, _⟩⟩ := Hnum.out
            · cases hx.1
            · simp only [Value.slice.injEq] at hx
              unfold maxLen at hx5
              rw [hx.2.2]
              simp only [List.length_cons] at hx4
              exact ⟨hx4, by omega⟩
          rw [HW3.out] at d1 d2
          by_cases hcv : cv = 1
          · subst hcv
            obtain rfl : l = [] := List.eq_nil_of_length_eq_zero (by omega)
            simp only [List.length_nil, Nat.zero_add] at q2 b10' f10' HW3 HBx3 Hnum dk2 d1 d2
            go_wp2
            rw [← HW3.out]
            go_loopw [44] (fun t44 w2 => t44 = .int .i64 0 ∧ w2 = W3) (fun _ _ => 0)
            case atStart => exact ⟨rfl, rfl⟩
            case round =>
              clear d1 d2 dk2 n0
              obtain ⟨rfl, hw2⟩ := hrel
              rw [hw2]
              have HS7 : Hid (ShAt W3 G F g c (t.step c.P (c.me : Nat) (c.k : Nat))) := hid (by rw [Hst1.out]; exact HSat.out.less HgF.out HF1.out)
              go_wp2
              go_roundw
              case rel => exact ⟨_, Hrs.out, HS7.out, HK3.out⟩
              case measure =>
                rw [← Hmu.out]
                exact Nat.lt_of_le_of_lt (shMes_le Hrs.out HS7.out) Hless.out
          · have nj : ∀ (j : Nat) (x : Int), l[j]? = some x → ∀ w1, Keep (fun b => ¬ F' b) W3 w1 → w1.cell? ⟨gn, 1 + j, none⟩ = some (.int .i64 x) := fun j x h w1 k => k.cellx (own_i Hnum.out (i := 1 + j) (x := x) (by rw [Nat.add_comm, List.getElem?_cons_succ]; exact h)) hgn
            go_wp2
            rw [← HW3.out]
            go_loopw [44] (fun t44 w2 => ∃ j : Nat, t44 = .int .i64 (j : Int) ∧ j ≤ l.length ∧ ShAt w2 G F' g c ((l.take j).foldl (SH.comes c.P (c.me : Nat) (c.k : Nat) (n : Int)) s1) ∧ Keep (fun b => ¬ F' b) W3 w2) (fun t44 _ => l.length - (intOf t44).toNat)
            case atStart => exact ⟨0, rfl, Nat.zero_le _, HSat.out, Keep.refl _ _⟩
            case round =>
              clear d1
              obtain ⟨j, rfl, hj, hS5, hK5⟩ := hrel
              have HK5 := hid hK5
              have e2 := dk2 _ hK5
              have e0 := n0 _ hK5
              by_cases hlt : j < l.length
              · obtain ⟨x, hqx⟩ : ∃ x, l[j]? = some x := ⟨_, List.getElem?_eq_getElem hlt⟩
                obtain ⟨hx0, hx1⟩ := Hlo.out x (List.mem_of_getElem? hqx)
                obtain ⟨o, rfl⟩ := Int.eq_ofNat_of_zero_le hx0
                have e1 := nj j (o : Int) hqx _ hK5
                obtain ⟨hokj, hphj⟩ := comes_take (j := j) Hw.out Hn.out Hnm.out Hok1.out Hlo.out
                have Hn2 : Hid ((l.take (j + 1)).foldl (SH.comes c.P (c.me : Nat) (c.k : Nat) (n : Int)) s1 = SH.came c.P (c.me : Nat) (c.k : Nat) ((l.take j).foldl (SH.comes c.P (c.me : Nat) (c.k : Nat) (n : Int)) s1) ((n : Int), (o : Int))) := hid (by rw [List.take_add_one, hqx, List.foldl_append]; rfl)
                have HC := hid (shardcame_any c ((l.take j).foldl (SH.comes c.P (c.me : Nat) (c.k : Nat) (n : Int)) s1) n o _ G F' g hS5 hokj (by have := Hn.out; omega) (by omega) (by have := load_phi ((l.take j).foldl (SH.comes c.P (c.me : Nat) (c.k : Nat) (n : Int)) s1); have := Hph1.out; omega))
                clear hS5 hK5 hqx hx0 hx1 hokj hphj
                go_wp2_with fail
                refine HC.out.mono ?_
                intro z w6 hx
                obtain ⟨rfl, hS6, hK6⟩ := hx
                have HS6 := hid hS6
                have HK6 := hid hK6
                clear hS6 hK6 HC e0 e1 e2
                go_wp2
                go_roundw
                case rel =>
                  refine ⟨j + 1, by go_num, by omega, ?_, ?_⟩
                  · rw [Hn2.out]; exact HS6.out
                  · exact HK5.out.trans HK6.out
                case measure => simp [intOf]; omega
              · obtain rfl : j = l.length := by omega
                rw [List.take_length, ← Hst1.out] at hS5
                have HS7 := hid (hS5.less HgF.out HF1.out)
                have HK7 := hid (HK3.out.trans (HK5.out.mono fun b _ hx hF => hx (HF1.out b hF)))
                clear hS5 hK5 e0 e2
                go_wp2
                go_roundw
                case rel => exact ⟨_, Hrs.out, HS7.out, HK7.out⟩
                case measure =>
                  rw [← Hmu.out]
                  exact Nat.lt_of_le_of_lt (shMes_le Hrs.out HS7.out) Hless.out
        · simp only at hk hxl hto
          subst hk
          subst hxl
          obtain ⟨a, rfl⟩ := Int.eq_ofNat_of_zero_le ha.1
          obtain ⟨b, rfl⟩ := Int.eq_ofNat_of_zero_le hb.1
          simp only [List.length_cons, List.length_nil, Nat.zero_add, Nat.reduceAdd] at q2 b10' f10' HW3 HBx3 Hnum
          have Hok1 : Hid (s1.Ok c.P (c.me : Nat) (c.k : Nat)) := hid (by rw [hs1]; exact todo_ok Hok.out.1 hl)
          have Hph1 : Hid (s1.phi ≤ 600000000) := hid (by
            have h1 := load_phi s1
            have h2 := Hok.out.2
            have h3 := Hph.out
            have h4 : s1.phi ≤ t.phi := by
              rw [hs1]
              unfold SH.phi SH.load
              rw [hl, List.length_cons]
              simp only
              omega
            omega)
          have Hless := hid (step_less Hw.out Hok.out.1 (by rw [hl]; simp)).2
          have Hrs := hid (Hrt.out.step (by rw [hl]; simp))
          have Hstp : Hid (t.step c.P (c.me : Nat) (c.k : Nat) = s1.note c.P (c.me : Nat) (c.k : Nat) ⟨xto, 101, [(a : Int), (b : Int)]⟩) := hid (by unfold SH.step; rw [hl, hs1])
          clear hto hxm hl hs1 hS
          have HSx := hid HS3.out.whole
          have Hwh : Hid (∀ b, F b → b < W3.heap.size ∧ ¬ ShOwn g m1 m2 f1 f2 vt' vo b) := hid fun b hb => ⟨HS3.out.flt b hb, fun q => HS3.out.own b q hb⟩
          have Hnf : Hid (∀ b, (Value.slice av 2 cv).ownBlock = some b → b < W3.heap.size ∧ ¬ ShOwn g m1 m2 f1 f2 vt' vo b) := hid fun b hb => by
            obtain ⟨c', hc⟩ := own_ty Hnum.out hb
            exact ⟨hc.lt, HS3.out.not_own hc (by decide) (by decide)⟩
          have Hbf : Hid (wr.heap.size < W3.heap.size ∧ ¬ ShOwn g m1 m2 f1 f2 vt' vo wr.heap.size) := hid ⟨HBx3.out.lt, Hnew.out⟩
          have HSat : Hid (ShAt W3 G (fun b => b < W3.heap.size ∧ ¬ ShOwn g m1 m2 f1 f2 vt' vo b) g c s1) := hid ⟨_, _, _, _, _, _, _, _, HSx.out⟩
          generalize hF' : (fun b => b < W3.heap.size ∧ ¬ ShOwn g m1 m2 f1 f2 vt' vo b) = F' at HSat
          have HF1 : Hid (∀ b, F b → F' b) := hid fun b hb => by rw [← hF']; exact Hwh.out b hb
          have HnF : Hid (∀ b, (Value.slice av 2 cv).ownBlock = some b → F' b) := hid fun b hb => by rw [← hF']; exact Hnf.out b hb
          have HbF : Hid (F' wr.heap.size) := hid (by rw [← hF']; exact Hbf.out)
          have HgF := hid HS3.out.gf
          clear hF' Hwh Hnf Hbf HSx
          have dk2 := HBx3.out.kc (X := fun b => ¬ F' b) (fun h => h HbF.out) 2 rfl
          have d1 := HBx3.out.av 1 rfl
          simp only [qA0, qA1, qA2] at dk2 d1
          obtain ⟨gn, cn, hge⟩ := own_some Hnum.out (by simp)
          simp only [Value.slice.injEq] at hge
          obtain ⟨rfl, -, rfl⟩ := hge
          have hgn : ¬ ¬ F' gn := fun h => h (HnF.out gn rfl)
          have n0 : ∀ w1, Keep (fun b => ¬ F' b) W3 w1 → w1.cell? ⟨gn, 0, none⟩ = some (.int .i64 (a : Int)) := fun w1 k => k.cellx (own_i Hnum.out (i := 0) (x := (a : Int)) rfl) hgn
          have n1 : ∀ w1, Keep (fun b => ¬ F' b) W3 w1 → w1.cell? ⟨gn, 1, none⟩ = some (.int .i64 (b : Int)) := fun w1 k => k.cellx (own_i Hnum.out (i := 1) (x := (b : Int)) rfl) hgn
          have HJ := fun w5 (x : Ext W3 w5) => hid (shardjoined_any c s1 a b w5 G F' g (HSat.out.ext x) Hok1.out (by omega) (by omega) (by have := load_phi s1; have := Hph1.out; omega))
          have hcl : 2 ≤ cv := by
            obtain ⟨_, hx | ⟨_, _, _, hx, _, _, hx4, _⟩⟩ := Hnum.out
            · cases hx.1
            · simp only [Value.slice.injEq] at hx
              rw [hx.2.2]; exact hx4
          rw [HW3.out] at d1
          go_wp2
          rw [← HW3.out]
          refine wp_flowT (fun b => ¬ F' b) (by kernel_rfl) (by kernel_rfl) ?_
          repeat (apply FlowT.d; (intro w1 hk; unfold does; go_simp; (try go_ints); (first | exact DetR.mk | (simp only [↓IntWalk.iteOmega, Oper.doesUpon_value]; exact DetR.mk) | (simp only [↓IntWalk.iteOmega]; go_simp; (try go_ints); exact DetR.mk))); simp only [Act.put, qS0, qS1, qS2])
          refine FlowT.s (fun v w' => v = .tuple #[] ∧ ShAt w' G F' g c (s1.joined (c.me : Nat) (c.k : Nat) ((a : Int), (b : Int))) ∧ Keep (fun b => ¬ F' b) W3 w') 9 rfl (by kernel_rfl) (fun _ _ _ ⟨h1, h2, h3⟩ y => ⟨h1, h2.ext y, h3.ext_r y⟩) (fun w5 hC hk => ?_) ?_
          · unfold does
            go_simp
            refine CallR.act ((HJ w5 hC).out.mono ?_)
            rintro e w6 ⟨rfl, h2, h3⟩
            exact ⟨_, rfl, hk.trans h3, rfl, h2, (hC.keep _).trans h3⟩
          rintro _ ⟨_, rfl, _, _⟩
          simp only [Act.put, qS0, qS1, qS2]
          refine FlowT.fin fun w7 hC7 hk7 => ?_
          obtain ⟨_, hS7, hK7⟩ := hC7
          have HS7 := hid (hS7.less HgF.out HF1.out)
          have HK7 := hid (HK3.out.trans (hK7.mono fun b _ hx hF => hx (HF1.out b hF)))
          clear hS7 hK7 hk7 dk2 d1 n0 n1 HJ
          go_wp2
          go_roundw
          case rel => exact ⟨_, Hrs.out, by rw [Hstp.out]; exact HS7.out, HK7.out⟩
          case measure =>
            rw [← Hmu.out]
            exact Nat.lt_of_le_of_lt (shMes_le Hrs.out (by rw [Hstp.out]; exact HS7.out)) Hless.out
      · have hvt3 : vt' = .slice (some ⟨gq, off + 3, none⟩) m (cap - 1) := by rw [hvt2, if_neg hc1]
        have HW3 : Hid (W3 = (wr.alloc (.cells #[.int .i64 xto, .int .u8 xk, .slice av xl.length cv] 58)).setCell ⟨g, 10, none⟩ (.slice (some ⟨gq, off + 3, none⟩) m (cap - 1))) := hid (by rw [hW3, hW1, hvt3])
        have hmc : m + 1 ≤ cap := by omega
        have HS3 := hid hcut
        have Hnum : Hid (IRow 0 W3 (.slice av xl.length cv) xl) := hid (by
          rw [hW3]
          refine own_off (own_ext hnum hx1) ((Keep.refl (fun q => q = g) W1).set rfl _) fun b hb => ?_
          rw [hb]; exact off_of (hS.blk.ext hx1) (by decide))
        have HBx3 : Hid (Blk W3 wr.heap.size #[.int .i64 xto, .int .u8 xk, .slice av xl.length cv] 58) := hid (by
          rw [hW3]
          exact hBx.set_ne (fun e => (hS.blk.ext hx1).ty_ne hBx (by decide) e) _)
        have Hnew : Hid (¬ ShOwn g m1 m2 f1 f2 vt' vo wr.heap.size) := hid fun hb => by
          have h1 : ShOwn g m1 m2 f1 f2 (.slice (some ⟨gq, off, none⟩) t.todo.length cap) vo wr.heap.size := by
            rcases hb with hb | hb | hb | hb | hb | hb | hb
            · exact .inl hb
            · exact .inr (.inl hb)
            · exact .inr (.inr (.inl hb))
            · exact .inr (.inr (.inr (.inl hb)))
            · exact .inr (.inr (.inr (.inr (.inl hb))))
            · exact .inr (.inr (.inr (.inr (.inr (.inl (by rw [← hvb]; exact hb))))))
            · exact .inr (.inr (.inr (.inr (.inr (.inr hb)))))
          have := hS.own_lt h1
          omega
        have HK3 : Hid (Keep (fun b => ¬ F b) w W3) := hid (by
          rw [hW3]
          exact (HK.out.ext_r hx1).set (hS.own g (.inl rfl)) _)
        clear hvt hvt2 hvt3 hvb hW1 hx1 hBx hcut hW3 hm hcr hcap hne hnum
        rcases hxi with ⟨hk, n, l, hxl, hn, hto, hlo⟩ | ⟨hk, a, b, hxl, ha, hto, hb⟩
        · simp only at hk hxl hto
          subst hk
          subst hxl
          obtain ⟨n, rfl⟩ := Int.eq_ofNat_of_zero_le hn.1
          simp only [List.length_cons] at q2 b10' f10' HW3 HBx3 Hnum
          have Hok1 : Hid (s1.Ok c.P (c.me : Nat) (c.k : Nat)) := hid (by rw [hs1]; exact todo_ok Hok.out.1 hl)
          have Hph1 : Hid (s1.phi ≤ 600000000) := hid (by
            have h1 := load_phi s1
            have h2 := Hok.out.2
            have h3 := Hph.out
            have h4 : s1.phi ≤ t.phi := by
              rw [hs1]
              unfold SH.phi SH.load
              rw [hl, List.length_cons]
              simp only
              omega
            omega)
          have Hless := hid (step_less Hw.out Hok.out.1 (by rw [hl]; simp)).2
          have Hrs := hid (Hrt.out.step (by rw [hl]; simp))
          have Hstp : Hid (t.step c.P (c.me : Nat) (c.k : Nat) = s1.note c.P (c.me : Nat) (c.k : Nat) ⟨xto, 100, ((n : Int) :: l)⟩) := hid (by unfold SH.step; rw [hl, hs1])
          have Hlo := hid hlo
          have Hn := hid hn
          have Hnm : Hid ((n : Int) % (c.k : Int) = (c.me : Int)) := hid (hto.symm.trans hxm)
          have Hst1 : Hid (t.step c.P (c.me : Nat) (c.k : Nat) = l.foldl (SH.comes c.P (c.me : Nat) (c.k : Nat) (n : Int)) s1) := hid (by rw [Hstp.out]; rfl)
          clear hlo hn hto hxm hl hs1 hS
          have HSx := hid HS3.out.whole
          have Hwh : Hid (∀ b, F b → b < W3.heap.size ∧ ¬ ShOwn g m1 m2 f1 f2 vt' vo b) := hid fun b hb => ⟨HS3.out.flt b hb, fun q => HS3.out.own b q hb⟩
          have Hnf : Hid (∀ b, (Value.slice av (l.length + 1) cv).ownBlock = some b → b < W3.heap.size ∧ ¬ ShOwn g m1 m2 f1 f2 vt' vo b) := hid fun b hb => by
            obtain ⟨c', hc⟩ := own_ty Hnum.out hb
            exact ⟨hc.lt, HS3.out.not_own hc (by decide) (by decide)⟩
          have Hbf : Hid (wr.heap.size < W3.heap.size ∧ ¬ ShOwn g m1 m2 f1 f2 vt' vo wr.heap.size) := hid ⟨HBx3.out.lt, Hnew.out⟩
          have HSat : Hid (ShAt W3 G (fun b => b < W3.heap.size ∧ ¬ ShOwn g m1 m2 f1 f2 vt' vo b) g c s1) := hid ⟨_, _, _, _, _, _, _, _, HSx.out⟩
          generalize hF' : (fun b => b < W3.heap.size ∧ ¬ ShOwn g m1 m2 f1 f2 vt' vo b) = F' at HSat
          have HF1 : Hid (∀ b, F b → F' b) := hid fun b hb => by rw [← hF']; exact Hwh.out b hb
          have HnF : Hid (∀ b, (Value.slice av (l.length + 1) cv).ownBlock = some b → F' b) := hid fun b hb => by rw [← hF']; exact Hnf.out b hb
          have HbF : Hid (F' wr.heap.size) := hid (by rw [← hF']; exact Hbf.out)
          have HgF := hid HS3.out.gf
          clear hF' Hwh Hnf Hbf HSx
          have dk2 := HBx3.out.kc (X := fun b => ¬ F' b) (fun h => h HbF.out) 2 rfl
          have d1 := HBx3.out.av 1 rfl
          have d2 := HBx3.out.av 2 rfl
          simp only [qA0, qA1, qA2] at dk2 d1 d2
          obtain ⟨gn, cn, hge⟩ := own_some Hnum.out (by simp)
          simp only [Value.slice.injEq] at hge
          obtain ⟨rfl, -, rfl⟩ := hge
          have hgn : ¬ ¬ F' gn := fun h => h (HnF.out gn rfl)
          have n0 : ∀ w1, Keep (fun b => ¬ F' b) W3 w1 → w1.cell? ⟨gn, 0, none⟩ = some (.int .i64 (n : Int)) := fun w1 k => k.cellx (own_i Hnum.out (i := 0) (x := (n : Int)) rfl) hgn
          have hcl : l.length + 1 ≤ cv ∧ (cv : Int) ≤ 9223372036854775807 := by
            obtain ⟨_, hx | ⟨_, _, _, hx, _, _, hx4, hx5, _⟩⟩ := Hnum.out
            · cases hx.1
            · simp only [Value.slice.injEq] at hx
              unfold maxLen at hx5
              rw [hx.2.2]
              simp only [List.length_cons] at hx4
              exact ⟨hx4, by omega⟩
          rw [HW3.out] at d1 d2
          by_cases hcv : cv = 1
          · subst hcv
            obtain rfl : l = [] := List.eq_nil_of_length_eq_zero (by omega)
            simp only [List.length_nil, Nat.zero_add] at q2 b10' f10' HW3 HBx3 Hnum dk2 d1 d2
            go_wp2
            rw [← HW3.out]
            go_loopw [44] (fun t44 w2 => t44 = .int .i64 0 ∧ w2 = W3) (fun _ _ => 0)
            case atStart => exact ⟨rfl, rfl⟩
            case round =>
              clear d1 d2 dk2 n0
              obtain ⟨rfl, hw2⟩ := hrel
              rw [hw2]
              have HS7 : Hid (ShAt W3 G F g c (t.step c.P (c.me : Nat) (c.k : Nat))) := hid (by rw [Hst1.out]; exact HSat.out.less HgF.out HF1.out)
              go_wp2
              go_roundw
              case rel => exact ⟨_, Hrs.out, HS7.out, HK3.out⟩
              case measure =>
                rw [← Hmu.out]
                exact Nat.lt_of_le_of_lt (shMes_le Hrs.out HS7.out) Hless.out
          · have nj : ∀ (j : Nat) (x : Int), l[j]? = some x → ∀ w1, Keep (fun b => ¬ F' b) W3 w1 → w1.cell? ⟨gn, 1 + j, none⟩ = some (.int .i64 x) := fun j x h w1 k => k.cellx (own_i Hnum.out (i := 1 + j) (x := x) (by rw [Nat.add_comm, List.getElem?_cons_succ]; exact h)) hgn
            go_wp2
            rw [← HW3.out]
            go_loopw [44] (fun t44 w2 => ∃ j : Nat, t44 = .int .i64 (j : Int) ∧ j ≤ l.length ∧ ShAt w2 G F' g c ((l.take j).foldl (SH.comes c.P (c.me : Nat) (c.k : Nat) (n : Int)) s1) ∧ Keep (fun b => ¬ F' b) W3 w2) (fun t44 _ => l.length - (intOf t44).toNat)
            case atStart => exact ⟨0, rfl, Nat.zero_le _, HSat.out, Keep.refl _ _⟩
            case round =>
              clear d1
              obtain ⟨j, rfl, hj, hS5, hK5⟩ := hrel
              have HK5 := hid hK5
              have e2 := dk2 _ hK5
              have e0 := n0 _ hK5
              by_cases hlt : j < l.length
              · obtain ⟨x, hqx⟩ : ∃ x, l[j]? = some x := ⟨_, List.getElem?_eq_getElem hlt⟩
                obtain ⟨hx0, hx1⟩ := Hlo.out x (List.mem_of_getElem? hqx)
                obtain ⟨o, rfl⟩ := Int.eq_ofNat_of_zero_le hx0
                have e1 := nj j (o : Int) hqx _ hK5
                obtain ⟨hokj, hphj⟩ := comes_take (j := j) Hw.out Hn.out Hnm.out Hok1.out Hlo.out
                have Hn2 : Hid ((l.take (j + 1)).foldl (SH.comes c.P (c.me : Nat) (c.k : Nat) (n : Int)) s1 = SH.came c.P (c.me : Nat) (c.k : Nat) ((l.take j).foldl (SH.comes c.P (c.me : Nat) (c.k : Nat) (n : Int)) s1) ((n : Int), (o : Int))) := hid (by rw [List.take_add_one, hqx, List.foldl_append]; rfl)
                have HC := hid (shardcame_any c ((l.take j).foldl (SH.comes c.P (c.me : Nat) (c.k : Nat) (n : Int)) s1) n o _ G F' g hS5 hokj (by have := Hn.out; omega) (by omega) (by have := load_phi ((l.take j).foldl (SH.comes c.P (c.me : Nat) (c.k : Nat) (n : Int)) s1); have := Hph1.out; omega))
                clear hS5 hK5 hqx hx0 hx1 hokj hphj
                go_wp2_with fail
                refine HC.out.mono ?_
                intro z w6 hx
                obtain ⟨rfl, hS6, hK6⟩ := hx
                have HS6 := hid hS6
                have HK6 := hid hK6
                clear hS6 hK6 HC e0 e1 e2
                go_wp2
                go_roundw
                case rel =>
                  refine ⟨j + 1, by go_num, by omega, ?_, ?_⟩
                  · rw [Hn2.out]; exact HS6.out
                  · exact HK5.out.trans HK6.out
                case measure => simp [intOf]; omega
              · obtain rfl : j = l.length := by omega
                rw [List.take_length, ← Hst1.out] at hS5
                have HS7 := hid (hS5.less HgF.out HF1.out)
                have HK7 := hid (HK3.out.trans (HK5.out.mono fun b _ hx hF => hx (HF1.out b hF)))
                clear hS5 hK5 e0 e2
                go_wp2
                go_roundw
                case rel => exact ⟨_, Hrs.out, HS7.out, HK7.out⟩
                case measure =>
                  rw [← Hmu.out]
                  exact Nat.lt_of_le_of_lt (shMes_le Hrs.out HS7.out) Hless.out
        · simp only at hk hxl hto
          subst hk
          subst hxl
          obtain ⟨a, rfl⟩ := Int.eq_ofNat_of_zero_le ha.1
          obtain ⟨b, rfl⟩ := Int.eq_ofNat_of_zero_le hb.1
          simp only [List.length_cons, List.length_nil, Nat.zero_add, Nat.reduceAdd] at q2 b10' f10' HW3 HBx3 Hnum
          have Hok1 : Hid (s1.Ok c.P (c.me : Nat) (c.k : Nat)) := hid (by rw [hs1]; exact todo_ok Hok.out.1 hl)
          have Hph1 : Hid (s1.phi ≤ 600000000) := hid (by
            have h1 := load_phi s1
            have h2 := Hok.out.2
            have h3 := Hph.out
            have h4 : s1.phi ≤ t.phi := by
              rw [hs1]
              unfold SH.phi SH.load
              rw [hl, List.length_cons]
              simp only
              omega
            omega)
          have Hless := hid (step_less Hw.out Hok.out.1 (by rw [hl]; simp)).2
          have Hrs := hid (Hrt.out.step (by rw [hl]; simp))
          have Hstp : Hid (t.step c.P (c.me : Nat) (c.k : Nat) = s1.note c.P (c.me : Nat) (c.k : Nat) ⟨xto, 101, [(a : Int), (b : Int)]⟩) := hid (by unfold SH.step; rw [hl, hs1])
          clear hto hxm hl hs1 hS
          have HSx := hid HS3.out.whole
          have Hwh : Hid (∀ b, F b → b < W3.heap.size ∧ ¬ ShOwn g m1 m2 f1 f2 vt' vo b) := hid fun b hb => ⟨HS3.out.flt b hb, fun q => HS3.out.own b q hb⟩
          have Hnf : Hid (∀ b, (Value.slice av 2 cv).ownBlock = some b → b < W3.heap.size ∧ ¬ ShOwn g m1 m2 f1 f2 vt' vo b) := hid fun b hb => by
            obtain ⟨c', hc⟩ := own_ty Hnum.out hb
            exact ⟨hc.lt, HS3.out.not_own hc (by decide) (by decide)⟩
          have Hbf : Hid (wr.heap.size < W3.heap.size ∧ ¬ ShOwn g m1 m2 f1 f2 vt' vo wr.heap.size) := hid ⟨HBx3.out.lt, Hnew.out⟩
          have HSat : Hid (ShAt W3 G (fun b => b < W3.heap.size ∧ ¬ ShOwn g m1 m2 f1 f2 vt' vo b) g c s1) := hid ⟨_, _, _, _, _, _, _, _, HSx.out⟩
          generalize hF' : (fun b => b < W3.heap.size ∧ ¬ ShOwn g m1 m2 f1 f2 vt' vo b) = F' at HSat
          have HF1 : Hid (∀ b, F b → F' b) := hid fun b hb => by rw [← hF']; exact Hwh.out b hb
          have HnF : Hid (∀ b, (Value.slice av 2 cv).ownBlock = some b → F' b) := hid fun b hb => by rw [← hF']; exact Hnf.out b hb
          have HbF : Hid (F' wr.heap.size) := hid (by rw [← hF']; exact Hbf.out)
          have HgF := hid HS3.out.gf
          clear hF' Hwh Hnf Hbf HSx
          have dk2 := HBx3.out.kc (X := fun b => ¬ F' b) (fun h => h HbF.out) 2 rfl
          have d1 := HBx3.out.av 1 rfl
          simp only [qA0, qA1, qA2] at dk2 d1
          obtain ⟨gn, cn, hge⟩ := own_some Hnum.out (by simp)
          simp only [Value.slice.injEq] at hge
          obtain ⟨rfl, -, rfl⟩ := hge
          have hgn : ¬ ¬ F' gn := fun h => h (HnF.out gn rfl)
          have n0 : ∀ w1, Keep (fun b => ¬ F' b) W3 w1 → w1.cell? ⟨gn, 0, none⟩ = some (.int .i64 (a : Int)) := fun w1 k => k.cellx (own_i Hnum.out (i := 0) (x := (a : Int)) rfl) hgn
          have n1 : ∀ w1, Keep (fun b => ¬ F' b) W3 w1 → w1.cell? ⟨gn, 1, none⟩ = some (.int .i64 (b : Int)) := fun w1 k => k.cellx (own_i Hnum.out (i := 1) (x := (b : Int)) rfl) hgn
          have HJ := fun w5 (x : Ext W3 w5) => hid (shardjoined_any c s1 a b w5 G F' g (HSat.out.ext x) Hok1.out (by omega) (by omega) (by have := load_phi s1; have := Hph1.out; omega))
          have hcl : 2 ≤ cv := by
            obtain ⟨_, hx | ⟨_, _, _, hx, _, _, hx4, _⟩⟩ := Hnum.out
            · cases hx.1
            · simp only [Value.slice.injEq] at hx
              rw [hx.2.2]; exact hx4
          rw [HW3.out] at d1
          go_wp2
          rw [← HW3.out]
          refine wp_flowT (fun b => ¬ F' b) (by kernel_rfl) (by kernel_rfl) ?_
          repeat (apply FlowT.d; (intro w1 hk; unfold does; go_simp; (try go_ints); (first | exact DetR.mk | (simp only [↓IntWalk.iteOmega, Oper.doesUpon_value]; exact DetR.mk) | (simp only [↓IntWalk.iteOmega]; go_simp; (try go_ints); exact DetR.mk))); simp only [Act.put, qS0, qS1, qS2])
          refine FlowT.s (fun v w' => v = .tuple #[] ∧ ShAt w' G F' g c (s1.joined (c.me : Nat) (c.k : Nat) ((a : Int), (b : Int))) ∧ Keep (fun b => ¬ F' b) W3 w') 9 rfl (by kernel_rfl) (fun _ _ _ ⟨h1, h2, h3⟩ y => ⟨h1, h2.ext y, h3.ext_r y⟩) (fun w5 hC hk => ?_) ?_
          · unfold does
            go_simp
            refine CallR.act ((HJ w5 hC).out.mono ?_)
            rintro e w6 ⟨rfl, h2, h3⟩
            exact ⟨_, rfl, hk.trans h3, rfl, h2, (hC.keep _).trans h3⟩
          rintro _ ⟨_, rfl, _, _⟩
          simp only [Act.put, qS0, qS1, qS2]
          refine FlowT.fin fun w7 hC7 hk7 => ?_
          obtain ⟨_, hS7, hK7⟩ := hC7
          have HS7 := hid (hS7.less HgF.out HF1.out)
          have HK7 := hid (HK3.out.trans (hK7.mono fun b _ hx hF => hx (HF1.out b hF)))
          clear hS7 hK7 hk7 dk2 d1 n0 n1 HJ
          go_wp2
          go_roundw
          case rel => exact ⟨_, Hrs.out, by rw [Hstp.out]; exact HS7.out, HK7.out⟩
          case measure =>
            rw [← Hmu.out]
            exact Nat.lt_of_le_of_lt (shMes_le Hrs.out (by rw [Hstp.out]; exact HS7.out)) Hless.out
end Go.Proofs.YtihdpijgngooaaaGreatDoor
