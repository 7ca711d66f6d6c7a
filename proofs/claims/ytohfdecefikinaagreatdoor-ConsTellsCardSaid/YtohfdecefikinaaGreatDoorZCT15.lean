/- Texts of one proof, put together: YR YI T5 T6 T1 YN S5 YW. -/
import Derived.Test.YtohfdecefikinaaGreatDoorZCT05
import Derived.Test.YtohfdecefikinaaGreatDoorZCT10
import Derived.Test.YtohfdecefikinaaGreatDoorZCT12
import Derived.Test.YtohfdecefikinaaGreatDoorZCT13
import Derived.Test.YtohfdecefikinaaGreatDoorZCT14

/- slices.SortFunc over edges, in order of both numbers. -/
namespace Go.Proofs.YtohfdecefikinaaGreatDoor
set_option linter.unusedSimpArgs false
set_option linter.unusedVariables false
open Go Go.RowKit Go.Sort

/-- An edge of numbers from 0 to below 1000. -/
def InE (e : Int × Int) : Prop := 0 ≤ e.1 ∧ e.1 < 1000 ∧ 0 ≤ e.2 ∧ e.2 < 1000
abbrev SE := { e : Int × Int // InE e }
instance : Inhabited SE := ⟨⟨(0, 0), by unfold InE; omega⟩⟩
def seCells (x : SE) : List Value := eCells x.1
def seCmp (x y : SE) : Int := eCmp x.1 y.1
theorem eCmp_lt (a b : Int × Int) : eCmp a b < 0 ↔ lexLt a b := by
  unfold eCmp lexLt
  split <;> omega
theorem ltOf_se (x y : SE) : ltOf seCmp x y = true ↔ lexLt x.1 y.1 := by
  unfold ltOf seCmp
  rw [decide_eq_true_iff, eCmp_lt]
theorem ltOf_se_no (x y : SE) : ltOf seCmp x y = false ↔ ¬ lexLt x.1 y.1 := by
  rw [← ltOf_se, Bool.not_eq_true]
theorem se_swo : SWO (ltOf seCmp) where
  irrefl x := (ltOf_se_no x x).2 (lexLt.irr _)
  trans x y z h k := (ltOf_se x z).2 (((ltOf_se x y).1 h).trans ((ltOf_se y z).1 k))
  ntrans x y z h k := by
    rw [ltOf_se_no] at *
    unfold lexLt at *
    omega
theorem se_tot (x y : SE) (h : ltOf seCmp x y = false) (k : ltOf seCmp y x = false) : x = y := by
  rw [ltOf_se_no] at h k
  rcases lexLt.tri x.1 y.1 with g | g | g
  · exact absurd g h
  · exact Subtype.ext g
  · exact absurd g k
theorem se_of : ∀ l : List (Int × Int), (∀ e ∈ l, InE e) → ∃ d : List SE, d.map (·.1) = l
  | [], _ => ⟨[], rfl⟩
  | e :: l, h => by
    obtain ⟨d, hd⟩ := se_of l fun x hx => h x (List.mem_cons_of_mem _ hx)
    exact ⟨⟨e, h e List.mem_cons_self⟩ :: d, by rw [List.map_cons, hd]⟩
theorem flat_se (d : List SE) : (flatK seCells 2 d.toArray).toList = (d.map (·.1)).flatMap eCells := by
  apply List.ext_getElem?
  intro t
  have hlen : ((d.map (·.1)).flatMap eCells).length = d.length * 2 := by rw [fm_len eCells 2 eCells_len, List.length_map]
  by_cases ht : t < d.length * 2
  · have hi : t / 2 < d.length := by omega
    have e1 : ((d.map (·.1)).flatMap eCells)[t / 2 * 2 + t % 2]? = (eCells (d[t / 2]'hi).1)[t % 2]? := fm_get eCells 2 eCells_len _ _ _ _ (by rw [List.getElem?_map, List.getElem?_eq_getElem hi]; rfl) (by omega)
    rw [show t / 2 * 2 + t % 2 = t by omega] at e1
    rw [e1, Array.getElem?_toList]
    have e2 := get_flatK seCells 2 d.toArray t (by simpa using ht)
    rw [getElem!_pos (flatK seCells 2 d.toArray) t (by simpa using ht)] at e2
    rw [Array.getElem?_eq_getElem (by simpa using ht), e2]
    have e3 : d.toArray[t / 2]! = d[t / 2]'hi := by simp [getElem!_pos, hi]
    rw [e3]
    have hm : t % 2 < (seCells (d[t / 2]'hi)).length := by
      have : (seCells (d[t / 2]'hi)).length = 2 := rfl
      omega
    rw [getElem!_pos (seCells (d[t / 2]'hi)) (t % 2) hm]
    exact (List.getElem?_eq_getElem hm).symm
  · rw [List.getElem?_eq_none (by rw [Array.length_toList, size_flatK]; simp; omega), List.getElem?_eq_none (by rw [hlen]; omega)]
theorem putF_at {w : World} {g q : Nat} {cur : Array Value} {t : TypeId} {F : Array Value} {os : Array Obj} (hb : Blk w g cur t) :
    Blk (grow (putRow id (Sort.ahead w q) g 0 F) os) g (putCells id 0 F cur) t ∧ Keep (fun b => b = g) w (grow (putRow id (Sort.ahead w q) g 0 F) os) := by
  have hlt := hb.lt
  have hh : ∀ k, k < w.heap.size → (grow (putRow id (Sort.ahead w q) g 0 F) os).heap[k]? = (w.heap.modify g (onCells (putCells id 0 F)))[k]? := fun k hk => by
    unfold grow putRow mapBlock Sort.ahead
    simp only
    rw [Array.getElem?_append_left (by simpa using hk)]
  constructor
  · unfold Blk
    rw [hh g hlt, Array.getElem?_modify, if_pos rfl]
    have : w.heap[g]? = some (.cells cur t (0, 0)) := hb
    rw [this]
    rfl
  · refine ⟨rfl, rfl, rfl, ?_, fun k hk hx => ?_⟩
    · unfold grow putRow mapBlock Sort.ahead
      simp
    · rw [hh k hk, Array.getElem?_modify, if_neg (fun e => hx e.symm)]
theorem putF_cells (F cur : Array Value) (hc : F.size ≤ cur.size) : (putCells id 0 F cur).toList.take F.size = F.toList := by
  apply List.ext_getElem?
  intro i
  rw [List.getElem?_take]
  by_cases hi : i < F.size
  · rw [if_pos hi, Array.getElem?_toList, Array.getElem?_toList]
    unfold putCells
    rw [Array.getElem?_mapIdx, Array.getElem?_eq_getElem (by omega), Array.getElem?_eq_getElem hi]
    simp only [Option.map_some, Nat.zero_le, true_and, Nat.zero_add, Nat.sub_zero]
    rw [if_pos hi]
    simp [getElem!_pos, hi]
  · rw [if_neg hi, List.getElem?_eq_none (by rw [Array.length_toList]; omega)]
theorem esort_le (d : List SE) : ((d.mergeSort fun x y => !(ltOf seCmp) y x).map (·.1)).Pairwise lexLe := by
  have h := List.pairwise_mergeSort (le := fun x y : SE => !(ltOf seCmp) y x) (fun a b c h1 h2 => by
    simp only [Bool.not_eq_true', ltOf_se_no] at h1 h2 ⊢
    unfold lexLt at *
    omega) (fun a b => by
    simp only [Bool.or_eq_true, Bool.not_eq_true', ltOf_se_no]
    unfold lexLt
    omega) d
  rw [List.pairwise_map]
  refine h.imp fun {a b} g => ?_
  simp only [Bool.not_eq_true', ltOf_se_no] at g
  rcases lexLt.tri a.1 b.1 with k | k | k
  · exact .inl k
  · exact .inr k
  · exact absurd k g

set_option maxRecDepth 100000 in
set_option maxHeartbeats 1600000 in
theorem esort_any (lv : Value) (l : List (Int × Int)) (hin : ∀ e ∈ l, InE e) (w0 w : World) (n0 : Nat) (hx0 : Ext w0 w) (hb0 : w0.heap.size ≤ n0) (hr : ERow n0 w lv l) (hfew : l.length ≤ 100000) :
    Calls Tryz.prog 40 #[lv, .func (.func 41) #[] #[]] w fun e w' => e = .returned (.tuple #[]) ∧ ∃ l', ERow n0 w' lv l' ∧ l'.length = l.length ∧ (∀ x, x ∈ l' ↔ x ∈ l) ∧ l'.Pairwise lexLe ∧ Ext w0 w' := by
  by_cases h0 : l.length = 0
  · obtain rfl := List.eq_nil_of_length_eq_zero h0
    obtain ⟨a, c, rfl⟩ := row_form hr
    refine (AnyF.slices_SortFunc_none Tryz.sortE a c (.func (.func 41) #[] #[]) w).mono ?_
    rintro e w' ⟨rfl, rfl⟩
    exact ⟨rfl, [], hr, rfl, fun x => Iff.rfl, List.Pairwise.nil, hx0⟩
  · obtain ⟨g, cap, rfl⟩ := own_some hr (by omega)
    obtain ⟨d, rfl⟩ := se_of l hin
    obtain ⟨cur, hb, hbase, hcap, hmx, hcs, htk⟩ := own_blk hr
    have hH : HoldsK seCells 2 w g 0 d.toArray := fun j hj => by
      have hj2 : j < d.length * 2 := by simpa using hj
      rw [Nat.zero_add]
      refine ⟨own_get hr j ?_, own_free hr j⟩
      rw [← flat_se, Array.getElem?_toList, Array.getElem?_eq_getElem hj, getElem!_pos (flatK seCells 2 d.toArray) j hj]
      rfl
    have hC : CmpLays Tryz.prog 41 #[] seCells 2 seCmp g 0 d.toArray.size w := fun m os dk hs x y => by
      have h := consedgesc2_grow x.1 y.1 (sortWorldK seCells 2 w g 0 m dk os) x.2 y.2
      refine h.mono ?_
      rintro e w' ⟨rfl, os', rfl⟩
      exact ⟨rfl, 0, os', rfl⟩
    have hS := AnyQ.slices_SortFunc_total Tryz.sortE 2 Tryz.isAgg58 Tryz.sizeOf58 seCells (fun _ => rfl) (fun x v hv => eCells_one (E := [x.1]) v (by simpa [seCells] using hv)) seCmp se_swo 41 #[] g 0 cap d.toArray w (fun args w => by kernel_rfl) hC hH hb.lt (by simp at hfew ⊢; omega) se_tot
    have hsz : d.toArray.size = (d.map (·.1)).length := by simp
    rw [hsz] at hS
    refine hS.mono ?_
    rintro e w' ⟨rfl, q, os, rfl⟩
    obtain ⟨d', hd'⟩ : ∃ d', d' = d.mergeSort fun x y => !(ltOf seCmp) y x := ⟨_, rfl⟩
    have hp : d'.Perm d := by rw [hd']; exact List.mergeSort_perm _ _
    have hle := esort_le d
    rw [← hd'] at hle
    obtain ⟨p1, p2⟩ := putF_at (q := q) (F := flatK seCells 2 d'.toArray) (os := os) hb
    have hFs : (flatK seCells 2 d'.toArray).size = (d.map (·.1)).length * 2 := by rw [size_flatK]; simp [hp.length_eq]
    have hw : sortWorldK seCells 2 w g 0 q (d.toArray.toList.mergeSort fun x y => !(ltOf seCmp) y x).toArray os = grow (putRow id (Sort.ahead w q) g 0 (flatK seCells 2 d'.toArray)) os := by rw [hd']; rfl
    rw [hw]
    have hlen : (d'.map (·.1)).length = (d.map (·.1)).length := by simp [hp.length_eq]
    refine ⟨rfl, d'.map (·.1), ?_, hlen, fun x => (hp.map _).mem_iff, hle, Keep.new hx0 p2 fun b e => by rw [e]; exact Nat.le_trans hb0 hbase⟩
    unfold ERow
    rw [hlen]
    refine own_of_blk p1 hbase hcap hmx (by unfold putCells; rw [Array.size_mapIdx]; exact hcs) ?_
    rw [← hFs, putF_cells _ _ (by rw [hFs, hcs]; exact Nat.mul_le_mul_right _ hcap), flat_se]
end Go.Proofs.YtohfdecefikinaaGreatDoor


/- cons.Edges of a well program, with sets that are well. -/
namespace Go.Proofs.YtohfdecefikinaaGreatDoor
set_option linter.unusedSimpArgs false
set_option linter.unusedVariables false
open Go Go.RowKit

theorem compactE_upto (l : List (Int × Int)) : ∀ m, (Lib.compactUpTo l.toArray m).length ≤ m
  | 0 => by simp [Lib.compactUpTo]
  | m + 1 => by
    have := compactE_upto l m
    rw [Lib.compactUpTo_succ]
    split <;> simp <;> omega
theorem compactE_len (l : List (Int × Int)) : (Lib.compact l).length ≤ l.length := by
  unfold Lib.compact
  exact compactE_upto l _

theorem own_r {w : World} {base g n cap : Nat} {rs : List R2} (h : w.ownsRow base 46 5 (.slice (some ⟨g, 0, none⟩) n cap) n (rs.flatMap R2.cells)) {i : Nat} {x : R2} (hx : rs[i]? = some x) :
    w.cell? ⟨g, i * 5, none⟩ = some (.string x.r.kind) ∧ w.cell? ⟨g, i * 5 + 1, none⟩ = some (.int .i64 x.r.a) ∧ w.cell? ⟨g, i * 5 + 2, none⟩ = some (.int .i64 x.r.b) ∧ w.cell? ⟨g, i * 5 + 3, none⟩ = some (.int .i64 x.r.k) ∧ w.cell? ⟨g, i * 5 + 4, none⟩ = some x.v := by
  have c : ∀ j v, x.cells[j]? = some v → j < 5 → w.cell? ⟨g, i * 5 + j, none⟩ = some v := fun j v hv hj => own_get h _ ((fm_get R2.cells 5 R2.cells_len rs i j x hx hj).trans hv)
  exact ⟨c 0 _ rfl (by omega), c 1 _ rfl (by omega), c 2 _ rfl (by omega), c 3 _ rfl (by omega), c 4 _ rfl (by omega)⟩
theorem rules_at {P : PP} {rs : List R2} (h : rs.map R2.r = P.rulesV) {k : Nat} (hk : k < P.stmts.length) : ∃ x, rs[k]? = some x ∧ x.r = P.ruleV k (P.stAt k) := by
  have hl : rs.length = P.stmts.length := by have := congrArg List.length h; rw [List.length_map] at this; rw [this]; exact P.rulesUp_len _
  have hkr : k < rs.length := by omega
  refine ⟨rs[k], List.getElem?_eq_getElem hkr, ?_⟩
  have h1 : (rs.map R2.r)[k]? = some (rs[k]).r := by rw [List.getElem?_map, List.getElem?_eq_getElem hkr]; rfl
  rw [h] at h1
  unfold PP.rulesV PP.rulesUp at h1
  rw [List.getElem?_map, List.getElem?_range hk] at h1
  exact (Option.some.inj h1).symm
theorem sets_nil {ad : Nat → Addr} {P : PP} {has : List (List Int)} {w : World} {v : Value} (h : SetsIs ad P has w v) (hl : has.length = P.nodesV) (he : ∀ l ∈ has, P.setE l = 0) : v = .nilIface := by
  rcases h with ⟨h, _⟩ | ⟨_, _, h⟩ | ⟨_, i, l, _, h1, h2, _⟩
  · exact absurd hl h
  · exact h
  · exact absurd (he l (List.mem_of_getElem? h1)) h2

set_option maxRecDepth 100000 in
set_option maxHeartbeats 6400000 in
theorem consedges_ok (a1 a2 a3 : Option Addr) (c1 c2 c3 : Nat) (P : PP) (hv : Value) (has : List (List Int)) (w : World) (n0 : Nat) (ad : Nat → Addr) (h : PW w n0 ad a1 a2 a3 c1 c2 c3 P) (hS : ErrS w ad) (hh : SetsR w n0 hv has)
    (hl : has.length = P.nodesV) (he : ∀ l ∈ has, P.setE l = 0) (hn0 : n0 ≤ w.heap.size) :
    Calls Tryz.prog 16 #[pval a1 a2 a3 c1 c2 c3 P, hv] w fun e w' => ∃ v l, e = .returned (.tuple #[v, .nilIface]) ∧ ERow w.heap.size w' v l ∧ EdgesAre P has l ∧ l.length ≤ 50000 ∧ Ext w w' := by
  obtain ⟨ah, ch, rfl⟩ := hh.form
  have Hs := hid (SetsOk.of hl he)
  have Hl := hid hl
  have He := hid he
  have Hw := hid h.well
  obtain ⟨hf1, hf2, hf3⟩ := h.well.few
  obtain ⟨W, hW⟩ : ∃ W, W = w.alloc (.cells (pcells a1 a2 a3 c1 c2 c3 P) 26) := ⟨_, rfl⟩
  have HX : Hid (Ext w W) := hid (by rw [hW]; exact (Ext.refl _).alloc _)
  have HBx : Hid (Blk W w.heap.size (pcells a1 a2 a3 c1 c2 c3 P) 26) := hid (by rw [hW]; exact Blk.new _ _ _)
  have HWe : Hid (W = w.alloc (.cells #[.slice a1 P.vars.length c1, .slice a2 P.funs.length c2, .slice a3 P.stmts.length c3] 26)) := hid (by rw [hW]; rfl)
  have HK := hid (consof_yes a1 a2 a3 c1 c2 c3 P W n0 ad (h.ext HX.out))
  have HN := fun w1 (x : Ext W w1) => hid (conssets_any a1 a2 a3 c1 c2 c3 P _ has w1 n0 ad (h.ext (HX.out.trans x)) (hS.ext (HX.out.trans x)) (hh.ext (HX.out.trans x)))
  have HRe := fun k (hk : k < P.stmts.length) av n1 w1 (hn1 : n0 ≤ n1) (hn2 : n1 ≤ w1.heap.size) (x : Ext W w1) (ha : IntsR w1 n1 av (P.ruleV k (P.stAt k)).args) => hid (redges_any a1 a2 a3 c1 c2 c3 P k hk av (.slice ah has.length ch) has w1 n1 ad ((h.ext (HX.out.trans x)).lift hn1) ha ((hh.ext (HX.out.trans x)).lift hn1) Hs.out hn2)
  have Hn0 := hid (Nat.le_trans hn0 HX.out.size)
  have d0 := HBx.out.av 0 rfl
  have d1 := HBx.out.av 1 rfl
  have d2 := HBx.out.av 2 rfl
  simp only [pcells, List.getElem_toArray, List.getElem_cons_zero, List.getElem_cons_succ] at d0 d1 d2
  unfold pval at HK HN HRe ⊢
  clear hW h hS hh hl he hn0
  go_enter Tryz.func16, Tryz.ntmps16
  go_wp2_with fail
  rw [← HWe.out]
  refine HK.out.mono ?_
  intro e w1 hx
  obtain ⟨v, rs, rfl, hi, hx1⟩ := hx
  obtain ⟨av, cv, rfl⟩ := row_form hi.row
  rw [show P.rulesV.length = P.stmts.length from P.rulesUp_len _] at hi ⊢
  have HI := hid hi
  have Hx1 := hid hx1
  have HN1 := HN w1 hx1
  clear HK hi d0 d1 d2 HN hx1
  have d0 := (HBx.out.ext Hx1.out).av 0 rfl
  have d1 := (HBx.out.ext Hx1.out).av 1 rfl
  have d2 := (HBx.out.ext Hx1.out).av 2 rfl
  simp only [pcells, List.getElem_toArray, List.getElem_cons_zero, List.getElem_cons_succ] at d0 d1 d2
  go_wp2_with fail
  refine HN1.out.mono ?_
  intro e w2 hx
  obtain ⟨v2, rfl, hi, hx2⟩ := hx
  obtain rfl := sets_nil hi Hl.out He.out
  have Hx2 := hid (Hx1.out.trans hx2)
  have HI2 := hid (HI.out.ext hx2)
  have Hx12 := hid hx2
  clear HN1 hi hx2 d0 d1 d2 HI
  go_wp2
  go_loopw [9, 28] (fun t9 t28 wr => ∃ (k : Nat) (E : List (Int × Int)), t28 = .int .i64 (k : Int) ∧ k ≤ P.stmts.length ∧ E = (P.rulesUp k).flatMap (fun r => P.redges r has) ∧ wr.ownsRow w2.heap.size 58 2 t9 E.length (E.flatMap eCells) ∧ Ext w2 wr) (fun _ t28 _ => P.stmts.length - (intOf t28).toNat)
  case atStart => exact ⟨0, [], rfl, Nat.zero_le _, rfl, World.ownsRow_nil _ _ _ _, Ext.refl _⟩
  case round =>
    obtain ⟨k, E, rfl, hk, hE, hr, hx⟩ := hrel
    obtain ⟨a9, c9, rfl⟩ := row_form hr
    have hE5 : E.length ≤ 50000 := by rw [hE]; exact rulesUp_len Hw.out Hs.out k hk
    have HE := hid hE
    have Hr := hid hr
    have Hx := hid hx
    have HxW := hid (Hx2.out.trans hx)
    clear hr hx hE
    by_cases hlt : k < P.stmts.length
    · obtain ⟨g, cp, hge⟩ := own_some HI2.out.row (by rw [show P.rulesV.length = P.stmts.length from P.rulesUp_len _]; omega)
      simp only [Value.slice.injEq] at hge
      obtain ⟨rfl, -, rfl⟩ := hge
      obtain ⟨x, hxk, hxr⟩ := rules_at HI2.out.eq hlt
      have hrow := own_ext HI2.out.row Hx.out
      rw [show P.rulesV.length = P.stmts.length from P.rulesUp_len _] at hrow
      obtain ⟨q0, q1, q2, q3, q4⟩ := own_r hrow hxk
      have hT := HI2.out.args x (List.mem_of_getElem? hxk)
      obtain ⟨aa, ca, hav⟩ := hT.form
      obtain ⟨r, xv⟩ := x
      simp only at hav hxr q0 q1 q2 q3 q4 hT
      subst hav
      obtain ⟨V, hV⟩ : ∃ V, V = wr.alloc (.cells #[.string r.kind, .int .i64 r.a, .int .i64 r.b, .int .i64 r.k, .slice aa r.args.length ca] 46) := ⟨_, rfl⟩
      have hxV : Ext wr V := by rw [hV]; exact (Ext.refl _).alloc _
      have HVe := hid hV
      have HVx := hid (HxW.out.trans hxV)
      have HBr : Hid (Blk V wr.heap.size #[.string r.kind, .int .i64 r.a, .int .i64 r.b, .int .i64 r.k, .slice aa r.args.length ca] 46) := hid (by rw [hV]; exact Blk.new _ _ _)
      have HC := HRe k hlt (.slice aa r.args.length ca) w2.heap.size V (Nat.le_trans Hn0.out Hx2.out.size) (Nat.le_trans Hx.out.size hxV.size) HVx.out (by rw [← hxr]; exact hT.1.old ((Hx.out.trans hxV).old _))
      rw [← hxr] at HC
      have hq4 := redges_len P (P.ruleV k (P.stAt k)) has 1000 (fun l hl => srt_few (Hs.out.ok l hl).1) (ruleV_few Hw.out hlt)
      rw [← hxr] at hq4
      obtain ⟨q, hq⟩ : ∃ q, q = P.redges r has := ⟨_, rfl⟩
      rw [← hq] at HC hq4
      have Hn : Hid ((P.rulesUp (k + 1)).flatMap (fun r => P.redges r has) = E ++ q) := hid (by rw [PP.rulesUp_succ, List.flatMap_append, ← HE.out, ← hxr, hq]; simp)
      have m0 := HBr.out.av 0 rfl
      have m1 := HBr.out.av 1 rfl
      have m2 := HBr.out.av 2 rfl
      have m3 := HBr.out.av 3 rfl
      have m4 := HBr.out.av 4 rfl
      simp only [List.getElem_toArray, List.getElem_cons_zero, List.getElem_cons_succ] at m0 m1 m2 m3 m4
      have d0 := (HBx.out.ext HVx.out).av 0 rfl
      have d1 := (HBx.out.ext HVx.out).av 1 rfl
      have d2 := (HBx.out.ext HVx.out).av 2 rfl
      simp only [pcells, List.getElem_toArray, List.getElem_cons_zero, List.getElem_cons_succ] at d0 d1 d2
      rw [HVe.out] at m0 m1 m2 m3 m4 d0 d1 d2
      unfold RV.val at HC
      have HrV := hid (own_ext Hr.out hxV)
      clear HRe hV hxV hxk hxr hrow hT hq
      go_wp2_with fail
      rw [← HVe.out]
      refine HC.out.mono ?_
      intro e w3 hx
      obtain ⟨vq, rfl, hq3, hx3⟩ := hx
      unfold ERow at hq3
      obtain ⟨aq, cq, rfl⟩ := row_form hq3
      have Hq3 := hid hq3
      have Hx3 := hid (HVx.out.trans hx3)
      have Hr3 := hid (own_ext HrV.out hx3)
      have Hx23 := hid ((Hx.out.trans (show Ext wr V by rw [HVe.out]; exact (Ext.refl _).alloc _)).trans hx3)
      have hl6 : E.length + q.length ≤ 1000000 := by omega
      clear HC hq3 hx3 m0 m1 m2 m3 m4 d0 d1 d2 q0 q1 q2 q3 q4
      go_wp2_with (at_builtin; refine wpList_append_src w2.heap.size Hx23.out.size 49 58 (.agg #[.int .i64 0, .int .i64 0]) 2 16 Tryz.underlying49 edge_info rfl (by omega) (by omega) rfl _ _ rfl (.slice a9 E.length c9) E.length (E.flatMap eCells) rfl Hr3.out aq q.length cq (q.flatMap eCells) rfl (own_src Hq3.out eCells_one) hl6 ?_; intro v' w' h1 h2 h4; obtain ⟨a', c', rfl⟩ := row_form h1; have h3 := hid (Keep.new Hx23.out h2 (fun b e => (World.ownsRow.lt Hr3.out b e).1)); have h1 := hid h1; clear h2 h4)
      go_roundw
      case rel => exact ⟨k + 1, E ++ q, by go_num, by omega, Hn.out.symm, by rw [List.length_append, List.flatMap_append]; exact h1.out, h3.out⟩
      case measure => simp [intOf]; omega
    · obtain rfl : k = P.stmts.length := by omega
      have HE0 : Hid (E = P.edges0 has) := hid HE.out
      have hin : ∀ e ∈ E, InE e := fun e he => by
        rw [HE0.out] at he
        have hi := edges0_in Hw.out Hs.out e he
        have hn := nodesV_le P Hw.out
        unfold PP.InN at hi
        unfold InE
        omega
      have Hin := hid hin
      have HD := hid (edel_same (fun e => decide (e.1 = e.2)) (.slice a9 E.length c9) E w2 wr w2.heap.size Hx.out (Nat.le_refl _) Hr.out (fun n w1 _ => consedgesc1_any n w1) (by omega))
      have HS := fun lv l w3 (hin : ∀ e ∈ l, InE e) (x : Ext w2 w3) (hr : ERow w2.heap.size w3 lv l) (hf : l.length ≤ 100000) => hid (esort_any lv l hin w2 w3 w2.heap.size x (Nat.le_refl _) hr hf)
      have HC := fun lv l w3 (x : Ext w2 w3) (hr : ERow w2.heap.size w3 lv l) (hf : l.length ≤ 100000) => hid (ecompact_any lv l w2 w3 w2.heap.size x (Nat.le_refl _) hr hf)
      clear HRe hin
      go_wp2_with fail
      refine HD.out.mono ?_
      intro e w3 hx
      obtain ⟨v3, rfl, hr3, hx3⟩ := hx
      obtain ⟨a3', c3', hv3⟩ := row_form hr3
      subst hv3
      obtain ⟨E3, hE3⟩ : ∃ E3, E3 = E.filter (fun x => !(decide (x.1 = x.2))) := ⟨_, rfl⟩
      have h3l : E3.length ≤ E.length := by rw [hE3]; exact List.length_filter_le _ _
      rw [← hE3] at hr3 ⊢
      have HE3 := hid hE3
      have HS3 := HS _ E3 w3 (fun e he => by rw [hE3] at he; exact Hin.out e (List.mem_filter.1 he).1) hx3 hr3 (by omega)
      clear HD HS hr3 hx3 hE3
      go_wp2_with fail
      refine HS3.out.mono ?_
      intro e w4 hx
      obtain ⟨rfl, E4, hr4, h4l, hm4, hp4, hx4⟩ := hx
      have HC4 := HC (.slice a3' E3.length c3') E4 w4 hx4 (by rw [← h4l] at hr4 ⊢; exact hr4) (by omega)
      have Hfin : Hid (EdgesAre P has (Lib.compact E4)) := hid (by
        obtain ⟨g1, g2⟩ := compactP E4 hp4
        refine ⟨g2, fun e => ?_⟩
        rw [g1, hm4, HE3.out, List.mem_filter, ← HE0.out]
        simp)
      have hcl := compactE_len E4
      have Hcl : Hid ((Lib.compact E4).length ≤ 50000) := hid (by omega)
      clear HS3 HC hr4 hm4 hp4 hx4 hcl
      go_wp2_with fail
      refine HC4.out.mono ?_
      intro e w5 hx
      obtain ⟨v5, rfl, hr5, hx5⟩ := hx
      obtain ⟨a5, c5, hv5⟩ := row_form hr5
      subst hv5
      have Hr5 := hid hr5
      have Hx5 := hid (HX.out.trans (Hx2.out.trans hx5))
      clear HC4 hr5 hx5
      go_wp2
      go_ret2
      exact ⟨_, _, rfl, Hr5.out.low (HX.out.trans Hx2.out).size, Hfin.out, Hcl.out, Hx5.out⟩
end Go.Proofs.YtohfdecefikinaaGreatDoor


/- The reference: rules that make edges; does any of them make an edge (IsEdge). -/
namespace Go.Proofs.YtohfdecefikinaaGreatDoor
set_option linter.unusedSimpArgs false
set_option linter.unusedVariables false
open Go Go.RowKit

theorem isE_congr {P : PP} {r s : RV} (h1 : r.kind.toList = s.kind.toList) (h2 : r.a = s.a) (h3 : r.b = s.b) (h4 : r.args = s.args) (has : List (List Int)) (a b : Int) : P.isE r has a b = P.isE s has a b := by
  unfold PP.isE fEdge
  rw [h1, h2, h3, h4]
/-- Rules as the reference tells them; those that make edges. -/
def PP.rulesRUp (P : PP) (n : Nat) : List RV := ((List.range n).map fun k => P.ruleR k (P.stAt k)).filter fun r => !(r.kind.toList == bBase.toList)
theorem rulesRUp_succ (P : PP) (n : Nat) : P.rulesRUp (n + 1) = P.rulesRUp n ++ (if (P.ruleR n (P.stAt n)).kind.toList == bBase.toList then [] else [P.ruleR n (P.stAt n)]) := by
  unfold PP.rulesRUp
  rw [List.range_succ, List.map_append, List.filter_append]
  congr 1
  simp only [List.map_cons, List.map_nil, List.filter_cons, List.filter_nil]
  cases (P.ruleR n (P.stAt n)).kind.toList == bBase.toList <;> rfl
theorem rulesRUp_len (P : PP) (n : Nat) : (P.rulesRUp n).length ≤ n := by
  unfold PP.rulesRUp
  have := List.length_filter_le (fun r : RV => !(r.kind.toList == bBase.toList)) ((List.range n).map fun k => P.ruleR k (P.stAt k))
  rwa [List.length_map, List.length_range] at this
theorem any_rules {P : PP} (hw : P.Well) (has : List (List Int)) (a b : Int) : (P.rulesRUp P.stmts.length).any (fun r => P.isE r has a b) = P.rulesE.any fun r => P.isE r has a b := by
  unfold PP.rulesRUp PP.rulesE PP.rulesV PP.rulesUp
  rw [List.any_filter, List.any_filter, List.any_map, List.any_map]
  rw [Bool.eq_iff_iff, List.any_eq_true, List.any_eq_true]
  have c : ∀ k, k ∈ List.range P.stmts.length → (((fun r : RV => !(r.kind.toList == bBase.toList) && P.isE r has a b) ∘ fun k => P.ruleR k (P.stAt k)) k = ((fun r : RV => !(r.kind.toList == bBase.toList) && P.isE r has a b) ∘ fun k => P.ruleV k (P.stAt k)) k) := fun k hk => by
    have hk := List.mem_range.1 hk
    obtain ⟨h1, h2, h3, _, _, h4⟩ := rule_same (hw.2 k (P.stAt k) hk (stAt_some hk)) k
    simp only [Function.comp_apply]
    rw [isE_congr h1 h2 h3 h4, h1]
  exact ⟨fun ⟨k, hk, h⟩ => ⟨k, hk, by rw [← c k hk]; exact h⟩, fun ⟨k, hk, h⟩ => ⟨k, hk, by rw [c k hk]; exact h⟩⟩
/-- A rule that makes edges, among so many nodes. -/
structure REdge (n : Nat) (r : RV) : Prop where
  kd : (r.kind.toList == kCopy) = true ∨ (r.kind.toList == kLoad) = true ∨ (r.kind.toList == kStore) = true ∨ (r.kind.toList == kCall) = true
  a : 0 ≤ r.a ∧ r.a < n
  b : 0 ≤ r.b ∧ r.b < n
theorem ruleR_edge {P : PP} (hw : P.Well) {k : Nat} (hk : k < P.stmts.length) (hb : ((P.ruleR k (P.stAt k)).kind.toList == bBase.toList) = false) : REdge P.nodesV (P.ruleR k (P.stAt k)) := by
  have h0 := hw.2 k (P.stAt k) hk (stAt_some hk)
  have hg := PP.good h0
  have hnv := nodes_vars P
  obtain ⟨x, hx⟩ : ∃ x, x = P.stAt k := ⟨_, rfl⟩
  rw [← hx] at h0 hg hb ⊢
  have hgx := hg.gx
  have base : ∀ r : RV, r.kind = bBase → (r.kind.toList == bBase.toList) = true := fun r h => by rw [h]; exact beq_self_eq_true _
  have go : ∀ (g3 : x.isK kFun = false) (g2 : x.isK kNew = false) (g1 : x.isK kAddr = false), (x.isK kCopy = true ∨ x.isK kLoad = true ∨ x.isK kStore = true ∨ x.isK kCall = true) → REdge P.nodesV (P.ruleR k x) := fun g3 g2 g1 g => by
    have e : P.ruleR k x = ⟨x.kind, x.y, x.x, k, x.args⟩ := by unfold PP.ruleR; rw [g1, g2, g3]; rfl
    have hy := hg.yv g3 g2
    rw [e]
    exact ⟨g, by show 0 ≤ x.y ∧ x.y < (P.nodesV : Int); omega, by show 0 ≤ x.x ∧ x.x < (P.nodesV : Int); omega⟩
  rcases kind_cases h0 with g | g | g | g | g | g | g
  · rw [base _ (by unfold PP.ruleR; rw [g]; rfl)] at hb; cases hb
  · exact go (isK_ne g (k' := kFun) rfl) (isK_ne g (k' := kNew) rfl) (isK_ne g (k' := kAddr) rfl) (.inl g)
  · exact go (isK_ne g (k' := kFun) rfl) (isK_ne g (k' := kNew) rfl) (isK_ne g (k' := kAddr) rfl) (.inr (.inl g))
  · exact go (isK_ne g (k' := kFun) rfl) (isK_ne g (k' := kNew) rfl) (isK_ne g (k' := kAddr) rfl) (.inr (.inr (.inl g)))
  · rw [base _ (by unfold PP.ruleR; rw [isK_ne g (k' := kAddr) rfl, g]; rfl)] at hb; cases hb
  · rw [base _ (by unfold PP.ruleR; rw [isK_ne g (k' := kAddr) rfl, isK_ne g (k' := kNew) rfl, g]; rfl)] at hb; cases hb
  · exact go (isK_ne g (k' := kFun) rfl) (isK_ne g (k' := kNew) rfl) (isK_ne g (k' := kAddr) rfl) (.inr (.inr (.inr g)))
theorem rulesRUp_edge {P : PP} (hw : P.Well) {n : Nat} (hn : n ≤ P.stmts.length) : ∀ r ∈ P.rulesRUp n, REdge P.nodesV r := by
  intro r hr
  unfold PP.rulesRUp at hr
  obtain ⟨h1, h2⟩ := List.mem_filter.1 hr
  obtain ⟨k, hk, rfl⟩ := List.mem_map.1 h1
  have hk := List.mem_range.1 hk
  exact ruleR_edge hw (by omega) (by simpa using h2)
theorem risedge_any (a1 a2 a3 : Option Addr) (c1 c2 c3 : Nat) (P : PP) (r : RV) (av hv : Value) (has : List (List Int)) (p q : Int) (w : World) (n0 : Nat) (h : ProgR w n0 (.slice a1 P.vars.length c1) (.slice a2 P.funs.length c2) (.slice a3 P.stmts.length c3) P) (hf1 : P.vars.length ≤ 1000) (hf3 : P.stmts.length ≤ 1000) (hf2 : P.funs.length ≤ 1000) (ha : IntsR w n0 av r.args) (hh : SetsR w n0 hv has) (hr : REdge has.length r) :
    Calls Tryz.prog 48 #[pval a1 a2 a3 c1 c2 c3 P, r.val av, hv, .int .i64 p, .int .i64 q] w fun e w' => e = .returned (.bool (P.isE r has p q)) ∧ Ext w w' := by
  rcases hr.kd with g | g | g | g
  · exact risedge_copy a1 a2 a3 c1 c2 c3 P r av hv has p q w n0 h hf1 hf3 ha hh g
  · exact risedge_load a1 a2 a3 c1 c2 c3 P r av hv has p q w n0 h hf1 hf3 ha hh g hr.a
  · exact risedge_store a1 a2 a3 c1 c2 c3 P r av hv has p q w n0 h hf1 hf3 ha hh g hr.b
  · exact risedge_call a1 a2 a3 c1 c2 c3 P r av hv has p q w n0 h hf1 hf3 ha hh g hr.a hf2
/-- Rows of edges that the reference makes. -/
def RERow (base : Nat) (w : World) (v : Value) (l : List (Int × Int)) : Prop := w.ownsRow base 59 2 v l.length (l.flatMap eCells)
theorem redge_info : (Tryz.prog.info? 59).map (fun i => (i.zero, i.size, i.bytes)) = some (some (.agg #[.int .i64 0, .int .i64 0]), 2, 16) := by kernel_rfl
theorem rrule_info : (Tryz.prog.info? 44).map (fun i => (i.zero, i.size, i.bytes)) = some (some (.agg #[.string ⟨#[]⟩, .int .i64 0, .int .i64 0, .int .i64 0, .slice none 0 0]), 5, 64) := by kernel_rfl
theorem own_rr {w : World} {base g n cap : Nat} {t : TypeId} {rs : List R2} (h : w.ownsRow base t 5 (.slice (some ⟨g, 0, none⟩) n cap) n (rs.flatMap R2.cells)) {i : Nat} {x : R2} (hx : rs[i]? = some x) :
    w.cell? ⟨g, i * 5, none⟩ = some (.string x.r.kind) ∧ w.cell? ⟨g, i * 5 + 1, none⟩ = some (.int .i64 x.r.a) ∧ w.cell? ⟨g, i * 5 + 2, none⟩ = some (.int .i64 x.r.b) ∧ w.cell? ⟨g, i * 5 + 3, none⟩ = some (.int .i64 x.r.k) ∧ w.cell? ⟨g, i * 5 + 4, none⟩ = some x.v := by
  have c : ∀ j v, x.cells[j]? = some v → j < 5 → w.cell? ⟨g, i * 5 + j, none⟩ = some v := fun j v hv hj => own_get h _ ((fm_get R2.cells 5 R2.cells_len rs i j x hx hj).trans hv)
  exact ⟨c 0 _ rfl (by omega), c 1 _ rfl (by omega), c 2 _ rfl (by omega), c 3 _ rfl (by omega), c 4 _ rfl (by omega)⟩
theorem rowE_succ (P : PP) (has : List (List Int)) (a n : Nat) : P.rowE has a (n + 1) = P.rowE has a n ++ (if P.edgeB has a n then [((a : Int), (n : Int))] else []) := by
  unfold PP.rowE
  rw [List.range_succ, List.filter_append, List.map_append]
  congr 1
  simp only [List.filter_cons, List.filter_nil]
  cases P.edgeB has a n <;> rfl
theorem refE_succ (P : PP) (has : List (List Int)) (n : Nat) : P.refE has (n + 1) = P.refE has n ++ P.rowE has n P.nodesV := by
  unfold PP.refE
  rw [List.range_succ, List.flatMap_append]
  simp
theorem rowE_len (P : PP) (has : List (List Int)) (a n : Nat) : (P.rowE has a n).length ≤ n := by
  unfold PP.rowE
  rw [List.length_map]
  have := List.length_filter_le (fun b : Nat => P.edgeB has (a : Int) (b : Int)) (List.range n)
  rwa [List.length_range] at this
theorem refE_len {P : PP} (hw : P.Well) (has : List (List Int)) {n : Nat} (hn : n ≤ P.nodesV) : (P.refE has n).length ≤ 14400 := by
  have hN := nodesV_le P hw
  have h1 := flatMap_len (fun a => P.rowE has a P.nodesV) 120 (List.range n) fun a _ => Nat.le_trans (rowE_len P has a _) hN
  rw [List.length_range] at h1
  unfold PP.refE
  have : n * 120 ≤ 120 * 120 := Nat.mul_le_mul_right _ (by omega)
  omega
theorem any_take_succ {α : Type} {l : List α} {k : Nat} {x : α} (h : l[k]? = some x) (g : α → Bool) : (l.take (k + 1)).any g = ((l.take k).any g || g x) := by
  rw [List.take_add_one, h, List.any_append]
  simp
end Go.Proofs.YtohfdecefikinaaGreatDoor


/- The reference: edges of a program (EdgesOf). -/
namespace Go.Proofs.YtohfdecefikinaaGreatDoor
set_option linter.unusedSimpArgs false
set_option linter.unusedVariables false
open Go Go.RowKit

set_option maxRecDepth 100000 in
set_option maxHeartbeats 6400000 in
theorem redgesof_any (a1 a2 a3 : Option Addr) (c1 c2 c3 : Nat) (P : PP) (hv : Value) (has : List (List Int)) (w : World) (n0 : Nat) (h : ProgR w n0 (.slice a1 P.vars.length c1) (.slice a2 P.funs.length c2) (.slice a3 P.stmts.length c3) P) (hw : P.Well) (hh : SetsR w n0 hv has) (hl : has.length = P.nodesV) (hn0 : n0 ≤ w.heap.size) :
    Calls Tryz.prog 18 #[pval a1 a2 a3 c1 c2 c3 P, hv] w fun e w' => ∃ v, e = .returned v ∧ RERow w.heap.size w' v (P.refE has P.nodesV) ∧ Ext w w' := by
  obtain ⟨ah, ch, rfl⟩ := hh.form
  have Hw := hid hw
  have Hlen := hid hl
  obtain ⟨hf1, hf2, hf3⟩ := hw.few
  have hN6 := nodesV_le P hw
  obtain ⟨W, hW⟩ : ∃ W, W = w.alloc (.cells (pcells a1 a2 a3 c1 c2 c3 P) 26) := ⟨_, rfl⟩
  have HX : Hid (Ext w W) := hid (by rw [hW]; exact (Ext.refl _).alloc _)
  have HBx : Hid (Blk W w.heap.size (pcells a1 a2 a3 c1 c2 c3 P) 26) := hid (by rw [hW]; exact Blk.new _ _ _)
  have HWe : Hid (W = w.alloc (.cells #[.slice a1 P.vars.length c1, .slice a2 P.funs.length c2, .slice a3 P.stmts.length c3] 26)) := hid (by rw [hW]; rfl)
  have HNo := hid (rnodesof_any a1 a2 a3 c1 c2 c3 P W n0 (h.ext HX.out) (by omega) (by omega))
  have HRu := fun k (hk : k < P.stmts.length) w1 (x : Ext w w1) => hid (rruleof_any a1 a2 a3 c1 c2 c3 P k _ (stAt_some hk) w1 n0 (h.ext x) hw)
  have HIs := fun r av w1 (p q : Int) (x : Ext w w1) (ha : IntsR w1 n0 av r.args) (hr : REdge has.length r) => hid (risedge_any a1 a2 a3 c1 c2 c3 P r av (.slice ah has.length ch) has p q w1 n0 (h.ext x) (by omega) (by omega) (by omega) ha (hh.ext x) hr)
  obtain ⟨N, hN⟩ : ∃ N, N = P.nodesV := ⟨_, rfl⟩
  rw [← hN] at HNo hN6 hl
  have HN := hid hN
  have d0 := HBx.out.av 0 rfl
  have d1 := HBx.out.av 1 rfl
  have d2 := HBx.out.av 2 rfl
  simp only [pcells, List.getElem_toArray, List.getElem_cons_zero, List.getElem_cons_succ] at d0 d1 d2
  rw [HWe.out] at d0 d1 d2
  unfold pval at HNo HRu HIs ⊢
  have Hn0 := hid (Nat.le_trans hn0 HX.out.size)
  clear h hw hh hW hN hl hn0
  go_enter Tryz.func18, Tryz.ntmps18
  go_wp2_with fail
  rw [← HWe.out]
  refine HNo.out.mono ?_
  intro e w1 hx
  obtain ⟨rfl, hx1⟩ := hx
  have Hx1 := hid hx1
  clear HNo hx1 d0 d1 d2
  have d2 := (HBx.out.ext Hx1.out).av 2 rfl
  simp only [pcells, List.getElem_toArray, List.getElem_cons_zero, List.getElem_cons_succ] at d2
  go_wp2
  go_loopw [6, 7] (fun t6 t7 wr => ∃ (k : Nat) (rs : List R2), t7 = .int .i64 (k : Int) ∧ k ≤ P.stmts.length ∧ rs.map R2.r = P.rulesRUp k ∧ wr.ownsRow W.heap.size 44 5 t6 rs.length (rs.flatMap R2.cells) ∧ (∀ x ∈ rs, IntsR wr n0 x.v x.r.args) ∧ Ext W wr) (fun _ t7 _ => P.stmts.length - (intOf t7).toNat)
  case atStart => exact ⟨0, [], rfl, Nat.zero_le _, rfl, World.ownsRow_nil _ _ _ _, (fun x h => by cases h), Hx1.out⟩
  case round =>
    obtain ⟨k, rs, rfl, hk, he, hr, ha, hx⟩ := hrel
    obtain ⟨a6, c6, rfl⟩ := row_form hr
    have hrl : rs.length ≤ k := by
      have h1 := congrArg List.length he
      rw [List.length_map] at h1
      rw [h1]
      exact rulesRUp_len P k
    have He := hid he
    have Hr := hid hr
    have Ha := hid ha
    have Hx := hid hx
    clear he hr ha hx d2
    have d0 := (HBx.out.ext Hx.out).av 0 rfl
    have d1 := (HBx.out.ext Hx.out).av 1 rfl
    have d2 := (HBx.out.ext Hx.out).av 2 rfl
    simp only [pcells, List.getElem_toArray, List.getElem_cons_zero, List.getElem_cons_succ] at d0 d1 d2
    by_cases hlt : k < P.stmts.length
    · have HC := HRu k hlt wr (HX.out.trans Hx.out)
      have Hsu := hid (rulesRUp_succ P k)
      obtain ⟨r, hr⟩ : ∃ r, r = P.ruleR k (P.stAt k) := ⟨_, rfl⟩
      rw [← hr] at HC Hsu
      clear HRu HIs hr
      go_wp2_with fail
      refine HC.out.mono ?_
      intro e w2 hx
      obtain ⟨av, rfl, hI, hx2⟩ := hx
      obtain ⟨aa, ca, hav, _⟩ := id hI
      subst hav
      unfold RV.val
      have HI := hid hI
      obtain ⟨V, hV⟩ : ∃ V, V = w2.alloc (.cells #[.string r.kind, .int .i64 r.a, .int .i64 r.b, .int .i64 r.k, .slice aa r.args.length ca] 44) := ⟨_, rfl⟩
      have hxV : Ext w2 V := by rw [hV]; exact (Ext.refl _).alloc _
      have HBr : Hid (Blk V w2.heap.size #[.string r.kind, .int .i64 r.a, .int .i64 r.b, .int .i64 r.k, .slice aa r.args.length ca] 44) := hid (by rw [hV]; exact Blk.new _ _ _)
      have HVe := hid hV
      have HVx := hid hxV
      have HxV := hid (Hx.out.trans (hx2.trans hxV))
      have HrV := hid (own_ext Hr.out (hx2.trans hxV))
      have HwV := hid (hx2.trans hxV)
      clear HC hI hx2 hxV hV d0 d1 d2
      cases hkb : (r.kind.toList == [98, 97, 115, 101]) with
      | true =>
        have Hn : Hid (P.rulesRUp (k + 1) = P.rulesRUp k) := hid (by rw [Hsu.out, eq_of_beq bBase_list, if_pos hkb, List.append_nil])
        have hkb' : (r.kind.toList != [98, 97, 115, 101]) = false := by rw [bne, hkb]; rfl
        clear Hsu
        go_wp2
        rw [← HVe.out]
        go_roundw
        case rel => exact ⟨k + 1, rs, by go_num, by omega, He.out.trans Hn.out.symm, HrV.out, fun x hx => (Ha.out x hx).old (HwV.out.old _), HxV.out⟩
        case measure => simp [intOf]; omega
      | false =>
        have Hn : Hid (P.rulesRUp (k + 1) = P.rulesRUp k ++ [r]) := hid (by rw [Hsu.out, eq_of_beq bBase_list, hkb]; rfl)
        have hkb' : (r.kind.toList != [98, 97, 115, 101]) = true := by rw [bne, hkb]; rfl
        obtain ⟨U, hU⟩ : ∃ U, U = V.alloc (.cells #[.string r.kind, .int .i64 r.a, .int .i64 r.b, .int .i64 r.k, .slice aa r.args.length ca] 44) := ⟨_, rfl⟩
        have HUx : Hid (Ext W U) := hid (by rw [hU]; exact HxV.out.alloc _)
        have HVU : Hid (Ext V U) := hid (by rw [hU]; exact (Ext.refl _).alloc _)
        have HUr : Hid (U.ownsRow W.heap.size 44 5 (.slice a6 rs.length c6) rs.length (rs.flatMap R2.cells)) := hid (by rw [hU]; exact own_ext HrV.out ((Ext.refl _).alloc _))
        have HUb : Hid (Blk U V.heap.size #[.string r.kind, .int .i64 r.a, .int .i64 r.b, .int .i64 r.k, .slice aa r.args.length ca] 44) := hid (by rw [hU]; exact Blk.new _ _ _)
        have HUe : Hid (U = (w2.alloc (.cells #[.string r.kind, .int .i64 r.a, .int .i64 r.b, .int .i64 r.k, .slice aa r.args.length ca] 44)).alloc (.cells #[.string r.kind, .int .i64 r.a, .int .i64 r.b, .int .i64 r.k, .slice aa r.args.length ca] 44)) := hid (by rw [hU, HVe.out])
        have HVs : Hid (V.heap.size = w2.heap.size + 1) := hid (by rw [HVe.out, heap_size_alloc])
        rw [HVs.out] at HUb
        clear Hsu hU
        go_wp2_with (at_builtin; rw [← HUe.out]; refine wpList_append_el W.heap.size HUx.out.size 90 44 (.agg #[.string ⟨#[]⟩, .int .i64 0, .int .i64 0, .int .i64 0, .slice none 0 0]) 5 64 Tryz.underlying90 rrule_info rfl (by omega) (by omega) rfl _ _ rfl (.slice a6 rs.length c6) rs.length (rs.flatMap R2.cells) rfl HUr.out (w2.heap.size + 1) [.string r.kind, .int .i64 r.a, .int .i64 r.b, .int .i64 r.k, .slice aa r.args.length ca] rfl (by simp [Value.oneCell']) rfl HUb.out (by omega) ?_; intro v' w' h1 h2 h4; obtain ⟨a', c', rfl⟩ := row_form h1; have h3 := hid (Keep.new HUx.out h2 (fun b e => (World.ownsRow.lt HUr.out b e).1)); have hold := hid (show Old n0 U w' from h2.mono fun b _ e => Nat.le_trans Hn0.out (World.ownsRow.lt HUr.out b e).1); have h1 := hid h1; clear h2 h4)
        go_roundw
        case rel =>
          refine ⟨k + 1, rs ++ [⟨r, .slice aa r.args.length ca⟩], by go_num, by omega, ?_, ?_, ?_, h3.out⟩
          · rw [List.map_append, He.out, Hn.out]; rfl
          · rw [List.length_append, List.flatMap_append]; simpa [R2.cells] using h1.out
          · intro x hx
            rcases List.mem_append.1 hx with hx | hx
            · exact ((Ha.out x hx).old ((HwV.out.trans HVU.out).old _)).old hold.out
            · obtain rfl := List.mem_singleton.1 hx
              exact (HI.out.old ((HwV.out.trans HVU.out).old _)).old hold.out
        case measure => simp [intOf]; omega
    · obtain rfl : k = P.stmts.length := by omega
      obtain ⟨V, hV⟩ : ∃ V, V = wr := ⟨_, rfl⟩
      subst hV
      have HEd := hid (rulesRUp_edge Hw.out (Nat.le_refl _))
      rw [← He.out] at HEd
      clear HRu hlt hk
      go_wp2
      clear d0 d1 d2
      go_loopw [9, 10] (fun t9 t10 wq => ∃ (a : Nat) (L : List (Int × Int)), t10 = .int .i64 (a : Int) ∧ a ≤ N ∧ L = P.refE has a ∧ wq.ownsRow V.heap.size 59 2 t9 L.length (L.flatMap eCells) ∧ Ext V wq) (fun _ t10 _ => N - (intOf t10).toNat)
      case atStart => exact ⟨0, [], rfl, Nat.zero_le _, rfl, World.ownsRow_nil _ _ _ _, Ext.refl _⟩
      case round =>
        obtain ⟨a, L, rfl, ha, hL, hr, hx⟩ := hrel
        obtain ⟨a9, c9, rfl⟩ := row_form hr
        have HL := hid hL
        have Hr9 := hid hr
        have Hx9 := hid hx
        clear hL hr hx
        by_cases haN : a < N
        · go_wp2
          go_loopw [9, 11] (fun t9 t11 wq => ∃ (b : Nat) (M : List (Int × Int)), t11 = .int .i64 (b : Int) ∧ b ≤ N ∧ M = L ++ P.rowE has a b ∧ wq.ownsRow V.heap.size 59 2 t9 M.length (M.flatMap eCells) ∧ Ext V wq) (fun _ t11 _ => N - (intOf t11).toNat)
          case atStart => exact ⟨0, L, rfl, Nat.zero_le _, by simp [PP.rowE], Hr9.out, Hx9.out⟩
          case round =>
            obtain ⟨b, M, rfl, hb, hM, hr, hx⟩ := hrel
            obtain ⟨a9', c9', rfl⟩ := row_form hr
            have hML : M.length ≤ 20000 := by
              rw [hM, List.length_append, HL.out]
              have h1 := refE_len Hw.out has (n := a) (by rw [← HN.out]; omega)
              have h2 := rowE_len P has a b
              omega
            have HM := hid hM
            have HrM := hid hr
            have HxM := hid hx
            clear hM hr hx Hr9 Hx9
            by_cases hbN : b < N
            · go_wp2
              go_loopw [12, 13] (fun t12 t13 wq => ∃ (k : Nat) (d : Bool), t13 = .int .i64 (k : Int) ∧ t12 = .bool d ∧ k ≤ rs.length ∧ d = ((rs.map R2.r).take k).any (fun r => P.isE r has a b) ∧ (a = b → k = 0) ∧ Ext V wq ∧ wq.ownsRow V.heap.size 59 2 (.slice a9' M.length c9') M.length (M.flatMap eCells)) (fun _ t13 _ => rs.length - (intOf t13).toNat)
              case atStart => exact ⟨0, false, rfl, rfl, Nat.zero_le _, by simp, fun _ => rfl, HxM.out, HrM.out⟩
              case round =>
                clear HrM HxM
                obtain ⟨k, d, rfl, rfl, hk, hd, hab, hx, hrM⟩ := hrel
                have Hd := hid hd
                have Hab := hid hab
                have HxK := hid hx
                have HrM := hid hrM
                have Hedge : Hid (P.edgeB has a b = (decide ((a : Int) ≠ (b : Int)) && (rs.map R2.r).any (fun r => P.isE r has a b))) := hid (by
                  unfold PP.edgeB
                  rw [He.out, any_rules Hw.out])
                clear hd hab hx hrM
                by_cases hkl : k < rs.length
                · cases d with
                  | true =>
                    have He2 : Hid (P.edgeB has a b = true) := hid (by
                      have hne : a ≠ b := fun e => by
                        have h0 := Hab.out e
                        have h1 := Hd.out
                        rw [h0] at h1
                        simp at h1
                      rw [Hedge.out, decide_eq_true (show (a : Int) ≠ (b : Int) from fun e => hne (by omega)), Bool.true_and, List.any_eq_true]
                      obtain ⟨r, hr1, hr2⟩ := List.any_eq_true.1 Hd.out.symm
                      exact ⟨r, List.mem_of_mem_take hr1, hr2⟩)
                    have Hrow : Hid (P.rowE has a (b + 1) = P.rowE has a b ++ [((a : Int), (b : Int))]) := hid (by rw [rowE_succ, He2.out]; rfl)
                    have HUx : Hid (Ext V (wr.alloc (.cells #[.int .i64 (a : Int), .int .i64 (b : Int)] 59))) := hid (HxK.out.alloc _)
                    have HUr : Hid ((wr.alloc (.cells #[.int .i64 (a : Int), .int .i64 (b : Int)] 59)).ownsRow V.heap.size 59 2 (.slice a9' M.length c9') M.length (M.flatMap eCells)) := hid (own_ext HrM.out ((Ext.refl _).alloc _))
                    go_wp2_with (at_builtin; refine wpList_append_el V.heap.size HUx.out.size 54 59 (.agg #[.int .i64 0, .int .i64 0]) 2 16 Tryz.underlying54 redge_info rfl (by omega) (by omega) rfl _ _ rfl (.slice a9' M.length c9') M.length (M.flatMap eCells) rfl HUr.out wr.heap.size [.int .i64 (a : Int), .int .i64 (b : Int)] rfl (by simp [Value.oneCell']) rfl (Blk.new _ _ _) (by omega) ?_; intro v' w' h1 h2 h4; obtain ⟨a', c', rfl⟩ := row_form h1; have h3 := hid (Keep.new HUx.out h2 (fun b e => (World.ownsRow.lt HUr.out b e).1)); have h1 := hid h1; clear h2 h4)
                    go_roundw
                    case rel => exact ⟨b + 1, M ++ [((a : Int), (b : Int))], by go_num, by omega, by rw [HM.out, Hrow.out, List.append_assoc], by rw [List.length_append, List.flatMap_append]; simpa [eCells] using h1.out, h3.out⟩
                    case measure => simp [intOf]; omega
                  | false =>
                    by_cases hab2 : a = b
                    · have He2 : Hid (P.edgeB has a b = false) := hid (by rw [Hedge.out, decide_eq_false (fun h => h (by rw [hab2])), Bool.false_and])
                      have hab3 : ((a : Int) != (b : Int)) = false := by rw [hab2]; simp
                      clear hab2
                      have Hrow : Hid (P.rowE has a (b + 1) = P.rowE has a b) := hid (by rw [rowE_succ, He2.out]; simp)
                      go_wp2
                      go_roundw
                      case rel => exact ⟨b + 1, M, by go_num, by omega, by rw [HM.out, Hrow.out], HrM.out, HxK.out⟩
                      case measure => simp [intOf]; omega
                    · have hab3 : ((a : Int) != (b : Int)) = true := bne_iff_ne.2 (fun h => hab2 (by omega))
                      obtain ⟨g6, cp, hge⟩ := own_some Hr.out (by omega)
                      simp only [Value.slice.injEq] at hge
                      obtain ⟨rfl, -, rfl⟩ := hge
                      obtain ⟨x, hxk⟩ : ∃ x, rs[k]? = some x := ⟨_, List.getElem?_eq_getElem hkl⟩
                      obtain ⟨q0, q1, q2, q3, q4⟩ := own_rr (own_ext Hr.out HxK.out) hxk
                      have hI := Ha.out x (List.mem_of_getElem? hxk)
                      have hE := HEd.out x.r (List.mem_map.2 ⟨x, List.mem_of_getElem? hxk, rfl⟩)
                      obtain ⟨aa, ca, hav, _⟩ := id hI
                      have hmk : (rs.map R2.r)[k]? = some x.r := by rw [List.getElem?_map, hxk]; rfl
                      obtain ⟨r, xv⟩ := x
                      simp only at hav hI hE q0 q1 q2 q3 q4 hmk
                      subst hav
                      have HC := fun w1 (y : Ext wr w1) => HIs r (.slice aa r.args.length ca) w1 (a : Int) (b : Int) (HX.out.trans (Hx.out.trans (HxK.out.trans y))) (hI.old ((HxK.out.trans y).old _)) (by rw [Hlen.out]; exact hE)
                      have Hn : Hid (((rs.map R2.r).take (k + 1)).any (fun r => P.isE r has a b) = P.isE r has a b) := hid (by rw [any_take_succ hmk, ← Hd.out, Bool.false_or])
                      obtain ⟨e, he⟩ : ∃ e, e = P.isE r has a b := ⟨_, rfl⟩
                      rw [← he] at HC Hn
                      unfold RV.val at HC
                      have j0 : ∀ w1, Keep (fun _ => False) wr w1 → w1.cell? ⟨g6, k * 5, none⟩ = some (.string r.kind) := fun w1 k => k.ext.cellx q0
                      have j1 : ∀ w1, Keep (fun _ => False) wr w1 → w1.cell? ⟨g6, k * 5 + 1, none⟩ = some (.int .i64 r.a) := fun w1 k => k.ext.cellx q1
                      have j2 : ∀ w1, Keep (fun _ => False) wr w1 → w1.cell? ⟨g6, k * 5 + 2, none⟩ = some (.int .i64 r.b) := fun w1 k => k.ext.cellx q2
                      have j3 : ∀ w1, Keep (fun _ => False) wr w1 → w1.cell? ⟨g6, k * 5 + 3, none⟩ = some (.int .i64 r.k) := fun w1 k => k.ext.cellx q3
                      have j4 : ∀ w1, Keep (fun _ => False) wr w1 → w1.cell? ⟨g6, k * 5 + 4, none⟩ = some (.slice aa r.args.length ca) := fun w1 k => k.ext.cellx q4
                      have d0 := (HBx.out.ext (Hx.out.trans HxK.out)).kc (X := fun _ => False) (fun e => e) 0 rfl
                      have d1 := (HBx.out.ext (Hx.out.trans HxK.out)).kc (X := fun _ => False) (fun e => e) 1 rfl
                      have d2 := (HBx.out.ext (Hx.out.trans HxK.out)).kc (X := fun _ => False) (fun e => e) 2 rfl
                      simp only [pcells, List.getElem_toArray, List.getElem_cons_zero, List.getElem_cons_succ] at d0 d1 d2
                      have Hne := hid hab2
                      clear HIs hxk q0 q1 q2 q3 q4 hI hE hmk he hab2
                      go_wp2
                      refine wp_flowT (fun _ => False) (by kernel_rfl) (by kernel_rfl) ?_
                      repeat (apply FlowT.d; (intro w1 hk; unfold does; go_simp; (try go_ints); (first | exact DetR.mk | (simp only [↓IntWalk.iteOmega, Oper.doesUpon_value]; exact DetR.mk) | (simp only [↓IntWalk.iteOmega]; go_simp; (try go_ints); exact DetR.mk))); simp only [Act.put, List.setIfInBounds_toArray, List.set_cons_zero, List.set_cons_succ])
                      apply FlowT.d
                      · intro w1 hk
                        unfold does
                        go_simp
                        exact CallR.det ((HC w1 hk.ext).out)
                      simp only [Act.put, List.setIfInBounds_toArray, List.set_cons_zero, List.set_cons_succ]
                      repeat (apply FlowT.d; (intro w1 hk; unfold does; go_simp; (try go_ints); (first | exact DetR.mk | (simp only [↓IntWalk.iteOmega, Oper.doesUpon_value]; exact DetR.mk) | (simp only [↓IntWalk.iteOmega]; go_simp; (try go_ints); exact DetR.mk))); simp only [Act.put, List.setIfInBounds_toArray, List.set_cons_zero, List.set_cons_succ])
                      refine FlowT.fin fun w5 hx5 hk5 => ?_
                      have Hx5 := hid (HxK.out.trans hx5)
                      have HrM5 := hid (own_ext HrM.out hx5)
                      clear hx5 hk5 j0 j1 j2 j3 j4 d0 d1 d2 HC
                      go_wp2
                      go_roundw
                      case rel => exact ⟨k + 1, e, by go_num, rfl, by omega, Hn.out.symm, fun h => absurd h Hne.out, Hx5.out, HrM5.out⟩
                      case measure => simp [intOf]; omega
                · obtain rfl : k = rs.length := by omega
                  have Hfull : Hid (d = (rs.map R2.r).any (fun r => P.isE r has a b)) := hid (by rw [Hd.out, List.take_of_length_le (by rw [List.length_map]; exact Nat.le_refl _)])
                  have He2 : Hid (P.edgeB has a b = d) := hid (by
                    rw [Hedge.out, ← Hfull.out]
                    by_cases hab2 : a = b
                    · have h0 := Hab.out hab2
                      have h1 := Hd.out
                      rw [h0] at h1
                      rw [h1]; simp
                    · rw [decide_eq_true (show (a : Int) ≠ (b : Int) from fun e => hab2 (by omega)), Bool.true_and])
                  clear hkl
                  cases d with
                  | true =>
                    have Hrow : Hid (P.rowE has a (b + 1) = P.rowE has a b ++ [((a : Int), (b : Int))]) := hid (by rw [rowE_succ, He2.out]; rfl)
                    have HUx : Hid (Ext V (wr.alloc (.cells #[.int .i64 (a : Int), .int .i64 (b : Int)] 59))) := hid (HxK.out.alloc _)
                    have HUr : Hid ((wr.alloc (.cells #[.int .i64 (a : Int), .int .i64 (b : Int)] 59)).ownsRow V.heap.size 59 2 (.slice a9' M.length c9') M.length (M.flatMap eCells)) := hid (own_ext HrM.out ((Ext.refl _).alloc _))
                    go_wp2_with (at_builtin; refine wpList_append_el V.heap.size HUx.out.size 54 59 (.agg #[.int .i64 0, .int .i64 0]) 2 16 Tryz.underlying54 redge_info rfl (by omega) (by omega) rfl _ _ rfl (.slice a9' M.length c9') M.length (M.flatMap eCells) rfl HUr.out wr.heap.size [.int .i64 (a : Int), .int .i64 (b : Int)] rfl (by simp [Value.oneCell']) rfl (Blk.new _ _ _) (by omega) ?_; intro v' w' h1 h2 h4; obtain ⟨a', c', rfl⟩ := row_form h1; have h3 := hid (Keep.new HUx.out h2 (fun b e => (World.ownsRow.lt HUr.out b e).1)); have h1 := hid h1; clear h2 h4)
                    go_roundw
                    case rel => exact ⟨b + 1, M ++ [((a : Int), (b : Int))], by go_num, by omega, by rw [HM.out, Hrow.out, List.append_assoc], by rw [List.length_append, List.flatMap_append]; simpa [eCells] using h1.out, h3.out⟩
                    case measure => simp [intOf]; omega
                  | false =>
                    have Hrow : Hid (P.rowE has a (b + 1) = P.rowE has a b) := hid (by rw [rowE_succ, He2.out]; simp)
                    go_wp2
                    go_roundw
                    case rel => exact ⟨b + 1, M, by go_num, by omega, by rw [HM.out, Hrow.out], HrM.out, HxK.out⟩
                    case measure => simp [intOf]; omega
            · obtain rfl : b = N := by omega
              have Hn : Hid (M = P.refE has (a + 1)) := hid (by rw [HM.out, HL.out, refE_succ, HN.out])
              go_wp2
              go_roundw
              case rel => exact ⟨a + 1, M, by go_num, by omega, Hn.out, HrM.out, HxM.out⟩
              case measure => simp [intOf]; omega
        · obtain rfl : a = N := by omega
          have Hn : Hid (P.refE has P.nodesV = L) := hid (by rw [HL.out, HN.out])
          go_wp2
          go_ret
          exact ⟨_, rfl, by unfold RERow; rw [Hn.out]; exact own_low Hr9.out (HX.out.trans Hx.out).size, HX.out.trans (Hx.out.trans Hx9.out)⟩
end Go.Proofs.YtohfdecefikinaaGreatDoor


/- The reference: is a list a set (SetError); is each of one list one of another (within). -/
namespace Go.Proofs.YtohfdecefikinaaGreatDoor
set_option linter.unusedSimpArgs false
set_option linter.unusedVariables false
open Go Go.RowKit

set_option maxRecDepth 100000 in
set_option maxHeartbeats 1600000 in
theorem rseterror_any (v : Value) (l : List Int) (w : World) (n0 : Nat) (h : IntsR w n0 v l) :
    Calls Tryz.prog 35 #[v] w fun e w' => e = .returned (.int .i64 (chkE l : Int)) ∧ Ext w w' := by
  obtain ⟨a, cap, rfl, h2, h3, h4, h5⟩ := id h
  have H4 := hid h4
  have H5 := hid h5
  have hml : (l.length : Int) ≤ 9223372036854775807 := by omega
  clear h h2 h3 h4 h5
  go_enter Tryz.func35, Tryz.ntmps35
  go_wp2
  go_loop [3] (fun t3 => ∃ k : Nat, t3 = .int .i64 (k : Int) ∧ k ≤ l.length ∧ ∀ j t, j < k → l[j]? = some t → 0 ≤ t ∧ t < 1000) (fun t3 => l.length - (intOf t3).toNat)
  case atStart => exact ⟨0, rfl, Nat.zero_le _, fun j t h => by omega⟩
  case round =>
    obtain ⟨k, rfl, hk, hp⟩ := hrel
    have Hp := hid hp
    clear hp
    by_cases hlt : k < l.length
    · obtain ⟨y, rfl⟩ := H4.out (by omega)
      obtain ⟨q, hq⟩ : ∃ q, l[k]? = some q := ⟨_, List.getElem?_eq_getElem hlt⟩
      have hc := (H5.out y rfl (by omega)).2 k hlt q hq
      have Hq := hid hq
      clear hq
      by_cases hq0 : q < 0
      · have Hr := hid (chkE_two (List.mem_of_getElem? Hq.out) (by omega))
        go_wp2
        go_ret
        exact ⟨by rw [Hr.out]; rfl, Ext.refl _⟩
      · by_cases hq1 : 1000 ≤ q
        · have Hr := hid (chkE_two (List.mem_of_getElem? Hq.out) (by omega))
          go_wp2
          go_ret
          exact ⟨by rw [Hr.out]; rfl, Ext.refl _⟩
        · have Hb : Hid (0 ≤ q ∧ q < 1000) := hid (by omega)
          go_wp2
          refine ⟨⟨k + 1, by go_num, by omega, fun j t hj ht => ?_⟩, by simp [intOf]; omega⟩
          by_cases hjk : j = k
          · subst hjk
            obtain rfl := Option.some.inj (Hq.out.symm.trans ht)
            exact Hb.out
          · exact Hp.out j t (by omega) ht
    · obtain rfl : k = l.length := by omega
      have Hin : Hid (InR l) := hid fun t ht => by
        obtain ⟨j, hj, e⟩ := List.mem_iff_getElem.1 ht
        exact Hp.out j t hj (by rw [List.getElem?_eq_getElem hj, e])
      go_wp2
      go_loopw [4] (fun t4 wr => ∃ i : Nat, t4 = .int .i64 ((i : Int) + 1) ∧ i ≤ l.length ∧ (∀ j, j < i → j + 1 < l.length → l.getD j 0 < l.getD (j + 1) 0) ∧ Ext w wr) (fun t4 _ => l.length + 1 - (intOf t4).toNat)
      case atStart => exact ⟨0, rfl, Nat.zero_le _, fun j hj => by omega, Ext.refl _⟩
      case round =>
        obtain ⟨i, rfl, hi, hp, hx⟩ := hrel
        have Hs := hid hp
        have Hx := hid hx
        clear hp hx
        by_cases hlt : i + 1 < l.length
        · obtain ⟨y, rfl⟩ := H4.out (by omega)
          obtain ⟨p, hp⟩ : ∃ p, l[i]? = some p := ⟨_, List.getElem?_eq_getElem (by omega)⟩
          obtain ⟨q, hq⟩ : ∃ q, l[i + 1]? = some q := ⟨_, List.getElem?_eq_getElem hlt⟩
          have hcp := (H5.out y rfl (by omega)).2 i (by omega) p hp
          have hcq := (H5.out y rfl (by omega)).2 (i + 1) hlt q hq
          rw [add_posU y (i + 1) (by omega)] at hcq
          have c0 : ∀ w1, Keep (fun _ => False) wr w1 → w1.cell? (y.add i) = some (.int .i64 p) := fun w1 k => (Hx.out.trans k.ext).cellx hcp
          have c1 : ∀ w1, Keep (fun _ => False) wr w1 → w1.cell? ⟨y.block, y.off + (i + 1), none⟩ = some (.int .i64 q) := fun w1 k => (Hx.out.trans k.ext).cellx hcq
          have Hp : Hid (l.getD i 0 = p) := hid (by rw [List.getD_eq_getElem?_getD, hp]; rfl)
          have Hq : Hid (l.getD (i + 1) 0 = q) := hid (by rw [List.getD_eq_getElem?_getD, hq]; rfl)
          clear hp hq hcp hcq
          by_cases hpq : q ≤ p
          · have Hr := hid (chkE_ten Hin.out hlt (by rw [Hp.out, Hq.out]; exact hpq))
            go_wp2
            refine wp_flowT (fun _ => False) (by kernel_rfl) (by kernel_rfl) ?_
            repeat (apply FlowT.d; (intro w1 hk; unfold does; go_simp; (try go_ints); (first | exact DetR.mk | (simp only [↓IntWalk.iteOmega, Oper.doesUpon_value]; exact DetR.mk) | (simp only [↓IntWalk.iteOmega]; go_simp; (try go_ints); exact DetR.mk))); simp only [Act.put, List.setIfInBounds_toArray, List.set_cons_zero, List.set_cons_succ])
            refine FlowT.fin fun w1 hx1 hk1 => ?_
            have Hx1 := hid (Hx.out.trans hx1)
            clear hx1 hk1 c0 c1
            go_wp2
            go_ret
            exact ⟨by rw [Hr.out]; rfl, Hx1.out⟩
          · have Hn : Hid (l.getD i 0 < l.getD (i + 1) 0) := hid (by rw [Hp.out, Hq.out]; omega)
            go_wp2
            refine wp_flowT (fun _ => False) (by kernel_rfl) (by kernel_rfl) ?_
            repeat (apply FlowT.d; (intro w1 hk; unfold does; go_simp; (try go_ints); (first | exact DetR.mk | (simp only [↓IntWalk.iteOmega, Oper.doesUpon_value]; exact DetR.mk) | (simp only [↓IntWalk.iteOmega]; go_simp; (try go_ints); exact DetR.mk))); simp only [Act.put, List.setIfInBounds_toArray, List.set_cons_zero, List.set_cons_succ])
            refine FlowT.fin fun w1 hx1 hk1 => ?_
            have Hx1 := hid (Hx.out.trans hx1)
            clear hx1 hk1 c0 c1
            go_wp2
            go_roundw
            case rel =>
              refine ⟨i + 1, by go_num, by omega, fun j hj hl => ?_, Hx1.out⟩
              by_cases hji : j = i
              · subst hji; exact Hn.out
              · exact Hs.out j (by omega) hl
            case measure => simp [intOf]; omega
        · have Hok : Hid (chkE l = 0) := hid (chkE_ok Hin.out fun j hj => Hs.out j (by omega) hj)
          go_wp2
          go_ret
          exact ⟨by rw [Hok.out]; rfl, Hx.out⟩
set_option maxRecDepth 100000 in
set_option maxHeartbeats 800000 in
theorem rwithin_any (va vb : Value) (a b : List Int) (w : World) (n0 : Nat) (ha : IntsR w n0 va a) (hb : IntsR w n0 vb b) :
    Calls Tryz.prog 49 #[va, vb] w fun e w' => e = .returned (.bool (a.all fun n => decide (n ∈ b))) ∧ Ext w w' := by
  have HH := fun n => hid (rhas_any vb b n w n0 hb)
  obtain ⟨ab, cb, rfl, _⟩ := hb
  obtain ⟨aa, ca, rfl, h2, h3, h4, h5⟩ := id ha
  have H4 := hid h4
  have H5 := hid h5
  have hml : (a.length : Int) ≤ 9223372036854775807 := by omega
  clear ha h2 h3 h4 h5
  go_enter Tryz.func49, Tryz.ntmps49
  go_wp2
  go_loop [5] (fun t5 => ∃ k : Nat, t5 = .int .i64 (k : Int) ∧ k ≤ a.length ∧ ∀ j t, j < k → a[j]? = some t → t ∈ b) (fun t5 => a.length - (intOf t5).toNat)
  case atStart => exact ⟨0, rfl, Nat.zero_le _, fun j t h => by omega⟩
  case round =>
    obtain ⟨k, rfl, hk, hp⟩ := hrel
    have Hp := hid hp
    clear hp
    by_cases hlt : k < a.length
    · obtain ⟨y, rfl⟩ := H4.out (by omega)
      obtain ⟨q, hq⟩ : ∃ q, a[k]? = some q := ⟨_, List.getElem?_eq_getElem hlt⟩
      have hc := (H5.out y rfl (by omega)).2 k hlt q hq
      have Hq := hid hq
      have HC := HH q
      obtain ⟨d, hd⟩ : ∃ d, d = decide (q ∈ b) := ⟨_, rfl⟩
      rw [← hd] at HC
      have Hd := hid hd
      clear hq HH hd
      go_wp2_with fail
      refine HC.out.mono ?_
      intro e w1 hx
      obtain ⟨rfl, rfl⟩ := hx
      clear HC hc
      cases d with
      | false =>
        have Hr : Hid ((a.all fun n => decide (n ∈ b)) = false) := hid (by
          rw [List.all_eq_false]
          exact ⟨q, List.mem_of_getElem? Hq.out, by rw [← Hd.out]; simp⟩)
        go_wp2
        go_ret
        exact ⟨by rw [Hr.out]; rfl, Ext.refl _⟩
      | true =>
        have Hm : Hid (q ∈ b) := hid (of_decide_eq_true Hd.out.symm)
        go_wp2
        refine ⟨⟨k + 1, by go_num, by omega, fun j t hj ht => ?_⟩, by simp [intOf]; omega⟩
        by_cases hjk : j = k
        · subst hjk
          obtain rfl := Option.some.inj (Hq.out.symm.trans ht)
          exact Hm.out
        · exact Hp.out j t (by omega) ht
    · obtain rfl : k = a.length := by omega
      have Hr : Hid ((a.all fun n => decide (n ∈ b)) = true) := hid (by
        rw [List.all_eq_true]
        intro t ht
        obtain ⟨j, hj, e⟩ := List.mem_iff_getElem.1 ht
        exact decide_eq_true (Hp.out j t hj (by rw [List.getElem?_eq_getElem hj, e])))
      go_wp2
      go_ret
      exact ⟨by rw [Hr.out]; rfl, Ext.refl _⟩
end Go.Proofs.YtohfdecefikinaaGreatDoor


/- ConsOrder, plainly: statements turned round, where none makes a thing. -/
namespace Go.Proofs.YtohfdecefikinaaGreatDoor
set_option linter.unusedSimpArgs false
set_option linter.unusedVariables false
open Go Go.RowKit

/-- Is an answer: base rules, and edges. -/
structure ClosedP (P : PP) (has : List (List Int)) : Prop where
  base : ∀ k, k < P.stmts.length → (P.ruleV k (P.stAt k)).kind.toList = bBase.toList → (P.ruleV k (P.stAt k)).b ∈ has.getD (P.ruleV k (P.stAt k)).a.toNat []
  edge : ∀ e ∈ P.edges0 has, e.1 ≠ e.2 → ∀ n ∈ has.getD e.1.toNat [], n ∈ has.getD e.2.toNat []
/-- A program with its statements turned round. -/
def PP.turned (P : PP) : PP := ⟨P.vars, P.funs, P.stmts.reverse⟩
def PP.noNew (P : PP) : Prop := ∀ x ∈ P.stmts, x.isK kNew = false
theorem isNew_no {P : PP} (h : P.noNew) (k : Nat) : P.isNew k = false := by
  unfold PP.isNew
  cases hk : P.stmts[k]? with
  | none => rfl
  | some x => exact h x (List.mem_of_getElem? hk)
theorem newsN_no {P : PP} (h : P.noNew) (k : Nat) : P.newsN k = 0 := by
  unfold PP.newsN
  rw [List.filter_eq_nil_iff.2 fun a _ => by rw [isNew_no h a]; simp]
  rfl
theorem noNew_turned {P : PP} (h : P.noNew) : P.turned.noNew := fun x hx => h x (List.mem_reverse.1 hx)
theorem nodes_turned {P : PP} (h : P.noNew) : P.turned.nodesV = P.nodesV := by
  unfold PP.nodesV
  rw [newsN_no h, newsN_no (noNew_turned h)]
  rfl
theorem objects_turned {P : PP} (h : P.noNew) : P.turned.objectsV = P.objectsV := by
  unfold PP.objectsV
  rw [nodes_turned h]
  rfl
theorem setE_turned {P : PP} (h : P.noNew) (l : List Int) : P.turned.setE l = P.setE l := by
  unfold PP.setE
  rw [objects_turned h]
theorem allWell_iff (P : PP) : P.allWell ↔ ∀ x ∈ P.stmts, P.stmtErr x = 0 :=
  ⟨fun h x hx => by
    obtain ⟨k, hk, e⟩ := List.getElem_of_mem hx
    exact h k x hk (by rw [List.getElem?_eq_getElem hk, e]), fun h j t _ ht => h t (List.mem_of_getElem? ht)⟩
theorem err1_turned (P : PP) : P.turned.err1 = P.err1 := by
  unfold PP.err1
  have h1 : P.turned.big = P.big := by unfold PP.big PP.turned; simp
  rw [h1]
  rfl
theorem well_turned (P : PP) : P.turned.Well ↔ P.Well := by
  unfold PP.Well
  rw [err1_turned, allWell_iff, allWell_iff]
  have e : ∀ x, P.turned.stmtErr x = P.stmtErr x := fun x => rfl
  simp only [e]
  refine and_congr Iff.rfl ⟨fun h x hx => h x (List.mem_reverse.2 hx), fun h x hx => h x (List.mem_reverse.1 hx)⟩
theorem edges_turned {P : PP} (h : P.noNew) (has : List (List Int)) (e : Int × Int) : e ∈ P.turned.edges0 has ↔ e ∈ P.edges0 has := by
  rw [mem_edges0, mem_edges0]
  have c : ∀ x, P.turned.sedges x has = P.sedges x has := fun x => sedges_congr (nodes_turned h) rfl x has
  simp only [c]
  exact ⟨fun ⟨x, h1, h2⟩ => ⟨x, List.mem_reverse.1 h1, h2⟩, fun ⟨x, h1, h2⟩ => ⟨x, List.mem_reverse.2 h1, h2⟩⟩
theorem edgesAre_turned {P : PP} (h : P.noNew) {has : List (List Int)} {l : List (Int × Int)} (k : EdgesAre P.turned has l) : EdgesAre P has l :=
  ⟨k.srt, fun e => (k.mem e).trans (and_congr (edges_turned h has e) Iff.rfl)⟩
/-- The base rule of a statement, wherever it stands. -/
def PP.sOk (P : PP) (has : List (List Int)) (x : PS) : Prop := (P.ruleV 0 x).kind.toList = bBase.toList → (P.ruleV 0 x).b ∈ has.getD (P.ruleV 0 x).a.toNat []
theorem rule_at {P : PP} {x : PS} (hx : x.isK kNew = false) (k : Nat) : (P.ruleV k x).kind = (P.ruleV 0 x).kind ∧ (P.ruleV k x).a = (P.ruleV 0 x).a ∧ (P.ruleV k x).b = (P.ruleV 0 x).b := by
  unfold PP.ruleV
  rw [hx]
  cases x.isK kAddr <;> cases x.isK kFun <;> cases x.isK kCall <;> exact ⟨rfl, rfl, rfl⟩
theorem rule_turned {P : PP} (h : P.noNew) {x : PS} (hx : x.isK kNew = false) : P.turned.ruleV 0 x = P.ruleV 0 x := by
  unfold PP.ruleV
  rw [hx, nodes_turned h]
  rfl
theorem closed_iff {P : PP} (hn : P.noNew) (has : List (List Int)) : ClosedP P has ↔ (∀ x ∈ P.stmts, P.sOk has x) ∧ ∀ e ∈ P.edges0 has, e.1 ≠ e.2 → ∀ n ∈ has.getD e.1.toNat [], n ∈ has.getD e.2.toNat [] := by
  constructor
  · rintro ⟨h1, h2⟩
    refine ⟨fun x hx => ?_, h2⟩
    obtain ⟨k, hk, e⟩ := List.getElem_of_mem hx
    have e1 : P.stAt k = x := by
      have := stAt_some hk
      rw [List.getElem?_eq_getElem hk, e] at this
      exact (Option.some.inj this).symm
    have := h1 k hk
    rw [e1] at this
    obtain ⟨r1, r2, r3⟩ := rule_at (P := P) (hn x hx) k
    rw [r1, r2, r3] at this
    exact this
  · rintro ⟨h1, h2⟩
    refine ⟨fun k hk => ?_, h2⟩
    have hx : P.stAt k ∈ P.stmts := List.mem_of_getElem? (stAt_some hk)
    obtain ⟨r1, r2, r3⟩ := rule_at (P := P) (hn _ hx) k
    rw [r1, r2, r3]
    exact h1 _ hx
theorem closed_turned {P : PP} (h : P.noNew) (has : List (List Int)) : ClosedP P.turned has ↔ ClosedP P has := by
  rw [closed_iff h, closed_iff (noNew_turned h)]
  refine and_congr ⟨fun g x hx => ?_, fun g x hx => ?_⟩ ⟨fun g e he => g e ((edges_turned h has e).2 he), fun g e he => g e ((edges_turned h has e).1 he)⟩
  · have := g x (List.mem_reverse.2 hx)
    unfold PP.sOk at this ⊢
    rwa [rule_turned h (h x hx)] at this
  · have hx' := List.mem_reverse.1 hx
    unfold PP.sOk
    rw [rule_turned h (h x hx')]
    exact g x hx'
end Go.Proofs.YtohfdecefikinaaGreatDoor


/- Sets: what two have in common. -/
namespace Go.Proofs.YtohfdecefikinaaGreatDoor
set_option linter.unusedSimpArgs false
set_option linter.unusedVariables false
open Go Go.RowKit

theorem take_filter {p : Int → Bool} {l : List Int} {k : Nat} {q : Int} (h : l[k]? = some q) : (l.take (k + 1)).filter p = (l.take k).filter p ++ (if p q then [q] else []) := by
  rw [List.take_add_one, h]
  simp only [Option.toList, List.filter_append, List.filter_cons, List.filter_nil]
theorem sethas_any (v : Value) (l : List Int) (s : Int) (w : World) (n0 : Nat) (h : IntsR w n0 v l) : Calls Tryz.prog 44 #[v, .int .i64 s] w fun e w' => e = .returned (.bool (decide (s ∈ l))) ∧ w = w' := by
  have H := hid (containsi_any v l s w n0 h)
  obtain ⟨a, cap, rfl, _⟩ := h
  go_enter Tryz.func44, Tryz.ntmps44
  go_wp2_with fail
  refine H.out.mono ?_
  intro e w1 hx
  obtain ⟨rfl, rfl⟩ := hx
  clear H
  go_wp2
  go_ret
  exact ⟨rfl, rfl⟩
end Go.Proofs.YtohfdecefikinaaGreatDoor


/- Sets: is each of one list one of another? (set.Within) -/
namespace Go.Proofs.YtohfdecefikinaaGreatDoor
set_option linter.unusedSimpArgs false
set_option linter.unusedVariables false
open Go Go.RowKit

set_option maxRecDepth 100000 in
set_option maxHeartbeats 800000 in
theorem indexfi_wi (b : Value) (p : Int → Bool) (v : Value) (l : List Int) (w : World) (n0 : Nat) (h : IntsR w n0 v l) (hF : ∀ n w1, Ext w w1 → Calls Tryz.prog 73 #[.int .i64 n, b] w1 fun e w' => e = .returned (.bool (p n)) ∧ Ext w1 w') :
    Calls Tryz.prog 103 #[v, .func (.func 73) #[] #[b]] w fun e w' => ∃ r : Int, e = .returned (.int .i64 r) ∧ IdxF p l r ∧ Ext w w' := by
  have HS := hid h
  have HF := hid hF
  obtain ⟨a, cap, rfl, h2, h3, h4, _⟩ := h
  have H4 := hid h4
  have hml : (l.length : Int) ≤ 9223372036854775807 := by omega
  clear h2 h3 h4 hF
  go_enter Tryz.func103, Tryz.ntmps103
  go_wp2
  go_loopw [8] (fun t8 wr => ∃ k : Nat, t8 = .int .i64 (k : Int) ∧ k ≤ l.length ∧ (∀ j t, j < k → l[j]? = some t → p t = false) ∧ Ext w wr) (fun t8 _ => l.length - (intOf t8).toNat)
  case atStart => exact ⟨0, rfl, Nat.zero_le _, fun j t h => by omega, Ext.refl _⟩
  case round =>
    obtain ⟨k, rfl, hk, hne, hx⟩ := hrel
    have Hne := hid hne
    clear hne
    by_cases hlt : k < l.length
    · obtain ⟨y, rfl⟩ := H4.out (by omega)
      have hxk : l[k]? = some (l[k]'hlt) := List.getElem?_eq_getElem hlt
      obtain ⟨t, ht⟩ : ∃ t, t = l[k]'hlt := ⟨_, rfl⟩
      rw [← ht] at hxk
      obtain ⟨a', cap', h1, _, _, _, h5⟩ := HS.out.old (hx.old n0)
      obtain ⟨rfl, rfl⟩ : some y = a' ∧ cap = cap' := by simpa using h1
      have hc := (h5 y rfl (by omega)).2 k hlt t hxk
      have HN := hid (HF.out t wr hx)
      have Hxk := hid hxk
      have Hx := hid hx
      clear hxk ht h1 h5 hx
      go_wp2_with fail
      refine HN.out.mono ?_
      intro e w1 hx1
      obtain ⟨rfl, hx1⟩ := hx1
      have Hx1 := hid (Hx.out.trans hx1)
      clear HN hx1 Hx hc
      cases he : p t with
      | true =>
        have Hin := hid (show IdxF p l (k : Int) from .inr ⟨k, t, rfl, hlt, Hxk.out, he, Hne.out⟩)
        go_wp2
        go_ret
        exact ⟨(k : Int), rfl, Hin.out, Hx1.out⟩
      | false =>
        have Hf := hid he
        clear he
        go_wp2
        go_roundw
        case rel =>
          refine ⟨k + 1, by go_num, by omega, fun j u hj hu => ?_, Hx1.out⟩
          by_cases hjk : j = k
          · subst hjk
            obtain rfl := Option.some.inj (Hxk.out.symm.trans hu)
            exact Hf.out
          · exact Hne.out j u (by omega) hu
        case measure => simp [intOf]; omega
    · obtain rfl : k = l.length := by omega
      have Hx := hid hx
      clear hx
      have Hnot := hid (show IdxF p l (-1) from .inl ⟨rfl, fun x hx => by
        obtain ⟨j, hj, e2⟩ := List.mem_iff_getElem.1 hx
        exact Hne.out j x hj (by rw [List.getElem?_eq_getElem hj, e2])⟩)
      go_wp2
      go_ret
      exact ⟨(-1 : Int), rfl, Hnot.out, Hx.out⟩

set_option maxRecDepth 100000 in
set_option maxHeartbeats 800000 in
theorem containsfi_wi (b : Value) (p : Int → Bool) (v : Value) (l : List Int) (w : World) (n0 : Nat) (h : IntsR w n0 v l) (hF : ∀ n w1, Ext w w1 → Calls Tryz.prog 73 #[.int .i64 n, b] w1 fun e w' => e = .returned (.bool (p n)) ∧ Ext w1 w') :
    Calls Tryz.prog 72 #[v, .func (.func 73) #[] #[b]] w fun e w' => e = .returned (.bool (l.any p)) ∧ Ext w w' := by
  have H := hid (indexfi_wi b p v l w n0 h hF)
  obtain ⟨a, cap, rfl, h2, h3, _⟩ := h
  have hml : (l.length : Int) ≤ 9223372036854775807 := by omega
  clear hF
  go_enter Tryz.func72, Tryz.ntmps72
  go_wp2_with fail
  refine H.out.mono ?_
  intro e w1 hx
  obtain ⟨r, rfl, hr, hx⟩ := hx
  clear H
  rcases hr with ⟨rfl, hr⟩ | ⟨i, x, rfl, hi, hxi, hp, _⟩
  · have Hr := hid (show l.any p = false from List.any_eq_false.2 fun x hx => by rw [hr x hx]; simp)
    clear hr
    go_wp2
    go_ret
    exact ⟨by rw [Hr.out]; rfl, hx⟩
  · have Hr := hid (show l.any p = true from List.any_eq_true.2 ⟨x, List.mem_of_getElem? hxi, hp⟩)
    clear hp hxi
    go_wp2
    go_ret
    exact ⟨by rw [Hr.out]; rfl, hx⟩
theorem setwithinc_any (g : Nat) (vb : Value) (b : List Int) (n : Int) (w : World) (n0 : Nat) (hB : Blk w g #[vb] 42) (hb : IntsR w n0 vb b) :
    Calls Tryz.prog 73 #[.int .i64 n, .pointer (some ⟨g, 0, none⟩)] w fun e w' => e = .returned (.bool (!decide (n ∈ b))) ∧ Ext w w' := by
  have H := hid (sethas_any vb b n w n0 hb)
  obtain ⟨a, cap, rfl, _⟩ := hb
  have c0 := hB.av 0 rfl
  simp only [List.getElem_toArray, List.getElem_cons_zero] at c0
  clear hB
  generalize decide (n ∈ b) = d at *
  go_enter Tryz.func73, Tryz.ntmps73
  go_wp2_with fail
  refine H.out.mono ?_
  intro e w1 hx
  obtain ⟨rfl, rfl⟩ := hx
  clear H c0
  go_wp2
  go_ret
  exact ⟨rfl, Ext.refl _⟩
set_option maxRecDepth 100000 in
set_option maxHeartbeats 800000 in
theorem setwithin_any (va vb : Value) (a b : List Int) (w : World) (n0 : Nat) (ha : IntsR w n0 va a) (hb : IntsR w n0 vb b) :
    Calls Tryz.prog 47 #[va, vb] w fun e w' => e = .returned (.bool (a.all fun n => decide (n ∈ b))) ∧ Ext w w' := by
  obtain ⟨W, hW⟩ : ∃ W, W = w.alloc (.cells #[vb] 42) := ⟨_, rfl⟩
  have hxW : Ext w W := by rw [hW]; exact (Ext.refl _).alloc _
  have HBl : Hid (Blk W w.heap.size #[vb] 42) := hid (by rw [hW]; exact Blk.new _ _ _)
  have HC := hid (containsfi_wi (.pointer (some ⟨w.heap.size, 0, none⟩)) (fun n => !decide (n ∈ b)) va a W n0 (ha.old (hxW.old n0)) (fun n w2 x2 => setwithinc_any w.heap.size vb b n w2 n0 (HBl.out.ext x2) (hb.old ((hxW.trans x2).old n0))))
  have HxW := hid hxW
  obtain ⟨aa, ca, rfl, _⟩ := ha
  obtain ⟨ab, cb, rfl, _⟩ := hb
  have HWe := hid hW
  obtain ⟨d, hd⟩ : ∃ d, d = a.any (fun n => !decide (n ∈ b)) := ⟨_, rfl⟩
  have Hd : Hid ((a.all fun n => decide (n ∈ b)) = !d) := hid (by
    rw [hd, List.any_eq_not_all_not, Bool.not_not]
    congr 1
    funext n
    rw [Bool.not_not])
  rw [← hd] at HC
  clear hxW hW hd
  go_enter Tryz.func47, Tryz.ntmps47
  go_wp2_with fail
  rw [← HWe.out]
  refine HC.out.mono ?_
  intro e w1 hx
  obtain ⟨rfl, hx1⟩ := hx
  have Hx1 := hid (HxW.out.trans hx1)
  clear HC hx1
  go_wp2
  go_ret
  exact ⟨by rw [Hd.out]; rfl, Hx1.out⟩
end Go.Proofs.YtohfdecefikinaaGreatDoor
