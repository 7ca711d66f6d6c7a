/- Texts of one proof, put together: Z5. -/
import Derived.Test.YtohfdecefikinaaDoorZCO20
import Derived.Test.YtohfdecefikinaaDoorZCO34

/- ConsOrder: the law walked. -/
namespace Go.Proofs.YtohfdecefikinaaDoor
set_option linter.unusedSimpArgs false
set_option linter.unusedVariables false
open Go Go.RowKit

theorem StmtsR.own2 {w : World} {base : Nat} {v : Value} {ss : List S2} {l : List PS} (h : w.ownsRow base 34 4 v ss.length (ss.flatMap S2.cells)) (hl : ss.map S2.s = l) (hn : ∀ x ∈ ss, IntsR w w.heap.size x.v x.s.args) : StmtsR w w.heap.size v l := by
  have hll : l.length = ss.length := by rw [← hl, List.length_map]
  unfold StmtsR
  rw [hll]
  refine ElR.own h (Nat.le_refl _) fun g hc i hi f hf => ?_
  rw [← hl, List.getElem?_map] at hf
  obtain ⟨x, hx, rfl⟩ := Option.map_eq_some_iff.1 hf
  have c : ∀ j u, x.cells[j]? = some u → j < 4 → w.cell? (((⟨g, 0, none⟩ : Addr).add (i * 4)).add j) = some u := fun j u hu hj => by
    rw [add_add]
    exact hc _ _ ((fm_get S2.cells 4 S2.cells_len ss i j x hx hj).trans hu)
  exact ⟨x.v, by simpa [Addr.add] using c 0 _ rfl (by omega), c 1 _ rfl (by omega), c 2 _ rfl (by omega), c 3 _ rfl (by omega), hn x (List.mem_of_getElem? hx)⟩
theorem goodS_turned {P : PP} (h : P.noNew) (has : List (List Int)) : P.turned.GoodS has ↔ P.GoodS has := by
  unfold PP.GoodS
  rw [well_turned, nodes_turned h]
  simp only [setE_turned h]
theorem edgesL_turned {P : PP} (h : P.noNew) {has : List (List Int)} (hg : P.GoodS has) : P.turned.edgesL has = P.edgesL has :=
  (edgesAre_turned h (edgesL_are ((goodS_turned h has).2 hg))).uniq (edgesL_are hg)
theorem closed_dec (P : PP) (has : List (List Int)) : ∃ d : Bool, d = true ↔ ClosedP P has := by
  rcases Classical.em (ClosedP P has) with h | h
  · exact ⟨true, fun _ => h, fun _ => rfl⟩
  · exact ⟨false, fun e => (by cases e), fun k => absurd k h⟩
/-- Own sets, wherever. -/
theorem ownsets_at {w : World} {n0 : Nat} {a : Option Addr} {c : Nat} {L : List (List Int)} (h : SetsR w n0 (.slice a L.length c) L) (hf : fewSets L) (w1 : World) (x : Ext w w1) :
    Calls Tryd.prog 9 #[.slice a L.length c] w1 fun e w' => ∃ a c, e = .returned (.slice a L.length c) ∧ SetsR w' w'.heap.size (.slice a L.length c) L ∧ Ext w1 w' :=
  (ownsets_any _ L w1 n0 (h.ext x) hf).mono fun e w' ⟨v, he, hs, hx⟩ => by
    obtain ⟨a, c, rfl⟩ := hs.form
    exact ⟨a, c, he, hs, hx⟩

set_option maxRecDepth 100000 in
set_option maxHeartbeats 6400000 in
theorem consorder_any (a1 a2 a3 : Option Addr) (c1 c2 c3 : Nat) (P : PP) (hv : Value) (has : List (List Int)) (w : World) (ad : Nat → Addr) (hE : ErrsP w ad) (hS : ErrS w ad) (hP : ProgR w w.heap.size (.slice a1 P.vars.length c1) (.slice a2 P.funs.length c2) (.slice a3 P.stmts.length c3) P) (hh : SetsR w w.heap.size hv has) :
    Calls Tryd.prog 3 #[pval a1 a2 a3 c1 c2 c3 P, hv] w fun e w' => e = .returned (.bool true) ∧ Ext w w' := by
  obtain ⟨ah, ch, rfl⟩ := hh.form
  have hhl := hh.len
  have HE := hid hE
  have HS := hid hS
  have HP := hid hP
  have HH := hid hh
  obtain ⟨W1, hW1⟩ : ∃ W1, W1 = w.alloc (.cells (pcells a1 a2 a3 c1 c2 c3 P) 26) := ⟨_, rfl⟩
  have HX1 : Hid (Ext w W1) := hid (by rw [hW1]; exact (Ext.refl _).alloc _)
  have HB1 : Hid (Blk W1 w.heap.size (pcells a1 a2 a3 c1 c2 c3 P) 26) := hid (by rw [hW1]; exact Blk.new _ _ _)
  have HR := hid (ruled_any W1 ad (hE.ext HX1.out) (hS.ext HX1.out))
  have HW1 : Hid (W1 = w.alloc (.cells #[.slice a1 P.vars.length c1, .slice a2 P.funs.length c2, .slice a3 P.stmts.length c3] 26)) := hid (by rw [hW1]; rfl)
  unfold pval
  clear hE hS hP hh hW1
  go_enter Tryd.func3, Tryd.ntmps3
  go_wp2_with fail
  rw [← HW1.out]
  refine HR.out.mono ?_
  intro e w1 hx
  obtain ⟨rfl, hx1⟩ := hx
  have HL := hid (large_any a1 a2 a3 c1 c2 c3 P w1 w.heap.size (HP.out.ext (HX1.out.trans hx1)))
  unfold pval at HL
  have HX1' := hid (HX1.out.trans hx1)
  have HBp1 := hid (HB1.out.ext hx1)
  have p0 := HBp1.out.av 0 rfl
  have p1 := HBp1.out.av 1 rfl
  have p2 := HBp1.out.av 2 rfl
  simp only [pcells, List.getElem_toArray, List.getElem_cons_zero, List.getElem_cons_succ] at p0 p1 p2
  clear HR hx1
  go_wp2_with fail
  refine HL.out.mono ?_
  intro e w2 hx
  obtain ⟨r, rfl, hr, hsm, hx2⟩ := hx
  have HX2 := hid (HX1'.out.trans hx2)
  have HBp := hid (HBp1.out.ext hx2)
  clear HL hx2 p0 p1 p2
  rcases (by omega : r = 1 ∨ r = 0) with rfl | rfl
  · clear hsm hr
    go_wp2
    go_ret
    exact ⟨rfl, HX2.out⟩
  have HSm := hid (hsm rfl)
  clear hsm hr
  have HL := hid (largesets_any (.slice ah has.length ch) has w2 w.heap.size (HH.out.ext HX2.out))
  go_wp2_with fail
  refine HL.out.mono ?_
  intro e w2' hx
  obtain ⟨r, rfl, hr, hsm, hx2⟩ := hx
  have HX2' := hid (HX2.out.trans hx2)
  have HBp' := hid (HBp.out.ext hx2)
  clear HL hx2
  rcases (by omega : r = 1 ∨ r = 0) with rfl | rfl
  · clear hsm hr
    go_wp2
    go_ret
    exact ⟨rfl, HX2'.out⟩
  have HFew := hid (hsm rfl)
  clear hsm hr
  have HQ := hid (ownprogram_any a1 a2 a3 c1 c2 c3 P w2' ((HP.out.ext HX2'.out).lift HX2'.out.size) HSm.out)
  have p0 := HBp'.out.av 0 rfl
  have p1 := HBp'.out.av 1 rfl
  have p2 := HBp'.out.av 2 rfl
  simp only [pcells, List.getElem_toArray, List.getElem_cons_zero, List.getElem_cons_succ] at p0 p1 p2
  unfold pval at HQ
  go_wp2_with fail
  refine HQ.out.mono ?_
  intro e w3 hx
  obtain ⟨hx3, b1, b2, b3, d1, d2, d3, rfl, hq⟩ := hx
  have HX3 := hid (HX2'.out.trans hx3)
  have Hq3 := hid hq
  clear HQ hx3 hq p0 p1 p2
  obtain ⟨W4, hW4⟩ : ∃ W4, W4 = w3.alloc (.cells (pcells b1 b2 b3 d1 d2 d3 P) 26) := ⟨_, rfl⟩
  have hx4 : Ext w3 W4 := by rw [hW4]; exact (Ext.refl _).alloc _
  have HX4 := hid (HX3.out.trans hx4)
  have HB64 : Hid (Blk W4 w3.heap.size (pcells b1 b2 b3 d1 d2 d3 P) 26) := hid (by rw [hW4]; exact Blk.new _ _ _)
  have HP4 := hid ((Hq3.out.ext hx4).lift hx4.size)
  have HW4 : Hid (W4 = w3.alloc (.cells #[.slice b1 P.vars.length d1, .slice b2 P.funs.length d2, .slice b3 P.stmts.length d3] 26)) := hid (by rw [hW4]; rfl)
  have h2 := HB64.out.av 2 rfl
  simp only [pcells, List.getElem_toArray, List.getElem_cons_zero, List.getElem_cons_succ] at h2
  rw [HW4.out] at h2
  have hz1 : ∀ s ∈ P.vars, s.size ≤ 1000000 := fun s hs => by have := HSm.out.vs s hs; omega
  have hz2 : ∀ s ∈ P.names, s.size ≤ 1000000 := fun s hs => by
    obtain ⟨f, hf, rfl⟩ := List.mem_map.1 hs
    have := (HSm.out.fs f hf).1
    omega
  have Hz1 := hid hz1
  have Hz2 := hid hz2
  have hnl : P.stmts.length ≤ 81 := HSm.out.sl
  clear hW4 hx4 hz1 hz2
  go_wp2
  rw [← HW4.out]
  clear h2
  generalize w3.heap.size = b6 at *
  go_loopw [7, 8] (fun t7 t8 wr => ∃ (j k : Nat) (v : Int) (ss : List S2), t8 = .int .i64 v ∧ v = (j : Int) - 1 ∧ j + k = P.stmts.length ∧ wr.ownsRow W4.heap.size 34 4 t7 k (ss.flatMap S2.cells) ∧ ss.map S2.s = P.stmts.reverse.take k ∧ (∀ x ∈ ss, IntsR W4 W4.heap.size x.v x.s.args) ∧ (∀ x ∈ P.stmts.reverse.take k, x.isK kNew = false) ∧ Ext W4 wr) (fun _ t8 _ => (intOf t8 + 1).toNat)
  case atStart => exact ⟨P.stmts.length, 0, _, [], rfl, rfl, rfl, World.ownsRow_nil _ _ _ _, rfl, (fun x h => by cases h), (fun x h => by simp at h), Ext.refl _⟩
  case round =>
    obtain ⟨j, k, v, ss, rfl, hv, hjk, hr, hm, hi, hnn, hx⟩ := hrel
    obtain ⟨a7, c7, rfl⟩ := row_form hr
    have Hr := hid hr
    have Hm := hid hm
    have Hi := hid hi
    have Hnn := hid hnn
    have Hx := hid hx
    clear hr hm hi hnn hx
    cases j with
    | succ m =>
      obtain rfl : v = (m : Int) := by omega
      have hm0 : m < P.stmts.length := by omega
      obtain ⟨y, x, av, cv, rfl, hq, e0, e1, e2, e3, hI⟩ := (HP4.out.ext Hx.out).stmts.at hm0
      have hI4 : IntsR W4 W4.heap.size (.slice av x.args.length cv) x.args := by
        obtain ⟨y', x', av', cv', hy', hq', f0, f1, f2, f3, hI'⟩ := HP4.out.stmts.at hm0
        obtain rfl := Option.some.inj hy'
        obtain rfl := Option.some.inj (hq.symm.trans hq')
        have := Hx.out.cellx f3
        rw [e3] at this
        obtain ⟨rfl, rfl⟩ : av = av' ∧ cv = cv' := by simpa using this
        exact hI'
      have hrev : P.stmts.reverse[k]? = some x := by
        rw [List.getElem?_reverse (by omega), show P.stmts.length - 1 - k = m by omega]
        exact hq
      have Hx4 := hid hI4
      have Hrev := hid hrev
      have h2 := (HB64.out.ext Hx.out).av 2 rfl
      simp only [pcells, List.getElem_toArray, List.getElem_cons_zero, List.getElem_cons_succ] at h2
      clear hI4 hI hrev hq hv
      cases hb : x.isK kNew with
      | true =>
        have hb' : (x.kind.toList == [110, 101, 119]) = true := hb
        clear hb
        go_wp2
        go_ret
        exact ⟨rfl, HX4.out.trans Hx.out⟩
      | false =>
        have hb' : (x.kind.toList == [110, 101, 119]) = false := hb
        have Hb := hid hb
        clear hb
        have hxa : Hid (Ext W4 (wr.alloc (.cells #[.string x.kind, .int .i64 x.x, .int .i64 x.y, .slice av x.args.length cv] 34))) := hid (Hx.out.alloc _)
        have Hra : Hid ((wr.alloc (.cells #[.string x.kind, .int .i64 x.x, .int .i64 x.y, .slice av x.args.length cv] 34)).ownsRow W4.heap.size 34 4 (.slice a7 k c7) k (ss.flatMap S2.cells)) := hid (own_ext Hr.out ((Ext.refl _).alloc _))
        go_wp2_with (at_builtin; refine wpList_append_el W4.heap.size hxa.out.size 24 34 (.agg #[.string ⟨#[]⟩, .int .i64 0, .int .i64 0, .slice none 0 0]) 4 56 Tryd.underlying24 stmt_info rfl (by omega) (by omega) rfl _ _ rfl (.slice a7 k c7) k (ss.flatMap S2.cells) rfl Hra.out wr.heap.size (S2.cells ⟨x, .slice av x.args.length cv⟩) rfl (by simp [S2.cells, Value.oneCell']) rfl (Blk.new _ _ _) (by omega) ?_; intro v' w' h1 h2' h4; obtain ⟨a', c', rfl⟩ := row_form h1; have h3 := hid (Keep.new hxa.out h2' (fun b e => (World.ownsRow.lt Hra.out b e).1)); have h1 := hid h1; clear h2' h4)
        go_roundw
        case rel =>
          refine ⟨m, k + 1, _, ss ++ [⟨x, .slice av x.args.length cv⟩], rfl, by omega, by omega, ?_, ?_, ?_, ?_, h3.out⟩
          · rw [List.flatMap_append]; simpa using h1.out
          · rw [List.map_append, Hm.out, List.take_add_one, Hrev.out]; rfl
          · intro z hz
            rcases List.mem_append.1 hz with hz | hz
            · exact Hi.out z hz
            · obtain rfl := List.mem_singleton.1 hz
              exact Hx4.out
          · intro z hz
            rw [List.take_add_one, Hrev.out] at hz
            rcases List.mem_append.1 hz with hz | hz
            · exact Hnn.out z hz
            · obtain rfl : z = x := by simpa using hz
              exact Hb.out
        case measure => simp [intOf]
    | zero =>
      obtain rfl : v = -1 := by omega
      obtain rfl : k = P.stmts.length := by omega
      rw [List.take_of_length_le (Nat.le_of_eq List.length_reverse)] at Hm Hnn
      have HNo : Hid P.noNew := hid fun x hx => Hnn.out x (List.mem_reverse.2 hx)
      have hssl : ss.length = P.stmts.length := by rw [← List.length_map (f := S2.s), Hm.out, List.length_reverse]
      obtain ⟨W9, hW9⟩ : ∃ W9, W9 = wr.alloc (.cells #[.slice b1 P.vars.length d1, .slice b2 P.funs.length d2, .slice a7 P.stmts.length c7] 26) := ⟨_, rfl⟩
      have hx9 : Ext wr W9 := by rw [hW9]; exact (Ext.refl _).alloc _
      have HX9 := hid (Hx.out.trans hx9)
      have HXw := hid (HX4.out.trans HX9.out)
      have HB9 : Hid (Blk W9 wr.heap.size #[.slice b1 P.vars.length d1, .slice b2 P.funs.length d2, .slice a7 P.stmts.length c7] 26) := hid (by rw [hW9]; exact Blk.new _ _ _)
      have HB6 := hid (HB64.out.ext HX9.out)
      have HW9 := hid hW9
      have HP9 := (HP4.out.ext HX9.out).lift HX9.out.size
      have HSt : StmtsR W9 W9.heap.size (.slice a7 P.turned.stmts.length c7) P.turned.stmts := by
        refine StmtsR.own2 (base := W4.heap.size) (ss := ss) ?_ Hm.out fun z hz => ElR.lift ((Hi.out z hz).old (HX9.out.old _)) HX9.out.size
        have := own_ext Hr.out hx9
        rw [hssl]
        rwa [show P.turned.stmts.length = P.stmts.length from List.length_reverse]
      have HQ9 : PS0 W9 W9.heap.size ad b1 b2 b3 d1 d2 d3 P := ⟨HE.out.ext HXw.out, HP9, Hz1.out, Hz2.out⟩
      have HT9 : PS0 W9 W9.heap.size ad b1 b2 a7 d1 d2 c7 P.turned := ⟨HE.out.ext HXw.out, ⟨HP9.vars, HP9.funs, HSt⟩, Hz1.out, Hz2.out⟩
      have HS9 := hid (HS.out.ext HXw.out)
      have HZ := hid (Ext.refl W9)
      have HOS := fun w1 (x : Ext W9 w1) => hid (ownsets_at (HH.out.ext HXw.out) HFew.out w1 x)
      have hturn : P.turned.stmts.length = P.stmts.length := List.length_reverse
      have htv : P.turned.vars = P.vars := rfl
      have htf : P.turned.funs = P.funs := rfl
      have h1 := (HB64.out.ext Hx.out).av 0 rfl
      have h2 := (HB64.out.ext Hx.out).av 1 rfl
      simp only [pcells, List.getElem_toArray, List.getElem_cons_zero, List.getElem_cons_succ] at h1 h2
      clear hv hjk hx9 hW9 hssl
      rcases Classical.em (P.GoodS has) with hg | hg
      · have hgt := (goodS_turned HNo.out has).2 hg
        obtain ⟨EL, hEL⟩ : ∃ EL, EL = P.edgesL has := ⟨_, rfl⟩
        obtain ⟨d, hd⟩ := closed_dec P has
        have hdt := hd.trans (closed_turned HNo.out has).symm
        have HC1 := fun w1 v (x : Ext W9 w1) (hs : SetsR w1 w1.heap.size v has) => hid (edges_fix b1 b2 b3 d1 d2 d3 P v has w1 ad ((HQ9.on (Nat.le_refl _) x).pw hg.1) (HS9.out.ext x) hs hg)
        have HC2 := fun w1 v (x : Ext W9 w1) (hs : SetsR w1 w1.heap.size v has) => hid (edges_fix b1 b2 a7 d1 d2 c7 P.turned v has w1 ad ((HT9.on (Nat.le_refl _) x).pw hgt.1) (HS9.out.ext x) hs hgt)
        have HC3 := fun w1 a c (x : Ext W9 w1) (hs : SetsR w1 w1.heap.size (.slice a has.length c) has) => hid (closed_fix b1 b2 b3 d1 d2 d3 P a c has w1 ad ((HQ9.on (Nat.le_refl _) x).pw hg.1) (HS9.out.ext x) hs hg d hd)
        have HC4 := fun w1 a c (x : Ext W9 w1) (hs : SetsR w1 w1.heap.size (.slice a has.length c) has) => hid (closed_fix b1 b2 a7 d1 d2 c7 P.turned a c has w1 ad ((HT9.on (Nat.le_refl _) x).pw hgt.1) (HS9.out.ext x) hs hgt d hdt)
        have HN1 := fun w1 (x : Ext W9 w1) => hid (prognodes_any b1 b2 b3 d1 d2 d3 P w1 w1.heap.size ad (HQ9.on (Nat.le_refl _) x).errs (HQ9.on (Nat.le_refl _) x).prog Hz1.out Hz2.out hg.1)
        have HN2 := fun w1 (x : Ext W9 w1) => hid (prognodes_any b1 b2 a7 d1 d2 c7 P.turned w1 w1.heap.size ad (HT9.on (Nat.le_refl _) x).errs (HT9.on (Nat.le_refl _) x).prog Hz1.out Hz2.out hgt.1)
        rw [nodes_turned HNo.out] at HN2
        rw [edgesL_turned HNo.out hg, ← hEL] at HC2
        rw [← hEL] at HC1
        unfold pval at HC1 HC2 HC3 HC4 HN1 HN2
        simp only [hturn, htv, htf] at HC2 HC4 HN2
        have hEl : EL.length ≤ 50000 := by rw [hEL]; exact edgesL_len hg.1 has
        clear hEL hd hdt hg hgt HQ9 HT9 HSt HP9 hturn htv htf HS9
        go_wp2
        rw [← HW9.out]
        clear h1 h2
        have g0 := (HB6.out.ext (Ext.refl W9)).kc (X := fun _ => False) (fun e => e) 0 rfl
        have g1 := (HB6.out.ext (Ext.refl W9)).kc (X := fun _ => False) (fun e => e) 1 rfl
        have g2 := (HB6.out.ext (Ext.refl W9)).kc (X := fun _ => False) (fun e => e) 2 rfl
        have k0 := (HB9.out.ext (Ext.refl W9)).kc (X := fun _ => False) (fun e => e) 0 rfl
        have k1 := (HB9.out.ext (Ext.refl W9)).kc (X := fun _ => False) (fun e => e) 1 rfl
        have k2 := (HB9.out.ext (Ext.refl W9)).kc (X := fun _ => False) (fun e => e) 2 rfl
        simp only [pcells, List.getElem_toArray, List.getElem_cons_zero, List.getElem_cons_succ] at g0 g1 g2 k0 k1 k2
        refine wp_flowT (fun _ => False) (by kernel_rfl) (by kernel_rfl) ?_
        repeat (apply FlowT.d; (intro w1 hk; unfold does; go_simp; (try go_ints); (first | exact DetR.mk | (simp only [↓IntWalk.iteOmega, Oper.doesUpon_value]; exact DetR.mk) | (simp only [↓IntWalk.iteOmega]; go_simp; (try go_ints); exact DetR.mk))); simp only [Act.put, List.setIfInBounds_toArray, List.set_cons_zero, List.set_cons_succ])
        refine FlowT.s (fun v w' => (∃ a c, v = .slice a has.length c) ∧ SetsR w' w'.heap.size v has ∧ Ext W9 w') 2 rfl (by kernel_rfl) (fun _ _ _ ⟨h1, h2, h3⟩ y => ⟨h1, (h2.ext y).lift y.size, h3.trans y⟩) (fun wa hC hk2 => ?_) ?_
        · unfold does
          go_simp
          refine CallR.act ((HOS wa (HZ.out.trans hC)).out.mono ?_)
          rintro e wb ⟨a, c, rfl, hs, hx⟩
          exact ⟨_, rfl, hk2.trans (hx.keep _), ⟨a, c, rfl⟩, hs, hC.trans hx⟩
        rintro _ ⟨_, ⟨ao, co, rfl⟩, _, _⟩
        simp only [Act.put, List.setIfInBounds_toArray, List.set_cons_zero, List.set_cons_succ]
        refine FlowT.s (fun v w' => (∃ a c, v = .tuple #[.slice a EL.length c, .nilIface]) ∧ (∀ a c, v = .tuple #[.slice a EL.length c, .nilIface] → ERow 0 w' (.slice a EL.length c) EL) ∧ Ext W9 w') 3 rfl (by kernel_rfl) (fun _ _ _ ⟨h1, h2, h3⟩ y => ⟨h1, fun a c e => (h2 a c e).ext y, h3.trans y⟩) (fun wa hC hk2 => ?_) ?_
        · obtain ⟨_, hs, hx0⟩ := hC
          have HCa := HC1 wa _ (HZ.out.trans hx0) hs
          unfold does
          go_simp
          refine CallR.act (HCa.out.mono ?_)
          rintro e wb ⟨a, c, rfl, hr, hl, hx⟩
          refine ⟨_, rfl, hk2.trans (hx.keep _), ⟨a, c, rfl⟩, fun a' c' e => ?_, hx0.trans hx⟩
          rw [← (show Value.slice a EL.length c = Value.slice a' EL.length c' by simpa using e)]
          exact hr.low (Nat.zero_le _)
        rintro _ ⟨_, ⟨ae, ce, rfl⟩, _, _⟩
        simp only [Act.put, List.setIfInBounds_toArray, List.set_cons_zero, List.set_cons_succ]
        repeat (apply FlowT.d; (intro w1 hk; unfold does; go_simp; (try go_ints); (first | exact DetR.mk | (simp only [↓IntWalk.iteOmega, Oper.doesUpon_value]; exact DetR.mk) | (simp only [↓IntWalk.iteOmega]; go_simp; (try go_ints); exact DetR.mk))); simp only [Act.put, List.setIfInBounds_toArray, List.set_cons_zero, List.set_cons_succ])
        refine FlowT.fin fun w5 hC5 hk5 => ?_
        obtain ⟨_, hr5, hx5⟩ := hC5
        have Hr5 := hid (hr5 _ _ rfl)
        have HZ := hid hx5
        clear hr5 hx5 hk5 g0 g1 g2 k0 k1 k2 HC1
        go_wp2
        have g0 := (HB6.out.ext HZ.out).kc (X := fun _ => False) (fun e => e) 0 rfl
        have g1 := (HB6.out.ext HZ.out).kc (X := fun _ => False) (fun e => e) 1 rfl
        have g2 := (HB6.out.ext HZ.out).kc (X := fun _ => False) (fun e => e) 2 rfl
        have k0 := (HB9.out.ext HZ.out).kc (X := fun _ => False) (fun e => e) 0 rfl
        have k1 := (HB9.out.ext HZ.out).kc (X := fun _ => False) (fun e => e) 1 rfl
        have k2 := (HB9.out.ext HZ.out).kc (X := fun _ => False) (fun e => e) 2 rfl
        simp only [pcells, List.getElem_toArray, List.getElem_cons_zero, List.getElem_cons_succ] at g0 g1 g2 k0 k1 k2
        refine wp_flowT (fun _ => False) (by kernel_rfl) (by kernel_rfl) ?_
        repeat (apply FlowT.d; (intro w1 hk; unfold does; go_simp; (try go_ints); (first | exact DetR.mk | (simp only [↓IntWalk.iteOmega, Oper.doesUpon_value]; exact DetR.mk) | (simp only [↓IntWalk.iteOmega]; go_simp; (try go_ints); exact DetR.mk))); simp only [Act.put, List.setIfInBounds_toArray, List.set_cons_zero, List.set_cons_succ])
        refine FlowT.s (fun v w' => (∃ a c, v = .slice a has.length c) ∧ SetsR w' w'.heap.size v has ∧ Ext w5 w') 2 rfl (by kernel_rfl) (fun _ _ _ ⟨h1, h2, h3⟩ y => ⟨h1, (h2.ext y).lift y.size, h3.trans y⟩) (fun wa hC hk2 => ?_) ?_
        · unfold does
          go_simp
          refine CallR.act ((HOS wa (HZ.out.trans hC)).out.mono ?_)
          rintro e wb ⟨a, c, rfl, hs, hx⟩
          exact ⟨_, rfl, hk2.trans (hx.keep _), ⟨a, c, rfl⟩, hs, hC.trans hx⟩
        rintro _ ⟨_, ⟨ao, co, rfl⟩, _, _⟩
        simp only [Act.put, List.setIfInBounds_toArray, List.set_cons_zero, List.set_cons_succ]
        refine FlowT.s (fun v w' => (∃ a c, v = .tuple #[.slice a EL.length c, .nilIface]) ∧ (∀ a c, v = .tuple #[.slice a EL.length c, .nilIface] → ERow 0 w' (.slice a EL.length c) EL) ∧ Ext w5 w') 3 rfl (by kernel_rfl) (fun _ _ _ ⟨h1, h2, h3⟩ y => ⟨h1, fun a c e => (h2 a c e).ext y, h3.trans y⟩) (fun wa hC hk2 => ?_) ?_
        · obtain ⟨_, hs, hx0⟩ := hC
          have HCa := HC2 wa _ (HZ.out.trans hx0) hs
          unfold does
          go_simp
          refine CallR.act (HCa.out.mono ?_)
          rintro e wb ⟨a, c, rfl, hr, hl, hx⟩
          refine ⟨_, rfl, hk2.trans (hx.keep _), ⟨a, c, rfl⟩, fun a' c' e => ?_, hx0.trans hx⟩
          rw [← (show Value.slice a EL.length c = Value.slice a' EL.length c' by simpa using e)]
          exact hr.low (Nat.zero_le _)
        rintro _ ⟨_, ⟨ae, ce, rfl⟩, _, _⟩
        simp only [Act.put, List.setIfInBounds_toArray, List.set_cons_zero, List.set_cons_succ]
        repeat (apply FlowT.d; (intro w1 hk; unfold does; go_simp; (try go_ints); (first | exact DetR.mk | (simp only [↓IntWalk.iteOmega, Oper.doesUpon_value]; exact DetR.mk) | (simp only [↓IntWalk.iteOmega]; go_simp; (try go_ints); exact DetR.mk))); simp only [Act.put, List.setIfInBounds_toArray, List.set_cons_zero, List.set_cons_succ])
        refine FlowT.fin fun w6 hC6 hk6 => ?_
        obtain ⟨_, hr6, hx6⟩ := hC6
        have Hr6 := hid (hr6 _ _ rfl)
        have Hr56 := hid (Hr5.out.ext hx6)
        have HZ6 := hid (HZ.out.trans hx6)
        clear hr6 hx6 hk6 g0 g1 g2 k0 k1 k2 HC2 Hr5
        go_wp2
        go_loopw [14] (fun t14 wq => ∃ i : Nat, t14 = .int .i64 (i : Int) ∧ i ≤ EL.length ∧ Ext w6 wq) (fun t14 _ => EL.length - (intOf t14).toNat)
        case atStart => exact ⟨0, rfl, Nat.zero_le _, Ext.refl _⟩
        case round =>
          obtain ⟨i, rfl, hi, hx⟩ := hrel
          have Hxq := hid hx
          clear hx
          by_cases hlt : i < EL.length
          · obtain ⟨ga, ca, hge⟩ := own_some Hr56.out (by omega)
            simp only [Value.slice.injEq] at hge
            obtain ⟨rfl, -, rfl⟩ := hge
            obtain ⟨gb, cb, hge⟩ := own_some Hr6.out (by omega)
            simp only [Value.slice.injEq] at hge
            obtain ⟨rfl, -, rfl⟩ := hge
            obtain ⟨⟨x, z⟩, hxk⟩ : ∃ x, EL[i]? = some x := ⟨_, List.getElem?_eq_getElem hlt⟩
            obtain ⟨p0, p1⟩ := own_e (own_ext Hr56.out Hxq.out) hxk
            obtain ⟨q0, q1⟩ := own_e (own_ext Hr6.out Hxq.out) hxk
            have j0 : ∀ w1, Keep (fun _ => False) wr w1 → w1.cell? ⟨ga, i * 2, none⟩ = some (.int .i64 x) := fun w1 k => k.ext.cellx p0
            have j1 : ∀ w1, Keep (fun _ => False) wr w1 → w1.cell? ⟨ga, i * 2 + 1, none⟩ = some (.int .i64 z) := fun w1 k => k.ext.cellx p1
            have j2 : ∀ w1, Keep (fun _ => False) wr w1 → w1.cell? ⟨gb, i * 2, none⟩ = some (.int .i64 x) := fun w1 k => k.ext.cellx q0
            have j3 : ∀ w1, Keep (fun _ => False) wr w1 → w1.cell? ⟨gb, i * 2 + 1, none⟩ = some (.int .i64 z) := fun w1 k => k.ext.cellx q1
            clear p0 p1 q0 q1 hxk
            go_wp2
            refine wp_flowT (fun _ => False) (by kernel_rfl) (by kernel_rfl) ?_
            repeat (apply FlowT.d; (intro w1 hk; unfold does; go_simp; (try go_ints); (first | exact DetR.mk | (simp only [↓IntWalk.iteOmega, Oper.doesUpon_value]; exact DetR.mk) | (simp only [↓IntWalk.iteOmega]; go_simp; (try go_ints); exact DetR.mk))); simp only [Act.put, List.setIfInBounds_toArray, List.set_cons_zero, List.set_cons_succ])
            refine FlowT.fin fun w7 hx7 hk7 => ?_
            have Hx7 := hid (Hxq.out.trans hx7)
            clear hx7 hk7 j0 j1 j2 j3
            try rw [show (x != x || z != z) = false by simp]
            go_wp2
            go_roundw
            case rel => exact ⟨i + 1, by go_num, by omega, Hx7.out⟩
            case measure => simp [intOf]; omega
          · obtain rfl : i = EL.length := by omega
            have HZ := hid (HZ6.out.trans Hxq.out)
            go_wp2
            have g0 := (HB6.out.ext HZ.out).kc (X := fun _ => False) (fun e => e) 0 rfl
            have g1 := (HB6.out.ext HZ.out).kc (X := fun _ => False) (fun e => e) 1 rfl
            have g2 := (HB6.out.ext HZ.out).kc (X := fun _ => False) (fun e => e) 2 rfl
            have k0 := (HB9.out.ext HZ.out).kc (X := fun _ => False) (fun e => e) 0 rfl
            have k1 := (HB9.out.ext HZ.out).kc (X := fun _ => False) (fun e => e) 1 rfl
            have k2 := (HB9.out.ext HZ.out).kc (X := fun _ => False) (fun e => e) 2 rfl
            simp only [pcells, List.getElem_toArray, List.getElem_cons_zero, List.getElem_cons_succ] at g0 g1 g2 k0 k1 k2
            refine wp_flowT (fun _ => False) (by kernel_rfl) (by kernel_rfl) ?_
            repeat (apply FlowT.d; (intro w1 hk; unfold does; go_simp; (try go_ints); (first | exact DetR.mk | (simp only [↓IntWalk.iteOmega, Oper.doesUpon_value]; exact DetR.mk) | (simp only [↓IntWalk.iteOmega]; go_simp; (try go_ints); exact DetR.mk))); simp only [Act.put, List.setIfInBounds_toArray, List.set_cons_zero, List.set_cons_succ])
            refine FlowT.s (fun v w' => (∃ a c, v = .slice a has.length c) ∧ SetsR w' w'.heap.size v has ∧ Ext wr w') 2 rfl (by kernel_rfl) (fun _ _ _ ⟨h1, h2, h3⟩ y => ⟨h1, (h2.ext y).lift y.size, h3.trans y⟩) (fun wa hC hk2 => ?_) ?_
            · unfold does
              go_simp
              refine CallR.act ((HOS wa (HZ.out.trans hC)).out.mono ?_)
              rintro e wb ⟨a, c, rfl, hs, hx⟩
              exact ⟨_, rfl, hk2.trans (hx.keep _), ⟨a, c, rfl⟩, hs, hC.trans hx⟩
            rintro _ ⟨_, ⟨ao, co, rfl⟩, _, _⟩
            simp only [Act.put, List.setIfInBounds_toArray, List.set_cons_zero, List.set_cons_succ]
            refine FlowT.s (fun v w' => v = .tuple #[.bool d, .nilIface] ∧ Ext wr w') 3 rfl (by kernel_rfl) (fun _ _ _ ⟨h1, h3⟩ y => ⟨h1, h3.trans y⟩) (fun wa hC hk2 => ?_) ?_
            · obtain ⟨_, hs, hx0⟩ := hC
              have HCa := HC3 wa _ _ (HZ.out.trans hx0) hs
              unfold does
              go_simp
              refine CallR.act (HCa.out.mono ?_)
              rintro e wb ⟨rfl, hx⟩
              exact ⟨_, rfl, hk2.trans (hx.keep _), rfl, hx0.trans hx⟩
            rintro _ ⟨_, rfl, _⟩
            simp only [Act.put, List.setIfInBounds_toArray, List.set_cons_zero, List.set_cons_succ]
            repeat (apply FlowT.d; (intro w1 hk; unfold does; go_simp; (try go_ints); (first | exact DetR.mk | (simp only [↓IntWalk.iteOmega, Oper.doesUpon_value]; exact DetR.mk) | (simp only [↓IntWalk.iteOmega]; go_simp; (try go_ints); exact DetR.mk))); simp only [Act.put, List.setIfInBounds_toArray, List.set_cons_zero, List.set_cons_succ])
            refine FlowT.fin fun w7 hC7 hk7 => ?_
            have HZ := hid (HZ.out.trans hC7.2)
            clear hC7 hk7 g0 g1 g2 k0 k1 k2 HC3
            go_wp2
            have g0 := (HB6.out.ext HZ.out).kc (X := fun _ => False) (fun e => e) 0 rfl
            have g1 := (HB6.out.ext HZ.out).kc (X := fun _ => False) (fun e => e) 1 rfl
            have g2 := (HB6.out.ext HZ.out).kc (X := fun _ => False) (fun e => e) 2 rfl
            have k0 := (HB9.out.ext HZ.out).kc (X := fun _ => False) (fun e => e) 0 rfl
            have k1 := (HB9.out.ext HZ.out).kc (X := fun _ => False) (fun e => e) 1 rfl
            have k2 := (HB9.out.ext HZ.out).kc (X := fun _ => False) (fun e => e) 2 rfl
            simp only [pcells, List.getElem_toArray, List.getElem_cons_zero, List.getElem_cons_succ] at g0 g1 g2 k0 k1 k2
            refine wp_flowT (fun _ => False) (by kernel_rfl) (by kernel_rfl) ?_
            repeat (apply FlowT.d; (intro w1 hk; unfold does; go_simp; (try go_ints); (first | exact DetR.mk | (simp only [↓IntWalk.iteOmega, Oper.doesUpon_value]; exact DetR.mk) | (simp only [↓IntWalk.iteOmega]; go_simp; (try go_ints); exact DetR.mk))); simp only [Act.put, List.setIfInBounds_toArray, List.set_cons_zero, List.set_cons_succ])
            refine FlowT.s (fun v w' => (∃ a c, v = .slice a has.length c) ∧ SetsR w' w'.heap.size v has ∧ Ext w7 w') 2 rfl (by kernel_rfl) (fun _ _ _ ⟨h1, h2, h3⟩ y => ⟨h1, (h2.ext y).lift y.size, h3.trans y⟩) (fun wa hC hk2 => ?_) ?_
            · unfold does
              go_simp
              refine CallR.act ((HOS wa (HZ.out.trans hC)).out.mono ?_)
              rintro e wb ⟨a, c, rfl, hs, hx⟩
              exact ⟨_, rfl, hk2.trans (hx.keep _), ⟨a, c, rfl⟩, hs, hC.trans hx⟩
            rintro _ ⟨_, ⟨ao, co, rfl⟩, _, _⟩
            simp only [Act.put, List.setIfInBounds_toArray, List.set_cons_zero, List.set_cons_succ]
            refine FlowT.s (fun v w' => v = .tuple #[.bool d, .nilIface] ∧ Ext w7 w') 3 rfl (by kernel_rfl) (fun _ _ _ ⟨h1, h3⟩ y => ⟨h1, h3.trans y⟩) (fun wa hC hk2 => ?_) ?_
            · obtain ⟨_, hs, hx0⟩ := hC
              have HCa := HC4 wa _ _ (HZ.out.trans hx0) hs
              unfold does
              go_simp
              refine CallR.act (HCa.out.mono ?_)
              rintro e wb ⟨rfl, hx⟩
              exact ⟨_, rfl, hk2.trans (hx.keep _), rfl, hx0.trans hx⟩
            rintro _ ⟨_, rfl, _⟩
            simp only [Act.put, List.setIfInBounds_toArray, List.set_cons_zero, List.set_cons_succ]
            repeat (apply FlowT.d; (intro w1 hk; unfold does; go_simp; (try go_ints); (first | exact DetR.mk | (simp only [↓IntWalk.iteOmega, Oper.doesUpon_value]; exact DetR.mk) | (simp only [↓IntWalk.iteOmega]; go_simp; (try go_ints); exact DetR.mk))); simp only [Act.put, List.setIfInBounds_toArray, List.set_cons_zero, List.set_cons_succ])
            refine FlowT.fin fun w8 hC8 hk8 => ?_
            have HZ := hid (HZ.out.trans hC8.2)
            clear hC8 hk8 g0 g1 g2 k0 k1 k2 HC4
            go_wp2
            have g0 := (HB6.out.ext HZ.out).kc (X := fun _ => False) (fun e => e) 0 rfl
            have g1 := (HB6.out.ext HZ.out).kc (X := fun _ => False) (fun e => e) 1 rfl
            have g2 := (HB6.out.ext HZ.out).kc (X := fun _ => False) (fun e => e) 2 rfl
            have k0 := (HB9.out.ext HZ.out).kc (X := fun _ => False) (fun e => e) 0 rfl
            have k1 := (HB9.out.ext HZ.out).kc (X := fun _ => False) (fun e => e) 1 rfl
            have k2 := (HB9.out.ext HZ.out).kc (X := fun _ => False) (fun e => e) 2 rfl
            simp only [pcells, List.getElem_toArray, List.getElem_cons_zero, List.getElem_cons_succ] at g0 g1 g2 k0 k1 k2
            refine wp_flowT (fun _ => False) (by kernel_rfl) (by kernel_rfl) ?_
            repeat (apply FlowT.d; (intro w1 hk; unfold does; go_simp; (try go_ints); (first | exact DetR.mk | (simp only [↓IntWalk.iteOmega, Oper.doesUpon_value]; exact DetR.mk) | (simp only [↓IntWalk.iteOmega]; go_simp; (try go_ints); exact DetR.mk))); simp only [Act.put, List.setIfInBounds_toArray, List.set_cons_zero, List.set_cons_succ])
            apply FlowT.d
            · intro w1 hk
              unfold does
              go_simp
              exact CallR.det ((HN1 w1 (HZ.out.trans hk.ext)).out)
            simp only [Act.put, List.setIfInBounds_toArray, List.set_cons_zero, List.set_cons_succ]
            repeat (apply FlowT.d; (intro w1 hk; unfold does; go_simp; (try go_ints); (first | exact DetR.mk | (simp only [↓IntWalk.iteOmega, Oper.doesUpon_value]; exact DetR.mk) | (simp only [↓IntWalk.iteOmega]; go_simp; (try go_ints); exact DetR.mk))); simp only [Act.put, List.setIfInBounds_toArray, List.set_cons_zero, List.set_cons_succ])
            apply FlowT.d
            · intro w1 hk
              unfold does
              go_simp
              exact CallR.det ((HN2 w1 (HZ.out.trans hk.ext)).out)
            simp only [Act.put, List.setIfInBounds_toArray, List.set_cons_zero, List.set_cons_succ]
            repeat (apply FlowT.d; (intro w1 hk; unfold does; go_simp; (try go_ints); (first | exact DetR.mk | (simp only [↓IntWalk.iteOmega, Oper.doesUpon_value]; exact DetR.mk) | (simp only [↓IntWalk.iteOmega]; go_simp; (try go_ints); exact DetR.mk))); simp only [Act.put, List.setIfInBounds_toArray, List.set_cons_zero, List.set_cons_succ])
            refine FlowT.fin fun w9 hx9 hk9 => ?_
            have HZ := hid (HZ.out.trans hx9)
            clear hx9 hk9 g0 g1 g2 k0 k1 k2 HN1 HN2
            go_wp2
            go_ret
            exact ⟨rfl, HXw.out.trans HZ.out⟩
      · have hgt := fun h => hg ((goodS_turned HNo.out has).1 h)
        have HC1 := fun w1 v (x : Ext W9 w1) (hs : SetsR w1 w1.heap.size v has) => hid (edges_err b1 b2 b3 d1 d2 d3 P v has w1 w1.heap.size ad (HQ9.on (Nat.le_refl _) x) (HS9.out.ext x) hs hg)
        have HC2 := fun w1 v (x : Ext W9 w1) (hs : SetsR w1 w1.heap.size v has) => hid (edges_err b1 b2 a7 d1 d2 c7 P.turned v has w1 w1.heap.size ad (HT9.on (Nat.le_refl _) x) (HS9.out.ext x) hs hgt)
        unfold pval at HC1 HC2
        simp only [hturn, htv, htf] at HC2
        clear hg hgt HQ9 HT9 HSt HP9 hturn htv htf HS9
        go_wp2
        rw [← HW9.out]
        clear h1 h2
        have g0 := (HB6.out.ext (Ext.refl W9)).kc (X := fun _ => False) (fun e => e) 0 rfl
        have g1 := (HB6.out.ext (Ext.refl W9)).kc (X := fun _ => False) (fun e => e) 1 rfl
        have g2 := (HB6.out.ext (Ext.refl W9)).kc (X := fun _ => False) (fun e => e) 2 rfl
        have k0 := (HB9.out.ext (Ext.refl W9)).kc (X := fun _ => False) (fun e => e) 0 rfl
        have k1 := (HB9.out.ext (Ext.refl W9)).kc (X := fun _ => False) (fun e => e) 1 rfl
        have k2 := (HB9.out.ext (Ext.refl W9)).kc (X := fun _ => False) (fun e => e) 2 rfl
        simp only [pcells, List.getElem_toArray, List.getElem_cons_zero, List.getElem_cons_succ] at g0 g1 g2 k0 k1 k2
        refine wp_flowT (fun _ => False) (by kernel_rfl) (by kernel_rfl) ?_
        repeat (apply FlowT.d; (intro w1 hk; unfold does; go_simp; (try go_ints); (first | exact DetR.mk | (simp only [↓IntWalk.iteOmega, Oper.doesUpon_value]; exact DetR.mk) | (simp only [↓IntWalk.iteOmega]; go_simp; (try go_ints); exact DetR.mk))); simp only [Act.put, List.setIfInBounds_toArray, List.set_cons_zero, List.set_cons_succ])
        refine FlowT.s (fun v w' => (∃ a c, v = .slice a has.length c) ∧ SetsR w' w'.heap.size v has ∧ Ext W9 w') 2 rfl (by kernel_rfl) (fun _ _ _ ⟨h1, h2, h3⟩ y => ⟨h1, (h2.ext y).lift y.size, h3.trans y⟩) (fun wa hC hk2 => ?_) ?_
        · unfold does
          go_simp
          refine CallR.act ((HOS wa (HZ.out.trans hC)).out.mono ?_)
          rintro e wb ⟨a, c, rfl, hs, hx⟩
          exact ⟨_, rfl, hk2.trans (hx.keep _), ⟨a, c, rfl⟩, hs, hC.trans hx⟩
        rintro _ ⟨_, ⟨ao, co, rfl⟩, _, _⟩
        simp only [Act.put, List.setIfInBounds_toArray, List.set_cons_zero, List.set_cons_succ]
        refine FlowT.s (fun v w' => (∃ t x, v = .tuple #[.slice none 0 0, .iface t (.pointer (some x))]) ∧ Ext W9 w') 3 rfl (by kernel_rfl) (fun _ _ _ ⟨h1, h3⟩ y => ⟨h1, h3.trans y⟩) (fun wa hC hk2 => ?_) ?_
        · obtain ⟨_, hs, hx0⟩ := hC
          have HCa := HC1 wa _ (HZ.out.trans hx0) hs
          unfold does
          go_simp
          refine CallR.act (HCa.out.mono ?_)
          rintro e wb ⟨t, x, rfl, hx⟩
          exact ⟨_, rfl, hk2.trans (hx.keep _), ⟨t, x, rfl⟩, hx0.trans hx⟩
        rintro _ ⟨_, ⟨te, xe, rfl⟩, _⟩
        simp only [Act.put, List.setIfInBounds_toArray, List.set_cons_zero, List.set_cons_succ]
        repeat (apply FlowT.d; (intro w1 hk; unfold does; go_simp; (try go_ints); (first | exact DetR.mk | (simp only [↓IntWalk.iteOmega, Oper.doesUpon_value]; exact DetR.mk) | (simp only [↓IntWalk.iteOmega]; go_simp; (try go_ints); exact DetR.mk))); simp only [Act.put, List.setIfInBounds_toArray, List.set_cons_zero, List.set_cons_succ])
        refine FlowT.fin fun w5 hC5 hk5 => ?_
        obtain ⟨_, hx5⟩ := hC5
        have HZ := hid hx5
        clear hx5 hk5 g0 g1 g2 k0 k1 k2 HC1
        go_wp2
        have g0 := (HB6.out.ext HZ.out).kc (X := fun _ => False) (fun e => e) 0 rfl
        have g1 := (HB6.out.ext HZ.out).kc (X := fun _ => False) (fun e => e) 1 rfl
        have g2 := (HB6.out.ext HZ.out).kc (X := fun _ => False) (fun e => e) 2 rfl
        have k0 := (HB9.out.ext HZ.out).kc (X := fun _ => False) (fun e => e) 0 rfl
        have k1 := (HB9.out.ext HZ.out).kc (X := fun _ => False) (fun e => e) 1 rfl
        have k2 := (HB9.out.ext HZ.out).kc (X := fun _ => False) (fun e => e) 2 rfl
        simp only [pcells, List.getElem_toArray, List.getElem_cons_zero, List.getElem_cons_succ] at g0 g1 g2 k0 k1 k2
        refine wp_flowT (fun _ => False) (by kernel_rfl) (by kernel_rfl) ?_
        repeat (apply FlowT.d; (intro w1 hk; unfold does; go_simp; (try go_ints); (first | exact DetR.mk | (simp only [↓IntWalk.iteOmega, Oper.doesUpon_value]; exact DetR.mk) | (simp only [↓IntWalk.iteOmega]; go_simp; (try go_ints); exact DetR.mk))); simp only [Act.put, List.setIfInBounds_toArray, List.set_cons_zero, List.set_cons_succ])
        refine FlowT.s (fun v w' => (∃ a c, v = .slice a has.length c) ∧ SetsR w' w'.heap.size v has ∧ Ext w5 w') 2 rfl (by kernel_rfl) (fun _ _ _ ⟨h1, h2, h3⟩ y => ⟨h1, (h2.ext y).lift y.size, h3.trans y⟩) (fun wa hC hk2 => ?_) ?_
        · unfold does
          go_simp
          refine CallR.act ((HOS wa (HZ.out.trans hC)).out.mono ?_)
          rintro e wb ⟨a, c, rfl, hs, hx⟩
          exact ⟨_, rfl, hk2.trans (hx.keep _), ⟨a, c, rfl⟩, hs, hC.trans hx⟩
        rintro _ ⟨_, ⟨ao, co, rfl⟩, _, _⟩
        simp only [Act.put, List.setIfInBounds_toArray, List.set_cons_zero, List.set_cons_succ]
        refine FlowT.s (fun v w' => (∃ t x, v = .tuple #[.slice none 0 0, .iface t (.pointer (some x))]) ∧ Ext w5 w') 3 rfl (by kernel_rfl) (fun _ _ _ ⟨h1, h3⟩ y => ⟨h1, h3.trans y⟩) (fun wa hC hk2 => ?_) ?_
        · obtain ⟨_, hs, hx0⟩ := hC
          have HCa := HC2 wa _ (HZ.out.trans hx0) hs
          unfold does
          go_simp
          refine CallR.act (HCa.out.mono ?_)
          rintro e wb ⟨t, x, rfl, hx⟩
          exact ⟨_, rfl, hk2.trans (hx.keep _), ⟨t, x, rfl⟩, hx0.trans hx⟩
        rintro _ ⟨_, ⟨te, xe, rfl⟩, _⟩
        simp only [Act.put, List.setIfInBounds_toArray, List.set_cons_zero, List.set_cons_succ]
        repeat (apply FlowT.d; (intro w1 hk; unfold does; go_simp; (try go_ints); (first | exact DetR.mk | (simp only [↓IntWalk.iteOmega, Oper.doesUpon_value]; exact DetR.mk) | (simp only [↓IntWalk.iteOmega]; go_simp; (try go_ints); exact DetR.mk))); simp only [Act.put, List.setIfInBounds_toArray, List.set_cons_zero, List.set_cons_succ])
        refine FlowT.fin fun w6 hC6 hk6 => ?_
        obtain ⟨_, hx6⟩ := hC6
        have HZ6 := hid (HZ.out.trans hx6)
        clear hx6 hk6 g0 g1 g2 k0 k1 k2 HC2
        go_wp2
        go_ret
        exact ⟨rfl, HXw.out.trans HZ6.out⟩
end Go.Proofs.YtohfdecefikinaaDoor
