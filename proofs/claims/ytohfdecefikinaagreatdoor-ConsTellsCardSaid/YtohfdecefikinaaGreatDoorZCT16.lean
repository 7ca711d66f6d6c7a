/- Texts of one proof, put together: YJ Z1 Z2 Z3 Z4 T7 YM M1 T8. -/
import Derived.Test.YtohfdecefikinaaGreatDoorZCT06
import Derived.Test.YtohfdecefikinaaGreatDoorZCT09
import Derived.Test.YtohfdecefikinaaGreatDoorZCT10
import Derived.Test.YtohfdecefikinaaGreatDoorZCT13
import Derived.Test.YtohfdecefikinaaGreatDoorZCT14
import Derived.Test.YtohfdecefikinaaGreatDoorZCT15

/- slices.ContainsFunc over edges: is an edge's source not within its end? -/
namespace Go.Proofs.YtohfdecefikinaaGreatDoor
set_option linter.unusedSimpArgs false
set_option linter.unusedVariables false
open Go Go.RowKit

set_option maxRecDepth 100000 in
set_option maxHeartbeats 1600000 in
theorem eidx_cl (b : Value) (p : Int × Int → Bool) (lv : Value) (l : List (Int × Int)) (w : World) (n0 : Nat) (h : ERow n0 w lv l) (hfew : l.length ≤ 100000) (hF : ∀ n w1, n ∈ l → Ext w w1 → Calls Tryz.prog 46 (#[eVal n] ++ #[b]) w1 fun e w' => e = .returned (.bool (p n)) ∧ Ext w1 w') :
    Calls Tryz.prog 68 #[lv, .func (.func 46) #[] #[b]] w fun e w' => ∃ r : Int, e = .returned (.int .i64 r) ∧ IdxG p l r ∧ Ext w w' := by
  have HF := hid hF
  unfold ERow at h
  obtain ⟨a, c, rfl⟩ := row_form h
  have Hr := hid h
  clear hF h
  go_enter Tryz.func68, Tryz.ntmps68
  go_wp2
  go_loopw [8] (fun t8 wr => ∃ k : Nat, t8 = .int .i64 (k : Int) ∧ k ≤ l.length ∧ (∀ j t, j < k → l[j]? = some t → p t = false) ∧ Ext w wr) (fun t8 _ => l.length - (intOf t8).toNat)
  case atStart => exact ⟨0, rfl, Nat.zero_le _, fun j t h => by omega, Ext.refl _⟩
  case round =>
    obtain ⟨k, rfl, hk, hne, hx⟩ := hrel
    have Hne := hid hne
    have Hx := hid hx
    clear hne hx
    by_cases hlt : k < l.length
    · obtain ⟨g, cp, he⟩ := own_some Hr.out (by omega)
      simp only [Value.slice.injEq, true_and] at he
      obtain ⟨rfl, rfl⟩ := he
      obtain ⟨t, ht⟩ : ∃ t, l[k]? = some t := ⟨_, List.getElem?_eq_getElem hlt⟩
      obtain ⟨q0, q1⟩ := own_e (own_ext Hr.out Hx.out) ht
      have HN := hid (HF.out t wr (List.mem_of_getElem? ht) Hx.out)
      unfold eVal at HN
      have Hxk := hid ht
      clear ht
      go_wp2_with fail
      refine HN.out.mono ?_
      intro e w1 hx1
      obtain ⟨rfl, hx1⟩ := hx1
      have Hx1 := hid (Hx.out.trans hx1)
      clear HN hx1 Hx q0 q1
      cases he : p t with
      | true =>
        have Hin := hid (show IdxG p l (k : Int) from .inr ⟨k, t, rfl, hlt, Hxk.out, he, Hne.out⟩)
        go_wp2
        go_ret
        exact ⟨(k : Int), rfl, Hin.out, Hx1.out⟩
      | false =>
        have Hf := hid he
        clear he
        go_wp2
        go_roundw
        case rel =>
          refine ⟨k + 1, by go_num, by omega, fun j u hj hu => ?_, Hx1.out⟩
          by_cases hjk : j = k
          · subst hjk
            obtain rfl := Option.some.inj (Hxk.out.symm.trans hu)
            exact Hf.out
          · exact Hne.out j u (by omega) hu
        case measure => simp [intOf]; omega
    · obtain rfl : k = l.length := by omega
      have Hnot := hid (show IdxG p l (-1) from .inl ⟨rfl, fun x hx => by
        obtain ⟨j, hj, e2⟩ := List.mem_iff_getElem.1 hx
        exact Hne.out j x hj (by rw [List.getElem?_eq_getElem hj, e2])⟩)
      go_wp2
      go_ret
      exact ⟨(-1 : Int), rfl, Hnot.out, Hx.out⟩
set_option maxRecDepth 100000 in
set_option maxHeartbeats 800000 in
theorem econtains_cl (b : Value) (p : Int × Int → Bool) (lv : Value) (l : List (Int × Int)) (w : World) (n0 : Nat) (h : ERow n0 w lv l) (hfew : l.length ≤ 100000) (hF : ∀ n w1, n ∈ l → Ext w w1 → Calls Tryz.prog 46 (#[eVal n] ++ #[b]) w1 fun e w' => e = .returned (.bool (p n)) ∧ Ext w1 w') :
    Calls Tryz.prog 45 #[lv, .func (.func 46) #[] #[b]] w fun e w' => e = .returned (.bool (l.any p)) ∧ Ext w w' := by
  have H := hid (eidx_cl b p lv l w n0 h hfew hF)
  unfold ERow at h
  obtain ⟨a, cap, rfl⟩ := row_form h
  clear hF h
  go_enter Tryz.func45, Tryz.ntmps45
  go_wp2_with fail
  refine H.out.mono ?_
  intro e w1 hx
  obtain ⟨r, rfl, hr, hx⟩ := hx
  clear H
  rcases hr with ⟨rfl, hr⟩ | ⟨i, x, rfl, hi, hxi, hp, _⟩
  · have Hr := hid (show l.any p = false from List.any_eq_false.2 fun x hx => by rw [hr x hx]; simp)
    clear hr
    go_wp2
    go_ret
    exact ⟨by rw [Hr.out]; rfl, hx⟩
  · have Hr := hid (show l.any p = true from List.any_eq_true.2 ⟨x, List.mem_of_getElem? hxi, hp⟩)
    clear hp hxi
    go_wp2
    go_ret
    exact ⟨by rw [Hr.out]; rfl, hx⟩
end Go.Proofs.YtohfdecefikinaaGreatDoor


/- cons.Closed: where the program is not well, or the sets are at fault. -/
namespace Go.Proofs.YtohfdecefikinaaGreatDoor
set_option linter.unusedSimpArgs false
set_option linter.unusedVariables false
open Go Go.RowKit

set_option maxRecDepth 100000 in
set_option maxHeartbeats 1600000 in
theorem consclosed_no (a1 a2 a3 : Option Addr) (c1 c2 c3 : Nat) (P : PP) (ah : Option Addr) (ch : Nat) (has : List (List Int)) (w : World) (n0 : Nat) (ad : Nat → Addr) (hE : ErrsP w ad) (h : ProgR w n0 (.slice a1 P.vars.length c1) (.slice a2 P.funs.length c2) (.slice a3 P.stmts.length c3) P)
    (hz1 : ∀ s ∈ P.vars, s.size ≤ 1000000) (hz2 : ∀ s ∈ P.names, s.size ≤ 1000000) (hw : ¬ P.Well) :
    Calls Tryz.prog 17 #[pval a1 a2 a3 c1 c2 c3 P, .slice ah has.length ch] w fun e w' => ∃ t x, e = .returned (.tuple #[.bool false, .iface t (.pointer (some x))]) ∧ ErrIs ad P w' (.iface t (.pointer (some x))) ∧ Ext w w' := by
  obtain ⟨W1, hW1⟩ : ∃ W1, W1 = w.alloc (.cells (pcells a1 a2 a3 c1 c2 c3 P) 26) := ⟨_, rfl⟩
  have hx1 : Ext w W1 := by rw [hW1]; exact (Ext.refl _).alloc _
  obtain ⟨W, hW⟩ : ∃ W, W = W1.alloc (.cells #[.slice ah has.length ch] 27) := ⟨_, rfl⟩
  have hx2 : Ext W1 W := by rw [hW]; exact (Ext.refl _).alloc _
  have s1 : W1.heap.size = w.heap.size + 1 := by rw [hW1, heap_size_alloc]
  have HX := hid (hx1.trans hx2)
  have HBx : Hid (Blk W w.heap.size (pcells a1 a2 a3 c1 c2 c3 P) 26) := hid (by
    have : Blk W1 w.heap.size (pcells a1 a2 a3 c1 c2 c3 P) 26 := by rw [hW1]; exact Blk.new _ _ _
    exact this.ext hx2)
  have HBh : Hid (Blk W (w.heap.size + 1) #[.slice ah has.length ch] 27) := hid (by rw [← s1, hW]; exact Blk.new _ _ _)
  have HWe : Hid (W = (w.alloc (.cells #[.slice a1 P.vars.length c1, .slice a2 P.funs.length c2, .slice a3 P.stmts.length c3] 26)).alloc (.cells #[.slice ah has.length ch] 27)) := hid (by rw [hW, hW1]; rfl)
  have HK := hid (consedges_no a1 a2 a3 c1 c2 c3 P (.slice ah has.length ch) W n0 ad (hE.ext HX.out) (h.ext HX.out) hz1 hz2 hw)
  clear h hE hw hz1 hz2
  have d0 := (HBx.out.ext (Ext.refl W)).av 0 rfl
  have d1 := (HBx.out.ext (Ext.refl W)).av 1 rfl
  have d2 := (HBx.out.ext (Ext.refl W)).av 2 rfl
  have m0 := (HBh.out.ext (Ext.refl W)).av 0 rfl
  simp only [pcells, List.getElem_toArray, List.getElem_cons_zero, List.getElem_cons_succ] at d0 d1 d2 m0
  rw [HWe.out] at d0 d1 d2 m0
  unfold pval at HK ⊢
  clear hW1 hW hx1 hx2 s1
  go_enter Tryz.func17, Tryz.ntmps17
  go_wp2_with fail
  rw [← HWe.out]
  refine HK.out.mono ?_
  intro e w1 hx
  obtain ⟨t, x, rfl, hi, hx1⟩ := hx
  have Hi := hid hi
  have Hx1 := hid (HX.out.trans hx1)
  clear HK hx1 hi d0 d1 d2 m0
  go_wp2
  go_ret2
  exact ⟨t, x, rfl, Hi.out, Hx1.out⟩
set_option maxRecDepth 100000 in
set_option maxHeartbeats 1600000 in
theorem consclosed_bad (a1 a2 a3 : Option Addr) (c1 c2 c3 : Nat) (P : PP) (ah : Option Addr) (ch : Nat) (has : List (List Int)) (w : World) (n0 : Nat) (ad : Nat → Addr) (h : PW w n0 ad a1 a2 a3 c1 c2 c3 P) (hS : ErrS w ad) (hh : SetsR w n0 (.slice ah has.length ch) has)
    (hbad : ¬ (has.length = P.nodesV ∧ ∀ l ∈ has, P.setE l = 0)) :
    Calls Tryz.prog 17 #[pval a1 a2 a3 c1 c2 c3 P, .slice ah has.length ch] w fun e w' => ∃ t x, e = .returned (.tuple #[.bool false, .iface t (.pointer (some x))]) ∧ SetsIs ad P has w' (.iface t (.pointer (some x))) ∧ Ext w w' := by
  obtain ⟨W1, hW1⟩ : ∃ W1, W1 = w.alloc (.cells (pcells a1 a2 a3 c1 c2 c3 P) 26) := ⟨_, rfl⟩
  have hx1 : Ext w W1 := by rw [hW1]; exact (Ext.refl _).alloc _
  obtain ⟨W, hW⟩ : ∃ W, W = W1.alloc (.cells #[.slice ah has.length ch] 27) := ⟨_, rfl⟩
  have hx2 : Ext W1 W := by rw [hW]; exact (Ext.refl _).alloc _
  have s1 : W1.heap.size = w.heap.size + 1 := by rw [hW1, heap_size_alloc]
  have HX := hid (hx1.trans hx2)
  have HBx : Hid (Blk W w.heap.size (pcells a1 a2 a3 c1 c2 c3 P) 26) := hid (by
    have : Blk W1 w.heap.size (pcells a1 a2 a3 c1 c2 c3 P) 26 := by rw [hW1]; exact Blk.new _ _ _
    exact this.ext hx2)
  have HBh : Hid (Blk W (w.heap.size + 1) #[.slice ah has.length ch] 27) := hid (by rw [← s1, hW]; exact Blk.new _ _ _)
  have HWe : Hid (W = (w.alloc (.cells #[.slice a1 P.vars.length c1, .slice a2 P.funs.length c2, .slice a3 P.stmts.length c3] 26)).alloc (.cells #[.slice ah has.length ch] 27)) := hid (by rw [hW, hW1]; rfl)
  have HK := hid (consedges_bad a1 a2 a3 c1 c2 c3 P (.slice ah has.length ch) has W n0 ad (h.ext HX.out) (hS.ext HX.out) (hh.ext HX.out) hbad)
  clear h hS hh hbad
  have d0 := (HBx.out.ext (Ext.refl W)).av 0 rfl
  have d1 := (HBx.out.ext (Ext.refl W)).av 1 rfl
  have d2 := (HBx.out.ext (Ext.refl W)).av 2 rfl
  have m0 := (HBh.out.ext (Ext.refl W)).av 0 rfl
  simp only [pcells, List.getElem_toArray, List.getElem_cons_zero, List.getElem_cons_succ] at d0 d1 d2 m0
  rw [HWe.out] at d0 d1 d2 m0
  unfold pval at HK ⊢
  clear hW1 hW hx1 hx2 s1
  go_enter Tryz.func17, Tryz.ntmps17
  go_wp2_with fail
  rw [← HWe.out]
  refine HK.out.mono ?_
  intro e w1 hx
  obtain ⟨t, x, rfl, hi, hx1⟩ := hx
  have Hi := hid hi
  have Hx1 := hid (HX.out.trans hx1)
  clear HK hx1 hi d0 d1 d2 m0
  go_wp2
  go_ret2
  exact ⟨t, x, rfl, Hi.out, Hx1.out⟩
end Go.Proofs.YtohfdecefikinaaGreatDoor


/- cons.Closed of a well program, with sets that are well. -/
namespace Go.Proofs.YtohfdecefikinaaGreatDoor
set_option linter.unusedSimpArgs false
set_option linter.unusedVariables false
open Go Go.RowKit

set_option maxRecDepth 100000 in
set_option maxHeartbeats 1600000 in
theorem consclosedc_any (g : Nat) (ah : Option Addr) (ch : Nat) (has : List (List Int)) (e : Int × Int) (w : World) (n0 : Nat) (hB : Blk w g #[.slice ah has.length ch] 27) (hh : SetsR w n0 (.slice ah has.length ch) has) (h1 : 0 ≤ e.1 ∧ e.1 < has.length) (h2 : 0 ≤ e.2 ∧ e.2 < has.length) :
    Calls Tryz.prog 46 (#[eVal e] ++ #[.pointer (some ⟨g, 0, none⟩)]) w fun r w' => r = .returned (.bool (!((has.getD e.1.toNat []).all fun n => decide (n ∈ has.getD e.2.toNat [])))) ∧ Ext w w' := by
  obtain ⟨a, b⟩ := e
  simp only at h1 h2 ⊢
  obtain ⟨A, rfl⟩ := Int.eq_ofNat_of_zero_le h1.1
  obtain ⟨B, rfl⟩ := Int.eq_ofNat_of_zero_le h2.1
  have hA : A < has.length := by omega
  have hB2 : B < has.length := by omega
  unfold eVal
  show Calls Tryz.prog 46 #[.agg #[.int .i64 (A : Int), .int .i64 (B : Int)], .pointer (some ⟨g, 0, none⟩)] w _
  obtain ⟨W, hW⟩ : ∃ W, W = w.alloc (.cells #[.int .i64 (A : Int), .int .i64 (B : Int)] 58) := ⟨_, rfl⟩
  have hx : Ext w W := by rw [hW]; exact (Ext.refl _).alloc _
  have hBe : Blk W w.heap.size #[.int .i64 (A : Int), .int .i64 (B : Int)] 58 := by rw [hW]; exact Blk.new _ _ _
  obtain ⟨y, l, bl, cl, rfl, hl, hc, hI⟩ := (hh.ext hx).at hA
  obtain ⟨y', m, bm, cm, hy', hm, hc', hI'⟩ := (hh.ext hx).at hB2
  obtain rfl := Option.some.inj hy'
  have HD1 : Hid (has.getD A [] = l) := hid (by rw [List.getD_eq_getElem?_getD, hl]; rfl)
  have HD2 : Hid (has.getD B [] = m) := hid (by rw [List.getD_eq_getElem?_getD, hm]; rfl)
  rw [Int.toNat_natCast, Int.toNat_natCast, HD1.out, HD2.out]
  have HC := fun w1 (x : Ext W w1) => hid (setwithin_any (.slice bl l.length cl) (.slice bm m.length cm) l m w1 n0 (hI.old (x.old n0)) (hI'.old (x.old n0)))
  obtain ⟨d, hd⟩ : ∃ d, d = (l.all fun n => decide (n ∈ m)) := ⟨_, rfl⟩
  rw [← hd] at HC ⊢
  have e0 := hBe.kc (X := fun _ => False) (fun e => e) 0 rfl
  have e1 := hBe.kc (X := fun _ => False) (fun e => e) 1 rfl
  have g0 := (hB.ext hx).kc (X := fun _ => False) (fun e => e) 0 rfl
  simp only [List.getElem_toArray, List.getElem_cons_zero, List.getElem_cons_succ] at e0 e1 g0
  have c0 : ∀ w1, Keep (fun _ => False) W w1 → w1.cell? (y.add A) = some (.slice bl l.length cl) := fun w1 k => k.ext.cellx hc
  have c1 : ∀ w1, Keep (fun _ => False) W w1 → w1.cell? (y.add B) = some (.slice bm m.length cm) := fun w1 k => k.ext.cellx hc'
  have HX := hid hx
  have HWe := hid hW
  have hhl := hh.len
  clear hd hl hm hc hc' hI hI' HD1 HD2 hBe hx hB hh hW h1 h2
  go_enter Tryz.func46, Tryz.ntmps46
  go_wp2
  rw [← HWe.out]
  refine wp_flowT (fun _ => False) (by kernel_rfl) (by kernel_rfl) ?_
  repeat (apply FlowT.d; (intro w1 hk; unfold does; go_simp; (try go_ints); (first | exact DetR.mk | (simp only [↓IntWalk.iteOmega, Oper.doesUpon_value]; exact DetR.mk) | (simp only [↓IntWalk.iteOmega]; go_simp; (try go_ints); exact DetR.mk))); simp only [Act.put, List.setIfInBounds_toArray, List.set_cons_zero, List.set_cons_succ])
  apply FlowT.d
  · intro w1 hk
    unfold does
    go_simp
    exact CallR.det ((HC w1 hk.ext).out)
  simp only [Act.put, List.setIfInBounds_toArray, List.set_cons_zero, List.set_cons_succ]
  repeat (apply FlowT.d; (intro w1 hk; unfold does; go_simp; (try go_ints); (first | exact DetR.mk | (simp only [↓IntWalk.iteOmega, Oper.doesUpon_value]; exact DetR.mk) | (simp only [↓IntWalk.iteOmega]; go_simp; (try go_ints); exact DetR.mk))); simp only [Act.put, List.setIfInBounds_toArray, List.set_cons_zero, List.set_cons_succ])
  refine FlowT.fin fun w2 hx2 hk2 => ?_
  have Hx2 := hid (HX.out.trans hx2)
  clear hx2 hk2 e0 e1 g0 c0 c1 HC
  go_wp2
  go_ret
  exact ⟨rfl, Hx2.out⟩
end Go.Proofs.YtohfdecefikinaaGreatDoor


/- cons.Closed of a well program, with sets that are well: the walk. -/
namespace Go.Proofs.YtohfdecefikinaaGreatDoor
set_option linter.unusedSimpArgs false
set_option linter.unusedVariables false
open Go Go.RowKit

theorem rule_a_in {P : PP} (hw : P.Well) {k : Nat} (hk : k < P.stmts.length) : 0 ≤ (P.ruleV k (P.stAt k)).a ∧ (P.ruleV k (P.stAt k)).a < P.vars.length := by
  have h0 := hw.2 k (P.stAt k) hk (stAt_some hk)
  have hg := PP.good h0
  obtain ⟨x, hx⟩ : ∃ x, x = P.stAt k := ⟨_, rfl⟩
  rw [← hx] at h0 hg ⊢
  unfold PP.ruleV
  cases h1 : x.isK kAddr with
  | true => exact hg.gx
  | false =>
    cases h2 : x.isK kNew with
    | true => exact hg.gx
    | false =>
      cases h3 : x.isK kFun with
      | true => exact hg.gx
      | false =>
        have hy := hg.yv h3 h2
        cases h4 : x.isK kCall with
        | true => exact hy
        | false => exact hy
theorem all_in {a b : List Int} : (a.all fun n => decide (n ∈ b)) = true ↔ ∀ n ∈ a, n ∈ b := by simp

set_option maxRecDepth 100000 in
set_option maxHeartbeats 3200000 in
theorem consclosed_ok (a1 a2 a3 : Option Addr) (c1 c2 c3 : Nat) (P : PP) (ah : Option Addr) (ch : Nat) (has : List (List Int)) (w : World) (n0 : Nat) (ad : Nat → Addr) (h : PW w n0 ad a1 a2 a3 c1 c2 c3 P) (hS : ErrS w ad) (hh : SetsR w n0 (.slice ah has.length ch) has)
    (hl : has.length = P.nodesV) (he : ∀ l ∈ has, P.setE l = 0) (hn0 : n0 ≤ w.heap.size) :
    Calls Tryz.prog 17 #[pval a1 a2 a3 c1 c2 c3 P, .slice ah has.length ch] w fun e w' => ∃ b, e = .returned (.tuple #[.bool b, .nilIface]) ∧ (b = true ↔ ClosedP P has) ∧ Ext w w' := by
  obtain ⟨hf1, hf2, hf3⟩ := h.well.few
  have hhl := hh.len
  obtain ⟨W1, hW1⟩ : ∃ W1, W1 = w.alloc (.cells (pcells a1 a2 a3 c1 c2 c3 P) 26) := ⟨_, rfl⟩
  have hx1 : Ext w W1 := by rw [hW1]; exact (Ext.refl _).alloc _
  obtain ⟨W, hW⟩ : ∃ W, W = W1.alloc (.cells #[.slice ah has.length ch] 27) := ⟨_, rfl⟩
  have hx2 : Ext W1 W := by rw [hW]; exact (Ext.refl _).alloc _
  have s1 : W1.heap.size = w.heap.size + 1 := by rw [hW1, heap_size_alloc]
  have HX := hid (hx1.trans hx2)
  have HBx : Hid (Blk W w.heap.size (pcells a1 a2 a3 c1 c2 c3 P) 26) := hid (by
    have : Blk W1 w.heap.size (pcells a1 a2 a3 c1 c2 c3 P) 26 := by rw [hW1]; exact Blk.new _ _ _
    exact this.ext hx2)
  have HBh : Hid (Blk W (w.heap.size + 1) #[.slice ah has.length ch] 27) := hid (by rw [← s1, hW]; exact Blk.new _ _ _)
  have HWe : Hid (W = (w.alloc (.cells #[.slice a1 P.vars.length c1, .slice a2 P.funs.length c2, .slice a3 P.stmts.length c3] 26)).alloc (.cells #[.slice ah has.length ch] 27)) := hid (by rw [hW, hW1]; rfl)
  have Hw := hid h.well
  have Hs := hid (SetsOk.of hl he)
  have Hl := hid hl
  have Hvn := hid (nodes_vars P)
  have HH := hid (hh.ext HX.out)
  have HK := hid (consedges_ok a1 a2 a3 c1 c2 c3 P (.slice ah has.length ch) has W n0 ad (h.ext HX.out) (hS.ext HX.out) (hh.ext HX.out) hl he (Nat.le_trans hn0 HX.out.size))
  have HO := fun w1 (x : Ext W w1) => hid (consof_yes a1 a2 a3 c1 c2 c3 P w1 n0 ad (h.ext (HX.out.trans x)))
  clear h hS hh hl he hn0
  have d0 := (HBx.out.ext (Ext.refl W)).av 0 rfl
  have d1 := (HBx.out.ext (Ext.refl W)).av 1 rfl
  have d2 := (HBx.out.ext (Ext.refl W)).av 2 rfl
  have m0 := (HBh.out.ext (Ext.refl W)).av 0 rfl
  simp only [pcells, List.getElem_toArray, List.getElem_cons_zero, List.getElem_cons_succ] at d0 d1 d2 m0
  rw [HWe.out] at d0 d1 d2 m0
  unfold pval at HK HO ⊢
  clear hW1 hW hx1 hx2 s1
  go_enter Tryz.func17, Tryz.ntmps17
  go_wp2_with fail
  rw [← HWe.out]
  refine HK.out.mono ?_
  intro e w1 hx
  obtain ⟨v, l, rfl, hr, hEA, hl5, hx1⟩ := hx
  unfold ERow at hr
  obtain ⟨av, cv, rfl⟩ := row_form hr
  have Hr := hid hr
  have HEA := hid hEA
  have Hx1 := hid hx1
  have HO1 := HO w1 hx1
  clear HK HO hr hEA hx1 d0 d1 d2 m0
  have d0 := (HBx.out.ext Hx1.out).av 0 rfl
  have d1 := (HBx.out.ext Hx1.out).av 1 rfl
  have d2 := (HBx.out.ext Hx1.out).av 2 rfl
  have m0 := (HBh.out.ext Hx1.out).av 0 rfl
  simp only [pcells, List.getElem_toArray, List.getElem_cons_zero, List.getElem_cons_succ] at d0 d1 d2 m0
  go_wp2_with fail
  refine HO1.out.mono ?_
  intro e w2 hx
  obtain ⟨v2, rs, rfl, hi, hx2⟩ := hx
  obtain ⟨bv, dv, rfl⟩ := row_form hi.row
  rw [show P.rulesV.length = P.stmts.length from P.rulesUp_len _] at hi ⊢
  have HI := hid hi
  have Hx2 := hid (Hx1.out.trans hx2)
  have Hr2 := hid (own_ext Hr.out hx2)
  clear HO1 hi hx2 d0 d1 d2 m0 Hr
  go_wp2
  go_loopw [30] (fun t30 wr => ∃ k : Nat, t30 = .int .i64 (k : Int) ∧ k ≤ P.stmts.length ∧ (∀ j, j < k → (P.ruleV j (P.stAt j)).kind.toList = bBase.toList → (P.ruleV j (P.stAt j)).b ∈ has.getD (P.ruleV j (P.stAt j)).a.toNat []) ∧ Ext w2 wr) (fun t30 _ => P.stmts.length - (intOf t30).toNat)
  case atStart => exact ⟨0, rfl, Nat.zero_le _, fun j h => by omega, Ext.refl _⟩
  case round =>
    obtain ⟨k, rfl, hk, hp, hx⟩ := hrel
    have Hp := hid hp
    have Hx := hid hx
    have HxW := hid (Hx2.out.trans hx)
    clear hp hx
    by_cases hlt : k < P.stmts.length
    · obtain ⟨g, cp, hge⟩ := own_some HI.out.row (by rw [show P.rulesV.length = P.stmts.length from P.rulesUp_len _]; omega)
      simp only [Value.slice.injEq] at hge
      obtain ⟨rfl, -, rfl⟩ := hge
      obtain ⟨x, hxk, hxr⟩ := rules_at HI.out.eq hlt
      have hrow := own_ext HI.out.row Hx.out
      rw [show P.rulesV.length = P.stmts.length from P.rulesUp_len _] at hrow
      obtain ⟨q0, q1, q2, q3, q4⟩ := own_r hrow hxk
      have hT := HI.out.args x (List.mem_of_getElem? hxk)
      obtain ⟨aa, ca, hav⟩ := hT.form
      obtain ⟨r, xv⟩ := x
      simp only at hav hxr q0 q1 q2 q3 q4 hT
      subst hav
      obtain ⟨V, hV⟩ : ∃ V, V = wr.alloc (.cells #[.string r.kind, .int .i64 r.a, .int .i64 r.b, .int .i64 r.k, .slice aa r.args.length ca] 46) := ⟨_, rfl⟩
      have hxV : Ext wr V := by rw [hV]; exact (Ext.refl _).alloc _
      have HVe := hid hV
      have HVx := hid (HxW.out.trans hxV)
      have HBr : Hid (Blk V wr.heap.size #[.string r.kind, .int .i64 r.a, .int .i64 r.b, .int .i64 r.k, .slice aa r.args.length ca] 46) := hid (by rw [hV]; exact Blk.new _ _ _)
      have hra := rule_a_in Hw.out hlt
      rw [← hxr] at hra
      have Hrr := hid hxr
      have m0 := HBr.out.kc (X := fun _ => False) (fun e => e) 0 rfl
      have m1 := HBr.out.kc (X := fun _ => False) (fun e => e) 1 rfl
      have m2 := HBr.out.kc (X := fun _ => False) (fun e => e) 2 rfl
      have g0 := (HBh.out.ext HVx.out).kc (X := fun _ => False) (fun e => e) 0 rfl
      simp only [List.getElem_toArray, List.getElem_cons_zero, List.getElem_cons_succ] at m0 m1 m2 g0
      have HrV := hid (Hx.out.trans hxV)
      have Hra := hid hra
      clear hV hxV hxk hxr hrow hT hra
      obtain ⟨A, hA⟩ := Int.eq_ofNat_of_zero_le Hra.out.1
      have hAl : A < has.length := by have := Hra.out.2; have := Hvn.out; have := Hl.out; omega
      obtain ⟨y, l1, bl, cl, hya, hl1, hc, hI1⟩ := (HH.out.ext HVx.out).at hAl
      subst hya
      have HD : Hid (has.getD r.a.toNat [] = l1) := hid (by rw [hA, Int.toNat_natCast, List.getD_eq_getElem?_getD, hl1]; rfl)
      have HC : ∀ w1, Ext V w1 → Hid (Calls Tryz.prog 44 #[.slice bl l1.length cl, .int .i64 r.b] w1 fun e w' => e = .returned (.bool (decide (r.b ∈ l1))) ∧ Ext w1 w') := fun w1 x => hid ((sethas_any (.slice bl l1.length cl) l1 r.b w1 n0 (hI1.old (x.old n0))).mono fun e w' ⟨h1, h2⟩ => ⟨h1, by rw [h2]; exact Ext.refl _⟩)
      have c0 : ∀ w1, Keep (fun _ => False) V w1 → w1.cell? (y.add A) = some (.slice bl l1.length cl) := fun w1 k => k.ext.cellx hc
      rw [hA] at q1 HVe m1
      clear hl1 hc hI1
      cases hkb : (r.kind.toList == [98, 97, 115, 101]) with
      | true =>
        have Hkb : Hid ((P.ruleV k (P.stAt k)).kind.toList = bBase.toList) := hid (by rw [← Hrr.out]; exact (eq_of_beq hkb).trans (eq_of_beq bBase_list).symm)
        obtain ⟨d, hd⟩ : ∃ d, d = decide (r.b ∈ l1) := ⟨_, rfl⟩
        rw [← hd] at HC
        have Hd := hid hd
        clear hd
        go_wp2
        rw [← HVe.out]
        refine wp_flowT (fun _ => False) (by kernel_rfl) (by kernel_rfl) ?_
        repeat (apply FlowT.d; (intro w1 hk; unfold does; go_simp; (try go_ints); (first | exact DetR.mk | (simp only [↓IntWalk.iteOmega, Oper.doesUpon_value]; exact DetR.mk) | (simp only [↓IntWalk.iteOmega]; go_simp; (try go_ints); exact DetR.mk))); simp only [Act.put, List.setIfInBounds_toArray, List.set_cons_zero, List.set_cons_succ])
        apply FlowT.d
        · intro w1 hk
          unfold does
          go_simp
          exact CallR.det ((HC w1 hk.ext).out)
        simp only [Act.put, List.setIfInBounds_toArray, List.set_cons_zero, List.set_cons_succ]
        repeat (apply FlowT.d; (intro w1 hk; unfold does; go_simp; (try go_ints); (first | exact DetR.mk | (simp only [↓IntWalk.iteOmega, Oper.doesUpon_value]; exact DetR.mk) | (simp only [↓IntWalk.iteOmega]; go_simp; (try go_ints); exact DetR.mk))); simp only [Act.put, List.setIfInBounds_toArray, List.set_cons_zero, List.set_cons_succ])
        refine FlowT.fin fun w3 hx3 hk3 => ?_
        have Hx3 := hid (HrV.out.trans hx3)
        have Hx3W := hid (HVx.out.trans hx3)
        clear hx3 hk3 m0 m1 m2 g0 c0 HC q0 q1 q2 q3 q4 hkb
        cases d with
        | false =>
          have Hno : Hid (¬ ClosedP P has) := hid fun hc => by
            have h1 := hc.base k hlt Hkb.out
            rw [← Hrr.out, HD.out] at h1
            exact (of_decide_eq_false Hd.out.symm) h1
          go_wp2
          go_ret2
          exact ⟨false, rfl, ⟨fun h => (by cases h), fun h => absurd h Hno.out⟩, HX.out.trans Hx3W.out⟩
        | true =>
          go_wp2
          go_roundw
          case rel =>
            refine ⟨k + 1, by go_num, by omega, fun j hj hb => ?_, Hx3.out⟩
            by_cases hjk : j = k
            · subst hjk
              rw [← Hrr.out, HD.out]
              exact of_decide_eq_true Hd.out.symm
            · exact Hp.out j (by omega) hb
          case measure => simp [intOf]; omega
      | false =>
        have Hkb : Hid ((P.ruleV k (P.stAt k)).kind.toList ≠ bBase.toList) := hid (by
          rw [← Hrr.out]
          intro h
          rw [h, bBase_list] at hkb
          cases hkb)
        go_wp2
        rw [← HVe.out]
        refine wp_flowT (fun _ => False) (by kernel_rfl) (by kernel_rfl) ?_
        repeat (apply FlowT.d; (intro w1 hk; unfold does; go_simp; (try go_ints); (first | exact DetR.mk | (simp only [↓IntWalk.iteOmega, Oper.doesUpon_value]; exact DetR.mk) | (simp only [↓IntWalk.iteOmega]; go_simp; (try go_ints); exact DetR.mk))); simp only [Act.put, List.setIfInBounds_toArray, List.set_cons_zero, List.set_cons_succ])
        refine FlowT.fin fun w3 hx3 hk3 => ?_
        have Hx3 := hid (HrV.out.trans hx3)
        clear hx3 hk3 m0 m1 m2 g0 c0 HC q0 q1 q2 q3 q4 hkb
        go_wp2
        go_roundw
        case rel =>
          refine ⟨k + 1, by go_num, by omega, fun j hj hb => ?_, Hx3.out⟩
          by_cases hjk : j = k
          · subst hjk
            exact absurd hb Hkb.out
          · exact Hp.out j (by omega) hb
        case measure => simp [intOf]; omega
    · obtain rfl : k = P.stmts.length := by omega
      have hin : ∀ e ∈ l, (0 ≤ e.1 ∧ e.1 < has.length) ∧ 0 ≤ e.2 ∧ e.2 < has.length := fun e he => by
        have hi := edges0_in Hw.out Hs.out e ((HEA.out.mem e).1 he).1
        unfold PP.InN at hi
        have := Hl.out
        omega
      have HC := hid (econtains_cl (.pointer (some ⟨w.heap.size + 1, 0, none⟩)) (fun e => !((has.getD e.1.toNat []).all fun n => decide (n ∈ has.getD e.2.toNat []))) (.slice av l.length cv) l wr W.heap.size (own_ext Hr2.out Hx.out) (by omega) (fun e w1 he x => consclosedc_any (w.heap.size + 1) ah ch has e w1 n0 (HBh.out.ext (HxW.out.trans x)) (HH.out.ext (HxW.out.trans x)) (hin e he).1 (hin e he).2))
      obtain ⟨d, hd⟩ : ∃ d, d = l.any (fun e => !((has.getD e.1.toNat []).all fun n => decide (n ∈ has.getD e.2.toNat []))) := ⟨_, rfl⟩
      rw [← hd] at HC
      have Hd : Hid ((!d) = true ↔ ClosedP P has) := hid (by
        rw [hd, Bool.not_eq_true', List.any_eq_false]
        constructor
        · intro h
          refine ⟨Hp.out, fun e he hne => ?_⟩
          have := h e ((HEA.out.mem e).2 ⟨he, hne⟩)
          rw [Bool.not_eq_true', Bool.not_eq_false] at this
          exact all_in.1 this
        · intro h e he
          rw [Bool.not_eq_true', Bool.not_eq_false]
          obtain ⟨h1, h2⟩ := (HEA.out.mem e).1 he
          exact all_in.2 (h.edge e h1 h2))
      clear hd hin
      go_wp2_with fail
      refine HC.out.mono ?_
      intro e w3 hx
      obtain ⟨rfl, hx3⟩ := hx
      have Hx3 := hid (HX.out.trans (HxW.out.trans hx3))
      clear HC hx3
      go_wp2
      go_ret2
      exact ⟨_, rfl, Hd.out, Hx3.out⟩
end Go.Proofs.YtohfdecefikinaaGreatDoor


/- ConsOrder: contracts in the form that the law wants; the law's own small program. -/
namespace Go.Proofs.YtohfdecefikinaaGreatDoor
set_option linter.unusedSimpArgs false
set_option linter.unusedVariables false
open Go Go.RowKit

/-- The edges of a program, as one list. -/
def PP.edgesL (P : PP) (has : List (List Int)) : List (Int × Int) := P.refE has P.nodesV
/-- A program that is well, and sets that are. -/
def PP.GoodS (P : PP) (has : List (List Int)) : Prop := P.Well ∧ has.length = P.nodesV ∧ ∀ l ∈ has, P.setE l = 0
theorem PP.GoodS.ok {P : PP} {has : List (List Int)} (h : P.GoodS has) : SetsOk P has := SetsOk.of h.2.1 h.2.2
theorem edgesL_are {P : PP} {has : List (List Int)} (h : P.GoodS has) : EdgesAre P has (P.edgesL has) := refE_are h.1 h.ok
theorem edgesL_len {P : PP} (hw : P.Well) (has : List (List Int)) : (P.edgesL has).length ≤ 50000 := by
  have hn := nodesV_le P hw
  have h1 := flatMap_len (fun a => P.rowE has a P.nodesV) 120 (List.range P.nodesV) fun a _ => by
    unfold PP.rowE
    rw [List.length_map]
    have := List.length_filter_le (fun b : Nat => P.edgeB has (a : Int) (b : Int)) (List.range P.nodesV)
    rw [List.length_range] at this
    omega
  rw [List.length_range] at h1
  unfold PP.edgesL PP.refE
  omega
theorem edges_fix (a1 a2 a3 : Option Addr) (c1 c2 c3 : Nat) (P : PP) (hv : Value) (has : List (List Int)) (w : World) (ad : Nat → Addr) (h : PW w w.heap.size ad a1 a2 a3 c1 c2 c3 P) (hS : ErrS w ad) (hh : SetsR w w.heap.size hv has) (hg : P.GoodS has) :
    Calls Tryz.prog 16 #[pval a1 a2 a3 c1 c2 c3 P, hv] w fun e w' => ∃ a c, e = .returned (.tuple #[.slice a (P.edgesL has).length c, .nilIface]) ∧ ERow w.heap.size w' (.slice a (P.edgesL has).length c) (P.edgesL has) ∧ (P.edgesL has).length ≤ 50000 ∧ Ext w w' :=
  (consedges_ok a1 a2 a3 c1 c2 c3 P hv has w w.heap.size ad h hS hh hg.2.1 hg.2.2 (Nat.le_refl _)).mono fun e w' ⟨v, l, he, hr, hA, hl, hx⟩ => by
    obtain rfl := hA.uniq (edgesL_are hg)
    obtain ⟨a, c, rfl⟩ := row_form hr
    exact ⟨a, c, he, hr, hl, hx⟩
theorem closed_fix (a1 a2 a3 : Option Addr) (c1 c2 c3 : Nat) (P : PP) (ah : Option Addr) (ch : Nat) (has : List (List Int)) (w : World) (ad : Nat → Addr) (h : PW w w.heap.size ad a1 a2 a3 c1 c2 c3 P) (hS : ErrS w ad) (hh : SetsR w w.heap.size (.slice ah has.length ch) has) (hg : P.GoodS has) (d : Bool) (hd : d = true ↔ ClosedP P has) :
    Calls Tryz.prog 17 #[pval a1 a2 a3 c1 c2 c3 P, .slice ah has.length ch] w fun e w' => e = .returned (.tuple #[.bool d, .nilIface]) ∧ Ext w w' :=
  (consclosed_ok a1 a2 a3 c1 c2 c3 P ah ch has w w.heap.size ad h hS hh hg.2.1 hg.2.2 (Nat.le_refl _)).mono fun e w' ⟨b, he, hb, hx⟩ => by
    obtain rfl : b = d := Bool.eq_iff_iff.2 (hb.trans hd.symm)
    exact ⟨he, hx⟩
/-- A program and sets in memory, of whatever kind. -/
structure PS0 (w : World) (n0 : Nat) (ad : Nat → Addr) (a1 a2 a3 : Option Addr) (c1 c2 c3 : Nat) (P : PP) : Prop where
  errs : ErrsP w ad
  prog : ProgR w n0 (.slice a1 P.vars.length c1) (.slice a2 P.funs.length c2) (.slice a3 P.stmts.length c3) P
  z1 : ∀ s ∈ P.vars, s.size ≤ 1000000
  z2 : ∀ s ∈ P.names, s.size ≤ 1000000
theorem PS0.ext {w w' : World} {n0 : Nat} {ad : Nat → Addr} {a1 a2 a3 : Option Addr} {c1 c2 c3 : Nat} {P : PP} (h : PS0 w n0 ad a1 a2 a3 c1 c2 c3 P) (x : Ext w w') : PS0 w' w'.heap.size ad a1 a2 a3 c1 c2 c3 P → PS0 w' w'.heap.size ad a1 a2 a3 c1 c2 c3 P := id
theorem PS0.on {w w' : World} {n0 : Nat} {ad : Nat → Addr} {a1 a2 a3 : Option Addr} {c1 c2 c3 : Nat} {P : PP} (h : PS0 w n0 ad a1 a2 a3 c1 c2 c3 P) (hn : n0 ≤ w.heap.size) (x : Ext w w') : PS0 w' w'.heap.size ad a1 a2 a3 c1 c2 c3 P := ⟨h.errs.ext x, (h.prog.ext x).lift (Nat.le_trans hn x.size), h.z1, h.z2⟩
theorem PS0.pw {w : World} {n0 : Nat} {ad : Nat → Addr} {a1 a2 a3 : Option Addr} {c1 c2 c3 : Nat} {P : PP} (h : PS0 w n0 ad a1 a2 a3 c1 c2 c3 P) (hw : P.Well) : PW w n0 ad a1 a2 a3 c1 c2 c3 P := ⟨h.errs, h.prog, h.z1, h.z2, hw⟩
theorem edges_err (a1 a2 a3 : Option Addr) (c1 c2 c3 : Nat) (P : PP) (hv : Value) (has : List (List Int)) (w : World) (n0 : Nat) (ad : Nat → Addr) (h : PS0 w n0 ad a1 a2 a3 c1 c2 c3 P) (hS : ErrS w ad) (hh : SetsR w n0 hv has) (hg : ¬ P.GoodS has) :
    Calls Tryz.prog 16 #[pval a1 a2 a3 c1 c2 c3 P, hv] w fun e w' => ∃ t x, e = .returned (.tuple #[.slice none 0 0, .iface t (.pointer (some x))]) ∧ Ext w w' := by
  by_cases hw : P.Well
  · exact (consedges_bad a1 a2 a3 c1 c2 c3 P hv has w n0 ad (h.pw hw) hS hh fun hb => hg ⟨hw, hb⟩).mono fun e w' ⟨t, x, he, _, hx⟩ => ⟨t, x, he, hx⟩
  · exact (consedges_no a1 a2 a3 c1 c2 c3 P hv w n0 ad h.errs h.prog h.z1 h.z2 hw).mono fun e w' ⟨t, x, he, _, hx⟩ => ⟨t, x, he, hx⟩

/-- Own sets, wherever. -/
theorem ownsets_at {w : World} {n0 : Nat} {a : Option Addr} {c : Nat} {L : List (List Int)} (h : SetsR w n0 (.slice a L.length c) L) (hf : fewSets L) (w1 : World) (x : Ext w w1) :
    Calls Tryz.prog 9 #[.slice a L.length c] w1 fun e w' => ∃ a c, e = .returned (.slice a L.length c) ∧ SetsR w' w'.heap.size (.slice a L.length c) L ∧ Ext w1 w' :=
  (ownsets_any _ L w1 n0 (h.ext x) hf).mono fun e w' ⟨v, he, hs, hx⟩ => by
    obtain ⟨a, c, rfl⟩ := hs.form
    exact ⟨a, c, he, hs, hx⟩
def ruledP : PP := ⟨[⟨#[97]⟩, ⟨#[98]⟩], [], [⟨⟨#[99, 111, 112, 121]⟩, 0, 1, []⟩]⟩
theorem ruled_good : ruledP.GoodS [[], []] := by
  refine ⟨⟨by decide +kernel, fun j t hj ht => ?_⟩, by decide +kernel, fun l hl => ?_⟩
  · have hj2 : j < 1 := hj
    obtain rfl : j = 0 := by omega
    obtain rfl := Option.some.inj ht
    decide +kernel
  · obtain rfl : l = [] := by simpa using hl
    decide +kernel
theorem ruled_edges : ruledP.edgesL [[], []] = [(1, 0)] := by decide +kernel
def ruledS : Array Value := #[.string ⟨#[99, 111, 112, 121]⟩, .int .i64 0, .int .i64 1, .slice none 0 0]
theorem ruled_prog {w : World} {a b n0 : Nat} (ha : Blk w a #[.string ⟨#[97]⟩, .string ⟨#[98]⟩] 9) (hb : Blk w b ruledS 65) (h1 : a < n0) (h2 : b < n0) : ProgR w n0 (.slice (some ⟨a, 0, none⟩) 2 2) (.slice none 0 0) (.slice (some ⟨b, 0, none⟩) 1 1) ruledP := by
  refine ⟨⟨_, 2, rfl, by decide, by decide, fun _ => ⟨_, rfl⟩, fun y hy _ => ?_⟩, ⟨_, 0, rfl, by decide, by decide, fun h => absurd h (by decide), fun y hy => by cases hy⟩, ⟨_, 1, rfl, by decide, by decide, fun _ => ⟨_, rfl⟩, fun y hy _ => ?_⟩⟩
  · obtain rfl := Option.some.inj hy
    refine ⟨h1, fun i hi s hs => ?_⟩
    have hi2 : i < 2 := hi
    rcases (by omega : i = 0 ∨ i = 1) with rfl | rfl
    · obtain rfl := Option.some.inj hs
      exact ha.av 0 rfl
    · obtain rfl := Option.some.inj hs
      exact ha.av 1 rfl
  · obtain rfl := Option.some.inj hy
    refine ⟨h2, fun i hi s hs => ?_⟩
    have hi2 : i < 1 := hi
    have hn : IntsR w n0 (.slice none 0 0) [] := ⟨none, 0, rfl, by decide, by decide, fun h => absurd h (by decide), fun y hy => by cases hy⟩
    obtain rfl : i = 0 := by omega
    obtain rfl := Option.some.inj hs
    exact ⟨.slice none 0 0, hb.av 0 rfl, hb.av 1 rfl, hb.av 2 rfl, hb.av 3 rfl, hn⟩
theorem ruled_sets {w : World} {b n0 : Nat} (hb : Blk w b #[.slice none 0 0, .slice none 0 0] 42) (h : b < n0) : SetsR w n0 (.slice (some ⟨b, 0, none⟩) 2 2) [[], []] := by
  refine ⟨_, 2, rfl, by decide, by decide, fun _ => ⟨_, rfl⟩, fun y hy _ => ?_⟩
  obtain rfl := Option.some.inj hy
  refine ⟨h, fun i hi s hs => ?_⟩
  have hi2 : i < 2 := hi
  have hn : IntsR w n0 (.slice none 0 0) [] := ⟨none, 0, rfl, by decide, by decide, fun h => absurd h (by decide), fun y hy => by cases hy⟩
  rcases (by omega : i = 0 ∨ i = 1) with rfl | rfl
  · obtain rfl := Option.some.inj hs
    exact ⟨_, hb.av 0 rfl, hn⟩
  · obtain rfl := Option.some.inj hs
    exact ⟨_, hb.av 1 rfl, hn⟩

set_option maxRecDepth 100000 in
set_option maxHeartbeats 1600000 in
theorem ruled_any (w : World) (ad : Nat → Addr) (hE : ErrsP w ad) (hS : ErrS w ad) : Calls Tryz.prog 5 #[] w fun e w' => e = .returned (.bool true) ∧ Ext w w' := by
  obtain ⟨W1, hW1⟩ : ∃ W1, W1 = w.alloc (.cells #[.string ⟨#[97]⟩, .string ⟨#[98]⟩] 9) := ⟨_, rfl⟩
  obtain ⟨W2, hW2⟩ : ∃ W2, W2 = W1.alloc (.cells ruledS 65) := ⟨_, rfl⟩
  obtain ⟨W3, hW3⟩ : ∃ W3, W3 = W2.alloc (.cells #[.slice (some ⟨w.heap.size, 0, none⟩) 2 2, .slice none 0 0, .slice (some ⟨w.heap.size + 1, 0, none⟩) 1 1] 26) := ⟨_, rfl⟩
  obtain ⟨W4, hW4⟩ : ∃ W4, W4 = W3.alloc (.cells #[.slice none 0 0, .slice none 0 0] 42) := ⟨_, rfl⟩
  have x1 : Ext w W1 := by rw [hW1]; exact (Ext.refl _).alloc _
  have x2 : Ext W1 W2 := by rw [hW2]; exact (Ext.refl _).alloc _
  have x3 : Ext W2 W3 := by rw [hW3]; exact (Ext.refl _).alloc _
  have x4 : Ext W3 W4 := by rw [hW4]; exact (Ext.refl _).alloc _
  have s1 : W1.heap.size = w.heap.size + 1 := by rw [hW1, heap_size_alloc]
  have s2 : W2.heap.size = w.heap.size + 2 := by rw [hW2, heap_size_alloc, s1]
  have s3 : W3.heap.size = w.heap.size + 3 := by rw [hW3, heap_size_alloc, s2]
  have s4 : W4.heap.size = w.heap.size + 4 := by rw [hW4, heap_size_alloc, s3]
  have bA : Blk W1 w.heap.size #[.string ⟨#[97]⟩, .string ⟨#[98]⟩] 9 := by rw [hW1]; exact Blk.new _ _ _
  have bB : Blk W2 (w.heap.size + 1) ruledS 65 := by rw [hW2, ← s1]; exact Blk.new _ _ _
  have bD : Blk W4 (w.heap.size + 3) #[.slice none 0 0, .slice none 0 0] 42 := by rw [hW4, ← s3]; exact Blk.new _ _ _
  have hP := ruled_prog (n0 := W4.heap.size) (bA.ext (x2.trans (x3.trans x4))) (bB.ext (x3.trans x4)) (by omega) (by omega)
  have hI := ruled_sets (n0 := W4.heap.size) bD (by omega)
  have xx : Ext w W4 := x1.trans (x2.trans (x3.trans x4))
  have HD := hid (edges_fix _ _ _ 2 0 1 ruledP _ [[], []] W4 ad ⟨hE.ext xx, hP, fun s hs => by rcases (by simpa [ruledP] using hs : s = ⟨#[97]⟩ ∨ s = ⟨#[98]⟩) with rfl | rfl <;> decide, fun s hs => by simp [PP.names, ruledP] at hs, ruled_good.1⟩ (hS.ext xx) hI ruled_good)
  rw [ruled_edges] at HD
  have HX := hid xx
  have HW4 : Hid (W4 = (((w.alloc (.cells #[.string ⟨#[97]⟩, .string ⟨#[98]⟩] 9)).alloc (.cells #[.string ⟨#[99, 111, 112, 121]⟩, .int .i64 0, .int .i64 1, .slice none 0 0] 65)).alloc (.cells #[.slice (some ⟨w.heap.size, 0, none⟩) 2 2, .slice none 0 0, .slice (some ⟨w.heap.size + 1, 0, none⟩) 1 1] 26)).alloc (.cells #[.slice none 0 0, .slice none 0 0] 42)) := hid (by rw [hW4, hW3, hW2, hW1]; rfl)
  unfold pval at HD
  clear hE hS hW1 hW2 hW3 hW4 x1 x2 x3 x4 s1 s2 s3 s4 bA bB bD hP hI xx
  go_enter Tryz.func5, Tryz.ntmps5
  go_wp2_with fail
  rw [← HW4.out]
  refine HD.out.mono ?_
  intro e w5 hx
  obtain ⟨a, c, rfl, hr, _, hx5⟩ := hx
  unfold ERow at hr
  obtain ⟨g, cap, he⟩ := own_some hr (by decide)
  simp only [Value.slice.injEq] at he
  obtain ⟨rfl, -, rfl⟩ := he
  obtain ⟨q0, q1⟩ := own_e hr (i := 0) (x := (1, 0)) rfl
  have q0' : w5.cell? ⟨g, 0, none⟩ = some (.int .i64 1) := q0
  have q1' : w5.cell? ⟨g, 1, none⟩ = some (.int .i64 0) := q1
  have HX5 := hid (HX.out.trans hx5)
  clear HD hx5 hr q0 q1
  simp only [List.length_cons, List.length_nil, Nat.zero_add]
  go_wp2
  go_ret
  exact ⟨rfl, HX5.out⟩
end Go.Proofs.YtohfdecefikinaaGreatDoor


/- The reference: are sets an answer (IsClosed). -/
namespace Go.Proofs.YtohfdecefikinaaGreatDoor
set_option linter.unusedSimpArgs false
set_option linter.unusedVariables false
open Go Go.RowKit

theorem own_e2 {w : World} {base g n cap : Nat} {t : TypeId} {R : List (Int × Int)} (h : w.ownsRow base t 2 (.slice (some ⟨g, 0, none⟩) n cap) n (R.flatMap eCells)) {i : Nat} {x : Int × Int} (hx : R[i]? = some x) :
    w.cell? ⟨g, i * 2, none⟩ = some (.int .i64 x.1) ∧ w.cell? ⟨g, i * 2 + 1, none⟩ = some (.int .i64 x.2) := own_e h hx
set_option maxRecDepth 100000 in
set_option maxHeartbeats 3200000 in
theorem risclosed_any (a1 a2 a3 : Option Addr) (c1 c2 c3 : Nat) (P : PP) (hv : Value) (has : List (List Int)) (w : World) (n0 : Nat) (h : ProgR w n0 (.slice a1 P.vars.length c1) (.slice a2 P.funs.length c2) (.slice a3 P.stmts.length c3) P) (hg : P.GoodS has) (hh : SetsR w n0 hv has) (hn0 : n0 ≤ w.heap.size) (d : Bool) (hd : d = true ↔ ClosedP P has) :
    Calls Tryz.prog 19 #[pval a1 a2 a3 c1 c2 c3 P, hv] w fun e w' => e = .returned (.bool d) ∧ Ext w w' := by
  obtain ⟨ah, ch, rfl⟩ := hh.form
  have hhl := hh.len
  have Hg := hid hg
  have HA := hid (edgesL_are hg)
  have hEl := edgesL_len hg.1 has
  have Hdd := hid hd
  obtain ⟨hf1, hf2, hf3⟩ := hg.1.few
  obtain ⟨W, hW⟩ : ∃ W, W = w.alloc (.cells (pcells a1 a2 a3 c1 c2 c3 P) 26) := ⟨_, rfl⟩
  have HX : Hid (Ext w W) := hid (by rw [hW]; exact (Ext.refl _).alloc _)
  have HBx : Hid (Blk W w.heap.size (pcells a1 a2 a3 c1 c2 c3 P) 26) := hid (by rw [hW]; exact Blk.new _ _ _)
  have HWe : Hid (W = w.alloc (.cells #[.slice a1 P.vars.length c1, .slice a2 P.funs.length c2, .slice a3 P.stmts.length c3] 26)) := hid (by rw [hW]; rfl)
  have HRu := fun k (hk : k < P.stmts.length) w1 (x : Ext w w1) => hid (rruleof_any a1 a2 a3 c1 c2 c3 P k _ (stAt_some hk) w1 n0 (h.ext x) hg.1)
  have HEo := fun w1 (x : Ext w w1) => hid (redgesof_any a1 a2 a3 c1 c2 c3 P (.slice ah has.length ch) has w1 n0 (h.ext x) hg.1 (hh.ext x) hg.2.1 (Nat.le_trans hn0 x.size))
  have HH := hid (hh.ext HX.out)
  obtain ⟨EL, hEL⟩ : ∃ EL, EL = P.edgesL has := ⟨_, rfl⟩
  have hEL' : P.refE has P.nodesV = EL := hEL.symm
  rw [hEL'] at HEo
  rw [← hEL] at HA hEl
  have Hvn := hid (nodes_vars P)
  unfold pval at HRu HEo ⊢
  have d2 := HBx.out.av 2 rfl
  simp only [pcells, List.getElem_toArray, List.getElem_cons_zero, List.getElem_cons_succ] at d2
  rw [HWe.out] at d2
  clear h hg hh hW hd hn0 hEL hEL'
  go_enter Tryz.func19, Tryz.ntmps19
  go_wp2
  rw [← HWe.out]
  go_loopw [5] (fun t5 wr => ∃ k : Nat, t5 = .int .i64 (k : Int) ∧ k ≤ P.stmts.length ∧ (∀ j, j < k → (P.ruleV j (P.stAt j)).kind.toList = bBase.toList → (P.ruleV j (P.stAt j)).b ∈ has.getD (P.ruleV j (P.stAt j)).a.toNat []) ∧ Ext W wr) (fun t5 _ => P.stmts.length - (intOf t5).toNat)
  case atStart => exact ⟨0, rfl, Nat.zero_le _, fun j h => by omega, Ext.refl _⟩
  case round =>
    clear d2
    obtain ⟨k, rfl, hk, hp, hx⟩ := hrel
    have Hp := hid hp
    have Hx := hid hx
    clear hp hx
    have d0 := (HBx.out.ext Hx.out).av 0 rfl
    have d1 := (HBx.out.ext Hx.out).av 1 rfl
    have d2 := (HBx.out.ext Hx.out).av 2 rfl
    simp only [pcells, List.getElem_toArray, List.getElem_cons_zero, List.getElem_cons_succ] at d0 d1 d2
    by_cases hlt : k < P.stmts.length
    · have HC := HRu k hlt wr (HX.out.trans Hx.out)
      obtain ⟨s1, s2, s3, _, _, _⟩ := rule_same (Hg.out.1.2 k (P.stAt k) hlt (stAt_some hlt)) k
      have hra := rule_a_in Hg.out.1 hlt
      rw [← s2] at hra
      obtain ⟨r, hr⟩ : ∃ r, r = P.ruleR k (P.stAt k) := ⟨_, rfl⟩
      rw [← hr] at HC s1 s2 s3 hra
      have Hs := hid (And.intro s1 (And.intro s2 s3))
      have Hra := hid hra
      clear HRu HEo hr s1 s2 s3 hra
      go_wp2_with fail
      refine HC.out.mono ?_
      intro e w2 hx
      obtain ⟨av, rfl, hI, hx2⟩ := hx
      obtain ⟨aa, ca, hav, _⟩ := id hI
      subst hav
      unfold RV.val
      obtain ⟨V, hV⟩ : ∃ V, V = w2.alloc (.cells #[.string r.kind, .int .i64 r.a, .int .i64 r.b, .int .i64 r.k, .slice aa r.args.length ca] 44) := ⟨_, rfl⟩
      have hxV : Ext w2 V := by rw [hV]; exact (Ext.refl _).alloc _
      have HBr : Hid (Blk V w2.heap.size #[.string r.kind, .int .i64 r.a, .int .i64 r.b, .int .i64 r.k, .slice aa r.args.length ca] 44) := hid (by rw [hV]; exact Blk.new _ _ _)
      have HVe := hid hV
      have HxV := hid (Hx.out.trans (hx2.trans hxV))
      have m0 := HBr.out.kc (X := fun _ => False) (fun e => e) 0 rfl
      have m1 := HBr.out.kc (X := fun _ => False) (fun e => e) 1 rfl
      have m2 := HBr.out.kc (X := fun _ => False) (fun e => e) 2 rfl
      simp only [List.getElem_toArray, List.getElem_cons_zero, List.getElem_cons_succ] at m0 m1 m2
      obtain ⟨A, hA⟩ := Int.eq_ofNat_of_zero_le Hra.out.1
      have hAl : A < has.length := by have := Hra.out.2; have := Hvn.out; have := Hg.out.2.1; omega
      obtain ⟨y, l1, bl, cl, hya, hl1, hc, hI1⟩ := (HH.out.ext HxV.out).at hAl
      subst hya
      have HD : Hid (has.getD r.a.toNat [] = l1) := hid (by rw [hA, Int.toNat_natCast, List.getD_eq_getElem?_getD, hl1]; rfl)
      have HC2 : ∀ w1, Ext V w1 → Hid (Calls Tryz.prog 27 #[.slice bl l1.length cl, .int .i64 r.b] w1 fun e w' => e = .returned (.bool (decide (r.b ∈ l1))) ∧ Ext w1 w') := fun w1 x => hid ((rhas_any (.slice bl l1.length cl) l1 r.b w1 n0 (hI1.old (x.old n0))).mono fun e w' ⟨h1, h2⟩ => ⟨h1, by rw [h2]; exact Ext.refl _⟩)
      have c0 : ∀ w1, Keep (fun _ => False) V w1 → w1.cell? (y.add A) = some (.slice bl l1.length cl) := fun w1 k => k.ext.cellx hc
      rw [hA] at m1
      have Hhl := hid hhl
      clear HC hI hx2 hxV hV hl1 hc hI1 d0 d1 d2 hA
      go_wp2
      cases hkb : (r.kind.toList == [98, 97, 115, 101]) with
      | true =>
        have Hkb : Hid ((P.ruleV k (P.stAt k)).kind.toList = bBase.toList) := hid (by rw [← Hs.out.1]; exact (eq_of_beq hkb).trans (eq_of_beq bBase_list).symm)
        obtain ⟨q, hq⟩ : ∃ q, q = decide (r.b ∈ l1) := ⟨_, rfl⟩
        rw [← hq] at HC2
        have Hq := hid hq
        clear hq
        rw [← HVe.out]
        refine wp_flowT (fun _ => False) (by kernel_rfl) (by kernel_rfl) ?_
        repeat (apply FlowT.d; (intro w1 hk; unfold does; go_simp; (try go_ints); (first | exact DetR.mk | (simp only [↓IntWalk.iteOmega, Oper.doesUpon_value]; exact DetR.mk) | (simp only [↓IntWalk.iteOmega]; go_simp; (try go_ints); exact DetR.mk))); simp only [Act.put, List.setIfInBounds_toArray, List.set_cons_zero, List.set_cons_succ])
        apply FlowT.d
        · intro w1 hk
          unfold does
          go_simp
          exact CallR.det ((HC2 w1 hk.ext).out)
        simp only [Act.put, List.setIfInBounds_toArray, List.set_cons_zero, List.set_cons_succ]
        repeat (apply FlowT.d; (intro w1 hk; unfold does; go_simp; (try go_ints); (first | exact DetR.mk | (simp only [↓IntWalk.iteOmega, Oper.doesUpon_value]; exact DetR.mk) | (simp only [↓IntWalk.iteOmega]; go_simp; (try go_ints); exact DetR.mk))); simp only [Act.put, List.setIfInBounds_toArray, List.set_cons_zero, List.set_cons_succ])
        refine FlowT.fin fun w3 hx3 hk3 => ?_
        have Hx3 := hid (HxV.out.trans hx3)
        clear hx3 hk3 m0 m1 m2 c0 HC2 hkb
        cases q with
        | false =>
          have Hno : Hid (d = false) := hid (by
            cases hb : d with
            | false => rfl
            | true =>
              have h1 := (Hdd.out.1 hb).base k hlt Hkb.out
              rw [← Hs.out.2.1, ← Hs.out.2.2, HD.out] at h1
              exact absurd h1 (of_decide_eq_false Hq.out.symm))
          go_wp2
          go_ret
          exact ⟨by rw [Hno.out]; rfl, HX.out.trans Hx3.out⟩
        | true =>
          go_wp2
          go_roundw
          case rel =>
            refine ⟨k + 1, by go_num, by omega, fun j hj hb => ?_, Hx3.out⟩
            by_cases hjk : j = k
            · subst hjk
              rw [← Hs.out.2.1, ← Hs.out.2.2, HD.out]
              exact of_decide_eq_true Hq.out.symm
            · exact Hp.out j (by omega) hb
          case measure => simp [intOf]; omega
      | false =>
        have Hkb : Hid ((P.ruleV k (P.stAt k)).kind.toList ≠ bBase.toList) := hid (by
          rw [← Hs.out.1]
          intro h
          rw [h, bBase_list] at hkb
          cases hkb)
        rw [← HVe.out]
        refine wp_flowT (fun _ => False) (by kernel_rfl) (by kernel_rfl) ?_
        repeat (apply FlowT.d; (intro w1 hk; unfold does; go_simp; (try go_ints); (first | exact DetR.mk | (simp only [↓IntWalk.iteOmega, Oper.doesUpon_value]; exact DetR.mk) | (simp only [↓IntWalk.iteOmega]; go_simp; (try go_ints); exact DetR.mk))); simp only [Act.put, List.setIfInBounds_toArray, List.set_cons_zero, List.set_cons_succ])
        refine FlowT.fin fun w3 hx3 hk3 => ?_
        have Hx3 := hid (HxV.out.trans hx3)
        clear hx3 hk3 m0 m1 m2 c0 HC2 hkb
        go_wp2
        go_roundw
        case rel =>
          refine ⟨k + 1, by go_num, by omega, fun j hj hb => ?_, Hx3.out⟩
          by_cases hjk : j = k
          · subst hjk
            exact absurd hb Hkb.out
          · exact Hp.out j (by omega) hb
        case measure => simp [intOf]; omega
    · obtain rfl : k = P.stmts.length := by omega
      have HC := HEo wr (HX.out.trans Hx.out)
      clear HRu HEo
      go_wp2_with fail
      refine HC.out.mono ?_
      intro e w2 hx
      obtain ⟨v, rfl, hr, hx2⟩ := hx
      unfold RERow at hr
      obtain ⟨av, cv, rfl⟩ := row_form hr
      have Hr := hid hr
      have Hx2 := hid (Hx.out.trans hx2)
      have HH2 := hid (HH.out.ext Hx2.out)
      clear HC hr hx2 d0 d1 d2
      go_wp2
      go_loopw [8] (fun t8 wq => ∃ i : Nat, t8 = .int .i64 (i : Int) ∧ i ≤ EL.length ∧ (∀ j e, j < i → EL[j]? = some e → ∀ n ∈ has.getD e.1.toNat [], n ∈ has.getD e.2.toNat []) ∧ Ext w2 wq) (fun t8 _ => EL.length - (intOf t8).toNat)
      case atStart => exact ⟨0, rfl, Nat.zero_le _, fun j e h => by omega, Ext.refl _⟩
      case round =>
        obtain ⟨i, rfl, hi, hq, hx⟩ := hrel
        have Hq := hid hq
        have Hxq := hid hx
        clear hq hx
        by_cases hil : i < EL.length
        · obtain ⟨g, cp, hge⟩ := own_some Hr.out (by omega)
          simp only [Value.slice.injEq] at hge
          obtain ⟨rfl, -, rfl⟩ := hge
          obtain ⟨⟨x, z⟩, hxk⟩ : ∃ x, EL[i]? = some x := ⟨_, List.getElem?_eq_getElem hil⟩
          obtain ⟨q0, q1⟩ := own_e2 (own_ext Hr.out Hxq.out) hxk
          have hin := edges0_in Hg.out.1 Hg.out.ok _ ((HA.out.mem _).1 (List.mem_of_getElem? hxk)).1
          unfold PP.InN at hin
          obtain ⟨i1, i2, i3, i4⟩ := hin
          simp only at i1 i2 i3 i4
          obtain ⟨A, rfl⟩ := Int.eq_ofNat_of_zero_le i1
          obtain ⟨B, rfl⟩ := Int.eq_ofNat_of_zero_le i3
          have hA : A < has.length := by have := Hg.out.2.1; omega
          have hB : B < has.length := by have := Hg.out.2.1; omega
          obtain ⟨y, l, bl, cl, hya, hl, hc, hI⟩ := (HH2.out.ext Hxq.out).at hA
          subst hya
          obtain ⟨y', m, bm, cm, hy', hm, hc', hI'⟩ := (HH2.out.ext Hxq.out).at hB
          obtain rfl := Option.some.inj hy'
          have HD1 : Hid (has.getD A [] = l) := hid (by rw [List.getD_eq_getElem?_getD, hl]; rfl)
          have HD2 : Hid (has.getD B [] = m) := hid (by rw [List.getD_eq_getElem?_getD, hm]; rfl)
          have HC := fun w1 (x : Ext wr w1) => hid (rwithin_any (.slice bl l.length cl) (.slice bm m.length cm) l m w1 n0 (hI.old (x.old n0)) (hI'.old (x.old n0)))
          obtain ⟨q, hqd⟩ : ∃ q, q = (l.all fun n => decide (n ∈ m)) := ⟨_, rfl⟩
          rw [← hqd] at HC
          have Hqd := hid hqd
          have Hxk := hid hxk
          have j0 : ∀ w1, Keep (fun _ => False) wr w1 → w1.cell? ⟨g, i * 2, none⟩ = some (.int .i64 (A : Int)) := fun w1 k => k.ext.cellx q0
          have j1 : ∀ w1, Keep (fun _ => False) wr w1 → w1.cell? ⟨g, i * 2 + 1, none⟩ = some (.int .i64 (B : Int)) := fun w1 k => k.ext.cellx q1
          have c0 : ∀ w1, Keep (fun _ => False) wr w1 → w1.cell? (y.add A) = some (.slice bl l.length cl) := fun w1 k => k.ext.cellx hc
          have c1 : ∀ w1, Keep (fun _ => False) wr w1 → w1.cell? (y.add B) = some (.slice bm m.length cm) := fun w1 k => k.ext.cellx hc'
          clear hxk q0 q1 hl hm hc hc' hI hI' hqd i1 i2 i3 i4
          go_wp2
          refine wp_flowT (fun _ => False) (by kernel_rfl) (by kernel_rfl) ?_
          repeat (apply FlowT.d; (intro w1 hk; unfold does; go_simp; (try go_ints); (first | exact DetR.mk | (simp only [↓IntWalk.iteOmega, Oper.doesUpon_value]; exact DetR.mk) | (simp only [↓IntWalk.iteOmega]; go_simp; (try go_ints); exact DetR.mk))); simp only [Act.put, List.setIfInBounds_toArray, List.set_cons_zero, List.set_cons_succ])
          apply FlowT.d
          · intro w1 hk
            unfold does
            go_simp
            exact CallR.det ((HC w1 hk.ext).out)
          simp only [Act.put, List.setIfInBounds_toArray, List.set_cons_zero, List.set_cons_succ]
          repeat (apply FlowT.d; (intro w1 hk; unfold does; go_simp; (try go_ints); (first | exact DetR.mk | (simp only [↓IntWalk.iteOmega, Oper.doesUpon_value]; exact DetR.mk) | (simp only [↓IntWalk.iteOmega]; go_simp; (try go_ints); exact DetR.mk))); simp only [Act.put, List.setIfInBounds_toArray, List.set_cons_zero, List.set_cons_succ])
          refine FlowT.fin fun w3 hx3 hk3 => ?_
          have Hx3 := hid (Hxq.out.trans hx3)
          clear hx3 hk3 j0 j1 c0 c1 HC
          cases q with
          | false =>
            have Hno : Hid (d = false) := hid (by
              cases hb : d with
              | false => rfl
              | true =>
                have h0 := (HA.out.mem _).1 (List.mem_of_getElem? Hxk.out)
                have h1 := (Hdd.out.1 hb).edge _ h0.1 h0.2
                simp only [Int.toNat_natCast] at h1
                rw [HD1.out, HD2.out] at h1
                have h2 := all_in.2 h1
                rw [← Hqd.out] at h2
                cases h2)
            go_wp2
            go_ret
            exact ⟨by rw [Hno.out]; rfl, HX.out.trans (Hx2.out.trans Hx3.out)⟩
          | true =>
            have Hin : Hid (∀ n ∈ has.getD (A : Int).toNat [], n ∈ has.getD (B : Int).toNat []) := hid (by
              rw [Int.toNat_natCast, Int.toNat_natCast, HD1.out, HD2.out]
              exact all_in.1 Hqd.out.symm)
            go_wp2
            go_roundw
            case rel =>
              refine ⟨i + 1, by go_num, by omega, fun j e hj he => ?_, Hx3.out⟩
              by_cases hji : j = i
              · subst hji
                obtain rfl := Option.some.inj (Hxk.out.symm.trans he)
                exact Hin.out
              · exact Hq.out j e (by omega) he
            case measure => simp [intOf]; omega
        · obtain rfl : i = EL.length := by omega
          have Hyes : Hid (d = true) := hid (Hdd.out.2 ⟨fun k hk => Hp.out k hk, fun e he hne => by
            obtain ⟨j, hj⟩ := List.mem_iff_getElem?.1 ((HA.out.mem e).2 ⟨he, hne⟩)
            have hjl : j < EL.length := by
              rcases Nat.lt_or_ge j EL.length with h | h
              · exact h
              · rw [List.getElem?_eq_none h] at hj; cases hj
            exact Hq.out j e hjl hj⟩)
          go_wp2
          go_ret
          exact ⟨by rw [Hyes.out]; rfl, HX.out.trans (Hx2.out.trans Hxq.out)⟩
end Go.Proofs.YtohfdecefikinaaGreatDoor


/- Edges, plainly: more objects make no fewer edges. -/
namespace Go.Proofs.YtohfdecefikinaaGreatDoor
set_option linter.unusedSimpArgs false
set_option linter.unusedVariables false
open Go Go.RowKit

/-- Each node has what it had. -/
def Sub (a b : List (List Int)) : Prop := ∀ i x, x ∈ a.getD i [] → x ∈ b.getD i []
theorem nodesOf_mono {P : PP} {a b : List Int} (h : ∀ x, x ∈ a → x ∈ b) : ∀ x, x ∈ P.nodesOf a → x ∈ P.nodesOf b := fun x hx => by
  unfold PP.nodesOf at hx ⊢
  obtain ⟨h1, h2⟩ := List.mem_filter.1 hx
  exact List.mem_filter.2 ⟨h x h1, h2⟩
theorem redges_mono {P : PP} {a b : List (List Int)} (h : Sub a b) (r : RV) : ∀ e, e ∈ P.redges r a → e ∈ P.redges r b := by
  intro e
  unfold PP.redges
  cases r.kind.toList == kCopy
  · cases r.kind.toList == kLoad
    · cases r.kind.toList == kStore
      · cases r.kind.toList == kCall
        · exact id
        · simp only [cond_true, cond_false]
          intro he
          obtain ⟨o, ho, hm⟩ := List.mem_flatMap.1 he
          exact List.mem_flatMap.2 ⟨o, h _ _ ho, hm⟩
      · simp only [cond_true, cond_false]
        intro he
        obtain ⟨o, ho, hm⟩ := List.mem_map.1 he
        exact List.mem_map.2 ⟨o, nodesOf_mono (h _) _ ho, hm⟩
    · simp only [cond_true, cond_false]
      intro he
      obtain ⟨o, ho, hm⟩ := List.mem_map.1 he
      exact List.mem_map.2 ⟨o, nodesOf_mono (h _) _ ho, hm⟩
  · exact id
theorem edges0_mono {P : PP} {a b : List (List Int)} (h : Sub a b) : ∀ e, e ∈ P.edges0 a → e ∈ P.edges0 b := by
  intro e he
  unfold PP.edges0 at he ⊢
  obtain ⟨r, hr, hm⟩ := List.mem_flatMap.1 he
  exact List.mem_flatMap.2 ⟨r, hr, redges_mono h r e hm⟩
theorem edgesAre_mono {P : PP} {a b : List (List Int)} (h : Sub a b) {l m : List (Int × Int)} (hl : EdgesAre P a l) (hm : EdgesAre P b m) : ∀ e, e ∈ l → e ∈ m := fun e he =>
  (hm.mem e).2 ⟨edges0_mono h e ((hl.mem e).1 he).1, ((hl.mem e).1 he).2⟩
/-- One node has one object more. -/
def plusAt (has : List (List Int)) (n : Nat) (o : Int) : List (List Int) := has.set n (sset (has.getD n [] ++ [o]))
theorem plusAt_sub {P : PP} {has : List (List Int)} (hs : SetsOk P has) (n : Nat) (o : Int) (ho : 0 ≤ o ∧ o < 1000) : Sub has (plusAt has n o) := by
  intro i x hx
  unfold plusAt
  rw [List.getD_eq_getElem?_getD, List.getElem?_set]
  by_cases hi : n = i
  · subst hi
    rw [if_pos rfl]
    by_cases hl : n < has.length
    · rw [if_pos hl]
      rw [Option.getD_some]
      refine mem_sset0.2 ⟨List.mem_append.2 (.inl hx), ?_⟩
      rw [List.getD_eq_getElem?_getD, List.getElem?_eq_getElem hl] at hx
      exact hs.inr _ (List.getElem_mem hl) x hx
    · rw [List.getD_eq_getElem?_getD, List.getElem?_eq_none (by omega)] at hx
      cases hx
  · rw [if_neg hi]
    rwa [List.getD_eq_getElem?_getD] at hx
theorem plusAt_ok {P : PP} {has : List (List Int)} (hs : SetsOk P has) (n : Nat) (o : Int) (ho : 0 ≤ o ∧ o < (P.objectsV : Int)) : SetsOk P (plusAt has n o) := by
  refine ⟨by unfold plusAt; rw [List.length_set]; exact hs.len, fun l hl => ?_⟩
  unfold plusAt at hl
  rcases List.mem_or_eq_of_mem_set hl with h | h
  · exact hs.ok l h
  · rw [h]
    refine ⟨chkE_sset _, fun x hx => ?_⟩
    rcases List.mem_append.1 (mem_sset0.1 hx).1 with h | h
    · rw [List.getD_eq_getElem?_getD] at h
      cases he : has[n]? with
      | none => rw [he] at h; cases h
      | some l => rw [he] at h; exact (hs.ok l (List.mem_of_getElem? he)).2 x h
    · obtain rfl := List.mem_singleton.1 h
      exact ho.2
/-- In a list that rises, what is greater stands behind. -/
theorem srtP_idx {b : List (Int × Int)} (h : SrtP b) {i j : Nat} {x y : Int × Int} (hi : b[i]? = some x) (hj : b[j]? = some y) (hlt : lexLt x y) : i < j := by
  have hil : i < b.length := by
    rcases Nat.lt_or_ge i b.length with g | g
    · exact g
    · rw [List.getElem?_eq_none g] at hi; cases hi
  have hjl : j < b.length := by
    rcases Nat.lt_or_ge j b.length with g | g
    · exact g
    · rw [List.getElem?_eq_none g] at hj; cases hj
  rw [List.getElem?_eq_getElem hil] at hi
  rw [List.getElem?_eq_getElem hjl] at hj
  obtain rfl := Option.some.inj hi
  obtain rfl := Option.some.inj hj
  rcases Nat.lt_trichotomy i j with g | g | g
  · exact g
  · subst g; exact absurd hlt (lexLt.irr _)
  · exact absurd (hlt.trans (List.pairwise_iff_getElem.1 h j i hjl hil g)) (lexLt.irr _)
theorem srtP_next {a : List (Int × Int)} (h : SrtP a) {i : Nat} {x y : Int × Int} (hi : a[i]? = some x) (hj : a[i + 1]? = some y) : lexLt x y := by
  have hjl : i + 1 < a.length := by
    rcases Nat.lt_or_ge (i + 1) a.length with g | g
    · exact g
    · rw [List.getElem?_eq_none g] at hj; cases hj
  rw [List.getElem?_eq_getElem (by omega)] at hi
  rw [List.getElem?_eq_getElem hjl] at hj
  obtain rfl := Option.some.inj hi
  obtain rfl := Option.some.inj hj
  exact List.pairwise_iff_getElem.1 h i (i + 1) (by omega) hjl (by omega)
/-- A list that rises is of no more than a list that rises and has all of it. -/
theorem srtP_sub_len : ∀ {a b : List (Int × Int)}, SrtP a → SrtP b → (∀ e, e ∈ a → e ∈ b) → a.length ≤ b.length
  | [], b, _, _, _ => Nat.zero_le _
  | x :: a, b, ha, hb, h => by
    obtain ⟨s, t, rfl⟩ := List.append_of_mem (h x List.mem_cons_self)
    have ha' := List.pairwise_cons.1 ha
    have hb' := List.pairwise_append.1 hb
    have hbt := List.pairwise_cons.1 hb'.2.1
    have := srtP_sub_len ha'.2 hbt.2 fun e he => by
      have hlt := ha'.1 e he
      rcases List.mem_append.1 (h e (List.mem_cons_of_mem _ he)) with g | g
      · exact absurd (hlt.trans (hb'.2.2 e g x List.mem_cons_self)) (lexLt.irr _)
      · rcases List.mem_cons.1 g with g | g
        · subst g; exact absurd hlt (lexLt.irr _)
        · exact g
    rw [List.length_append, List.length_cons, List.length_cons]
    omega
end Go.Proofs.YtohfdecefikinaaGreatDoor


/- ConsMore: what the law leans on. -/
namespace Go.Proofs.YtohfdecefikinaaGreatDoor
set_option linter.unusedSimpArgs false
set_option linter.unusedVariables false
open Go Go.RowKit

set_option maxRecDepth 100000 in
set_option maxHeartbeats 1600000 in
theorem progobjects_no (a1 a2 a3 : Option Addr) (c1 c2 c3 : Nat) (P : PP) (w : World) (n0 : Nat) (ad : Nat → Addr) (h : PS0 w n0 ad a1 a2 a3 c1 c2 c3 P) (hw : ¬ P.Well) :
    Calls Tryz.prog 20 #[pval a1 a2 a3 c1 c2 c3 P] w fun e w' => e = .returned (.int .i64 0) ∧ Ext w w' := by
  obtain ⟨W, hW⟩ : ∃ W, W = w.alloc (.cells (pcells a1 a2 a3 c1 c2 c3 P) 26) := ⟨_, rfl⟩
  have HX : Hid (Ext w W) := hid (by rw [hW]; exact (Ext.refl _).alloc _)
  have HBx : Hid (Blk W w.heap.size (pcells a1 a2 a3 c1 c2 c3 P) 26) := hid (by rw [hW]; exact Blk.new _ _ _)
  have HWe : Hid (W = w.alloc (.cells #[.slice a1 P.vars.length c1, .slice a2 P.funs.length c2, .slice a3 P.stmts.length c3] 26)) := hid (by rw [hW]; rfl)
  have hml : (P.vars.length : Int) ≤ 9223372036854775807 := by
    obtain ⟨_, _, _, h2, h3, _⟩ := h.prog.vars
    omega
  have HK := hid (pcheck_any a1 a2 a3 c1 c2 c3 P W n0 ad (h.errs.ext HX.out) (h.prog.ext HX.out) h.z1 h.z2 hml)
  have Hw := hid hw
  have d0 := HBx.out.av 0 rfl
  have d1 := HBx.out.av 1 rfl
  have d2 := HBx.out.av 2 rfl
  simp only [pcells, List.getElem_toArray, List.getElem_cons_zero, List.getElem_cons_succ] at d0 d1 d2
  unfold pval at HK ⊢
  clear hW h hw
  go_enter Tryz.func20, Tryz.ntmps20
  go_wp2_with fail
  rw [← HWe.out]
  refine HK.out.mono ?_
  intro e w1 hx
  obtain ⟨v, rfl, hi, hx1⟩ := hx
  obtain ⟨t, x, rfl⟩ : ∃ t x, v = .iface t (.pointer (some x)) := by
    rcases hi.form with ⟨_, h⟩ | ⟨h, _⟩
    · exact absurd h Hw.out
    · exact h
  have Hx1 := hid (HX.out.trans hx1)
  clear HK hx1 hi d0 d1 d2
  go_wp2
  go_ret
  exact ⟨rfl, Hx1.out⟩
theorem setE_of {P : PP} {l : List Int} (h : chkE l = 0) (hx : ∀ x ∈ l, x < (P.objectsV : Int)) : P.setE l = 0 := by
  unfold PP.setE
  rw [if_pos h, if_neg]
  rintro ⟨h1, h2⟩
  rw [List.getD_eq_getElem?_getD, List.getElem?_eq_getElem (show l.length - 1 < l.length by omega), Option.getD_some] at h2
  have := hx _ (List.getElem_mem (show l.length - 1 < l.length by omega))
  omega
theorem goodS_plus {P : PP} {has : List (List Int)} (h : P.GoodS has) (n : Nat) (o : Int) (ho : 0 ≤ o ∧ o < (P.objectsV : Int)) : P.GoodS (plusAt has n o) := by
  have hk := plusAt_ok h.ok n o ho
  exact ⟨h.1, hk.len, fun l hl => setE_of (hk.ok l hl).1 (hk.ok l hl).2⟩
theorem objects_few {P : PP} (hw : P.Well) : P.objectsV ≤ 126 := by
  have h1 := hw.few
  have h2 := nodesV_le P hw
  unfold PP.objectsV
  omega
/-- One list of a row that was made is put anew. -/
theorem Made.set {w : World} {base g cap : Nat} {vs : List Value} {L : List (List Int)} {n : Nat} {v : Value} {l : List Int} (hr : w.ownsRow base 42 1 (.slice (some ⟨g, 0, none⟩) L.length cap) L.length vs) (hm : Made w vs L) (hv : IntsT w v l) (hn : n < L.length) :
    SetsR (w.setCell ⟨g, n, none⟩ v) (w.setCell ⟨g, n, none⟩ v).heap.size (.slice (some ⟨g, 0, none⟩) (L.set n l).length cap) (L.set n l) := by
  have k : Keep (fun q => q = g) w (w.setCell ⟨g, n, none⟩ v) := Keep.set (X := fun q => q = g) (Keep.refl _ _) rfl _
  have hni : ∀ b, b = g → ¬ IsInt w b := fun b e => by
    subst e
    obtain ⟨c, hc⟩ := own_ty hr (k := b) rfl
    exact notInt hc (by decide)
  have hvs := hm.1
  have h2 := own_set hr n (by omega) v
  rw [show L.length = (L.set n l).length from List.length_set.symm] at h2
  refine SetsR.made h2 ⟨by rw [List.length_set, List.length_set]; exact hvs, fun i u m hu hl => ?_⟩
  by_cases hi : n = i
  · subst hi
    rw [List.getElem?_set_self (by omega)] at hu hl
    obtain rfl := Option.some.inj hu
    obtain rfl := Option.some.inj hl
    exact hv.keep k hni
  · rw [List.getElem?_set_ne hi] at hu hl
    exact (hm.2 i u m hu hl).keep k hni
theorem IntsT.row {w : World} {base : Nat} {v : Value} {l : List Int} (h : IRow base w v l) : IntsT w v l := IntsT.of_row h
/-- Where what is sought stands: here or behind. -/
def Ahead (a b : List (Int × Int)) (i k : Nat) : Prop := ∀ x, a[i]? = some x → ∃ j, k ≤ j ∧ b[j]? = some x
theorem Ahead.zero {a b : List (Int × Int)} (h : ∀ e, e ∈ a → e ∈ b) : Ahead a b 0 0 := fun x hx => by
  obtain ⟨j, hj⟩ := List.mem_iff_getElem?.1 (h x (List.mem_of_getElem? hx))
  exact ⟨j, Nat.zero_le _, hj⟩
theorem Ahead.skip {a b : List (Int × Int)} {i k : Nat} {x y : Int × Int} (h : Ahead a b i k) (hx : a[i]? = some x) (hy : b[k]? = some y) (hne : y ≠ x) : Ahead a b i (k + 1) := fun z hz => by
  obtain rfl := Option.some.inj (hx.symm.trans hz)
  obtain ⟨j, hj, hb⟩ := h x hx
  refine ⟨j, ?_, hb⟩
  rcases Nat.lt_or_ge k j with g | g
  · exact g
  · obtain rfl : j = k := by omega
    exact absurd (Option.some.inj (hy.symm.trans hb)) hne
theorem Ahead.next {a b : List (Int × Int)} (ha : SrtP a) (hb : SrtP b) (hs : ∀ e, e ∈ a → e ∈ b) {i k : Nat} {x : Int × Int} (hx : a[i]? = some x) (hy : b[k]? = some x) : Ahead a b (i + 1) k := fun z hz => by
  obtain ⟨j, hj⟩ := List.mem_iff_getElem?.1 (hs z (List.mem_of_getElem? hz))
  exact ⟨j, Nat.le_of_lt (srtP_idx hb hy hj (srtP_next ha hx hz)), hj⟩
theorem Ahead.found {a b : List (Int × Int)} {i k : Nat} {x : Int × Int} (h : Ahead a b i k) (hx : a[i]? = some x) : k < b.length := by
  obtain ⟨j, hj, hb⟩ := h x hx
  rcases Nat.lt_or_ge j b.length with g | g
  · omega
  · rw [List.getElem?_eq_none g] at hb; cases hb
end Go.Proofs.YtohfdecefikinaaGreatDoor


/- The reference: what sets are wrong in (SetsFault). -/
namespace Go.Proofs.YtohfdecefikinaaGreatDoor
set_option linter.unusedSimpArgs false
set_option linter.unusedVariables false
open Go Go.RowKit

/-- What sets are wrong in, in numbers. -/
def SFaultIs (P : PP) (has : List (List Int)) (c : Nat) (p : Int) : Prop :=
  (has.length ≠ P.nodesV ∧ c = 3 ∧ p = -1) ∨ (has.length = P.nodesV ∧ (∀ l ∈ has, P.setE l = 0) ∧ c = 0 ∧ p = -1) ∨
  (has.length = P.nodesV ∧ ∃ (i : Nat) (l : List Int), has[i]? = some l ∧ P.setE l ≠ 0 ∧ (∀ j m, j < i → has[j]? = some m → P.setE m = 0) ∧ c = P.setE l ∧ p = (i : Int))
theorem setE_two {P : PP} {l : List Int} (h : chkE l = 0) {x : Int} (hx : x ∈ l) (hm : (P.objectsV : Int) ≤ x) : P.setE l = 2 := by
  have h0 : P.setE l ≠ 0 := fun e => by have := (setE_zero e).2 x hx; omega
  unfold PP.setE at h0 ⊢
  rw [if_pos h] at h0 ⊢
  by_cases hb : 0 < l.length ∧ (P.objectsV : Int) ≤ l.getD (l.length - 1) 0
  · rw [if_pos hb]
  · rw [if_neg hb] at h0; exact absurd rfl h0
theorem setE_chk {P : PP} {l : List Int} (h : chkE l ≠ 0) : P.setE l = chkE l := by unfold PP.setE; rw [if_neg h]
/-- How far the reference is with one set. -/
def SStep (P : PP) (l : List Int) (k e : Nat) : Prop := (e = chkE l ∧ chkE l ≠ 0 ∧ k = 0) ∨ (chkE l = 0 ∧ ((e = 0 ∧ ∀ x ∈ l.take k, x < (P.objectsV : Int)) ∨ (e = 2 ∧ ∃ x ∈ l, (P.objectsV : Int) ≤ x)))
theorem SStep.end {P : PP} {l : List Int} {k e : Nat} (h : SStep P l k e) (hk : e ≠ 0 ∨ k = l.length) : P.setE l = e := by
  rcases h with ⟨rfl, h2, _⟩ | ⟨h1, ⟨rfl, h3⟩ | ⟨rfl, x, hx, hm⟩⟩
  · exact setE_chk h2
  · rcases hk with hk | hk
    · exact absurd rfl hk
    · refine setE_of h1 fun x hx => h3 x ?_
      rw [hk, List.take_length]; exact hx
  · exact setE_two h1 hx hm
set_option maxRecDepth 100000 in
set_option maxHeartbeats 3200000 in
theorem rsetsfault_any (a1 a2 a3 : Option Addr) (c1 c2 c3 : Nat) (P : PP) (hv : Value) (has : List (List Int)) (w : World) (n0 : Nat) (h : ProgR w n0 (.slice a1 P.vars.length c1) (.slice a2 P.funs.length c2) (.slice a3 P.stmts.length c3) P) (hw : P.Well) (hh : SetsR w n0 hv has) :
    Calls Tryz.prog 15 #[pval a1 a2 a3 c1 c2 c3 P, hv] w fun e w' => ∃ (c : Nat) (p : Int), e = .returned (.agg #[.int .i64 (c : Int), .int .i64 p]) ∧ SFaultIs P has c p ∧ Ext w w' := by
  obtain ⟨ah, ch, rfl⟩ := hh.form
  have hhl := hh.len
  obtain ⟨hf1, hf2, hf3⟩ := hw.few
  have hM6 := objects_few hw
  have hN6 := nodesV_le P hw
  obtain ⟨W1, hW1⟩ : ∃ W1, W1 = w.alloc (.cells (pcells a1 a2 a3 c1 c2 c3 P) 26) := ⟨_, rfl⟩
  have hx1 : Ext w W1 := by rw [hW1]; exact (Ext.refl _).alloc _
  obtain ⟨W, hW⟩ : ∃ W, W = W1.alloc (.cells #[.int .i64 0, .int .i64 0] 34) := ⟨_, rfl⟩
  have hx2 : Ext W1 W := by rw [hW]; exact (Ext.refl _).alloc _
  have s1 : W1.heap.size = w.heap.size + 1 := by rw [hW1, heap_size_alloc]
  have HX := hid (hx1.trans hx2)
  have HBx : Hid (Blk W w.heap.size (pcells a1 a2 a3 c1 c2 c3 P) 26) := hid (by
    have : Blk W1 w.heap.size (pcells a1 a2 a3 c1 c2 c3 P) 26 := by rw [hW1]; exact Blk.new _ _ _
    exact this.ext hx2)
  have HBz : Hid (Blk W (w.heap.size + 1) #[.int .i64 0, .int .i64 0] 34) := hid (by rw [← s1, hW]; exact Blk.new _ _ _)
  have HWe : Hid (W = (w.alloc (.cells #[.slice a1 P.vars.length c1, .slice a2 P.funs.length c2, .slice a3 P.stmts.length c3] 26)).alloc (.cells #[.int .i64 0, .int .i64 0] 34)) := hid (by rw [hW, hW1]; rfl)
  have HNo := fun w1 (x : Ext w w1) => hid (rnodesof_any a1 a2 a3 c1 c2 c3 P w1 n0 (h.ext x) (by omega) (by omega))
  have HH := hid (hh.ext HX.out)
  have HMe : Hid (P.objectsV = P.nodesV + P.funs.length) := hid rfl
  obtain ⟨N, hN⟩ : ∃ N, N = P.nodesV := ⟨_, rfl⟩
  rw [← hN] at HNo hN6
  have HN := hid hN
  have d0 := HBx.out.av 0 rfl
  have d1 := HBx.out.av 1 rfl
  have d2 := HBx.out.av 2 rfl
  simp only [pcells, List.getElem_toArray, List.getElem_cons_zero, List.getElem_cons_succ] at d0 d1 d2
  rw [HWe.out] at d0 d1 d2
  unfold pval at HNo ⊢
  clear h hw hh hW1 hW hx1 hx2 s1 hN
  have HN1 := HNo W HX.out
  go_enter Tryz.func15, Tryz.ntmps15
  go_wp2_with fail
  rw [← HWe.out]
  refine HN1.out.mono ?_
  intro e w1 hx
  obtain ⟨rfl, hx1⟩ := hx
  have Hx1 := hid hx1
  clear HN1 hx1 d0 d1 d2
  by_cases hlen : has.length = N
  · have Hlen : Hid (has.length = P.nodesV) := hid (by rw [← HN.out]; exact hlen)
    have e0 : ((has.length : Int) != (N : Int)) = false := by rw [hlen]; simp
    have d0 := (HBx.out.ext Hx1.out).kc (X := fun _ => False) (fun e => e) 0 rfl
    have d1 := (HBx.out.ext Hx1.out).kc (X := fun _ => False) (fun e => e) 1 rfl
    have d2 := (HBx.out.ext Hx1.out).kc (X := fun _ => False) (fun e => e) 2 rfl
    simp only [pcells, List.getElem_toArray, List.getElem_cons_zero, List.getElem_cons_succ] at d0 d1 d2
    have HN2 := fun w2 (x : Ext w1 w2) => HNo w2 (HX.out.trans (Hx1.out.trans x))
    clear HNo hlen
    go_wp2
    clear e0
    refine wp_flowT (fun _ => False) (by kernel_rfl) (by kernel_rfl) ?_
    repeat (apply FlowT.d; (intro w1 hk; unfold does; go_simp; (try go_ints); (first | exact DetR.mk | (simp only [↓IntWalk.iteOmega, Oper.doesUpon_value]; exact DetR.mk) | (simp only [↓IntWalk.iteOmega]; go_simp; (try go_ints); exact DetR.mk))); simp only [Act.put, List.setIfInBounds_toArray, List.set_cons_zero, List.set_cons_succ])
    apply FlowT.d
    · intro w1 hk
      unfold does
      go_simp
      exact CallR.det ((HN2 w1 hk.ext).out)
    simp only [Act.put, List.setIfInBounds_toArray, List.set_cons_zero, List.set_cons_succ]
    repeat (apply FlowT.d; (intro w1 hk; unfold does; go_simp; (try go_ints); (first | exact DetR.mk | (simp only [↓IntWalk.iteOmega, Oper.doesUpon_value]; exact DetR.mk) | (simp only [↓IntWalk.iteOmega]; go_simp; (try go_ints); exact DetR.mk))); simp only [Act.put, List.setIfInBounds_toArray, List.set_cons_zero, List.set_cons_succ])
    refine FlowT.fin fun w2 hx2 hk2 => ?_
    have Hx2 := hid (Hx1.out.trans hx2)
    clear hx2 hk2 d0 d1 d2 HN2
    have hMM : ((N : Int) + (P.funs.length : Int)) = (P.objectsV : Int) := by rw [HMe.out, ← HN.out]; omega
    try rw [hMM]
    obtain ⟨M, hM⟩ : ∃ M, M = P.objectsV := ⟨_, rfl⟩
    try rw [← hM]
    rw [← hM] at hM6
    have HM := hid hM
    clear hMM hM
    go_wp2
    go_loopw [6] (fun t6 wr => ∃ k : Nat, t6 = .int .i64 (k : Int) ∧ k ≤ has.length ∧ (∀ j m, j < k → has[j]? = some m → P.setE m = 0) ∧ Ext W wr) (fun t6 _ => has.length - (intOf t6).toNat)
    case atStart => exact ⟨0, rfl, Nat.zero_le _, fun j m h => by omega, Hx2.out⟩
    case round =>
      obtain ⟨k, rfl, hk, hp, hx⟩ := hrel
      have Hp := hid hp
      have Hx := hid hx
      clear hp hx
      by_cases hlt : k < has.length
      · obtain ⟨y, l, bl, cl, hya, hl, hc, hI⟩ := (HH.out.ext Hx.out).at hlt
        subst hya
        have HCk := hid (rseterror_any (.slice bl l.length cl) l wr n0 hI)
        have Hl := hid hl
        have HI := hid hI
        have Hc := hid hc
        have hll := hI.len
        obtain ⟨c, hcd⟩ : ∃ c, c = chkE l := ⟨_, rfl⟩
        rw [← hcd] at HCk
        have Hcd := hid hcd
        have hc10 : c ≤ 10 := by rw [hcd]; exact chkE_le l
        clear hl hI hcd
        go_wp2_with fail
        refine HCk.out.mono ?_
        intro e w3 hx
        obtain ⟨rfl, hx3⟩ := hx
        have Hx3 := hid (Hx.out.trans hx3)
        have Hx3r := hid hx3
        clear HCk hx3 hc
        go_wp2
        go_loopw [7, 8] (fun t7 t8 wq => ∃ (q e : Nat), t8 = .int .i64 (q : Int) ∧ t7 = .int .i64 (e : Int) ∧ q ≤ l.length ∧ e ≤ 10 ∧ SStep P l q e ∧ Ext w3 wq) (fun _ t8 _ => l.length - (intOf t8).toNat)
        case atStart =>
          refine ⟨0, c, rfl, rfl, Nat.zero_le _, hc10, ?_, Ext.refl _⟩
          by_cases h0 : chkE l = 0
          · exact .inr ⟨h0, .inl ⟨Hcd.out.trans h0, fun x hx => by simp at hx⟩⟩
          · exact .inl ⟨Hcd.out, h0, rfl⟩
        case round =>
          obtain ⟨q, e, rfl, rfl, hq, he10, hs, hx⟩ := hrel
          have Hs := hid hs
          have HxQ := hid hx
          clear hs hx
          have cc := (Hx3r.out.trans HxQ.out).cellx Hc.out
          by_cases hql : q < l.length
          · by_cases he : e = 0
            · subst he
              obtain ⟨yl, o, hyl, ho, hco⟩ := (HI.out.old ((Hx3r.out.trans HxQ.out).old n0)).at hql
              subst hyl
              have Ho := hid ho
              have Hck : Hid (chkE l = 0 ∧ ∀ x ∈ l.take q, x < (P.objectsV : Int)) := hid (by
                rcases Hs.out with ⟨h1, h2, _⟩ | ⟨h1, ⟨_, h3⟩ | ⟨h3, _⟩⟩
                · exact absurd h1.symm h2
                · exact ⟨h1, h3⟩
                · cases h3)
              clear ho
              by_cases hoM : (M : Int) ≤ o
              · have Hn : Hid (SStep P l (q + 1) 2) := hid (.inr ⟨Hck.out.1, .inr ⟨rfl, o, List.mem_of_getElem? Ho.out, by rw [← HM.out]; exact hoM⟩⟩)
                go_wp2
                go_roundw
                case rel => exact ⟨q + 1, 2, by go_num, rfl, by omega, by omega, Hn.out, HxQ.out⟩
                case measure => simp [intOf]; omega
              · have Hn : Hid (SStep P l (q + 1) 0) := hid (.inr ⟨Hck.out.1, .inl ⟨rfl, fun x hx => by
                  rw [List.take_add_one, Ho.out] at hx
                  rcases List.mem_append.1 hx with hx | hx
                  · exact Hck.out.2 x hx
                  · obtain rfl : x = o := by simpa using hx
                    rw [← HM.out]; omega⟩⟩)
                go_wp2
                go_roundw
                case rel => exact ⟨q + 1, 0, by go_num, rfl, by omega, by omega, Hn.out, HxQ.out⟩
                case measure => simp [intOf]; omega
            · have Hend : Hid (P.setE l = e) := hid (Hs.out.end (.inl he))
              have he1 : ((e : Int) == 0) = false := beq_eq_false_iff_ne.2 (by omega)
              have he2 : 0 < (e : Int) := by omega
              have Hbad : Hid (SFaultIs P has e (k : Int)) := hid (.inr (.inr ⟨Hlen.out, k, l, Hl.out, by rw [Hend.out]; exact he, Hp.out, Hend.out.symm, rfl⟩))
              have HxE := hid (Hx3.out.trans HxQ.out)
              clear he
              have hz := HBz.out.ext HxE.out
              have y0 := (two (v0 := .int .i64 (e : Int)) (v1 := .int .i64 (k : Int)) hz).av 0 rfl
              have y1 := (two (v0 := .int .i64 (e : Int)) (v1 := .int .i64 (k : Int)) hz).av 1 rfl
              have z0 := hz.av 0 rfl
              have z1 := hz.av 1 rfl
              have g0 := hz.free 0
              have g1 := hz.free 1
              have hxe := Keep.new (HX.out.trans HxE.out) (two_keep _ (w.heap.size + 1) (.int .i64 (e : Int)) (.int .i64 (k : Int))) fun b e => by omega
              simp only [List.getElem_toArray, List.getElem_cons_zero, List.getElem_cons_succ] at z0 z1 y0 y1
              have Hxe := hid hxe
              clear hz hxe
              go_wp2
              refine bodyPost_ret (v := .agg #[.int .i64 (e : Int), .int .i64 (k : Int)]) ?_ rfl ?_
              · simp [results, Tryz.results15, go_sem, y0, y1]
              exact ⟨_, _, rfl, Hbad.out, Hxe.out⟩
          · obtain rfl : q = l.length := by omega
            have Hend : Hid (P.setE l = e) := hid (Hs.out.end (.inr rfl))
            have HxE := hid (Hx3.out.trans HxQ.out)
            by_cases he : e = 0
            · subst he
              go_wp2
              go_roundw
              case rel =>
                refine ⟨k + 1, by go_num, by omega, fun j m hj hm => ?_, HxE.out⟩
                by_cases hjk : j = k
                · subst hjk
                  obtain rfl := Option.some.inj (Hl.out.symm.trans hm)
                  exact Hend.out
                · exact Hp.out j m (by omega) hm
              case measure => simp [intOf]; omega
            · have he2 : 0 < (e : Int) := by omega
              have Hbad : Hid (SFaultIs P has e (k : Int)) := hid (.inr (.inr ⟨Hlen.out, k, l, Hl.out, by rw [Hend.out]; exact he, Hp.out, Hend.out.symm, rfl⟩))
              clear he
              have hz := HBz.out.ext HxE.out
              have y0 := (two (v0 := .int .i64 (e : Int)) (v1 := .int .i64 (k : Int)) hz).av 0 rfl
              have y1 := (two (v0 := .int .i64 (e : Int)) (v1 := .int .i64 (k : Int)) hz).av 1 rfl
              have z0 := hz.av 0 rfl
              have z1 := hz.av 1 rfl
              have g0 := hz.free 0
              have g1 := hz.free 1
              have hxe := Keep.new (HX.out.trans HxE.out) (two_keep _ (w.heap.size + 1) (.int .i64 (e : Int)) (.int .i64 (k : Int))) fun b e => by omega
              simp only [List.getElem_toArray, List.getElem_cons_zero, List.getElem_cons_succ] at z0 z1 y0 y1
              have Hxe := hid hxe
              clear hz hxe
              go_wp2
              refine bodyPost_ret (v := .agg #[.int .i64 (e : Int), .int .i64 (k : Int)]) ?_ rfl ?_
              · simp [results, Tryz.results15, go_sem, y0, y1]
              exact ⟨_, _, rfl, Hbad.out, Hxe.out⟩
      · obtain rfl : k = has.length := by omega
        have Hall : Hid (SFaultIs P has 0 (-1)) := hid (.inr (.inl ⟨Hlen.out, fun l hl => by
          obtain ⟨j, hj, e⟩ := List.mem_iff_getElem.1 hl
          exact Hp.out j l hj (by rw [List.getElem?_eq_getElem hj, e]), rfl, rfl⟩))
        have HF := hid (rfine_any wr)
        go_wp2_with fail
        refine HF.out.mono ?_
        intro e w4 hx
        obtain ⟨rfl, hx4⟩ := hx
        have HxE := hid (Hx.out.trans hx4)
        clear HF hx4
        have hz := HBz.out.ext HxE.out
        have y0 := (two (v0 := .int .i64 0) (v1 := .int .i64 (-1)) hz).av 0 rfl
        have y1 := (two (v0 := .int .i64 0) (v1 := .int .i64 (-1)) hz).av 1 rfl
        have z0 := hz.av 0 rfl
        have z1 := hz.av 1 rfl
        have g0 := hz.free 0
        have g1 := hz.free 1
        have hxe := Keep.new (HX.out.trans HxE.out) (two_keep _ (w.heap.size + 1) (.int .i64 0) (.int .i64 (-1))) fun b e => by omega
        simp only [List.getElem_toArray, List.getElem_cons_zero, List.getElem_cons_succ] at z0 z1 y0 y1
        have Hxe := hid hxe
        clear hz hxe
        go_wp2
        refine bodyPost_ret (v := .agg #[.int .i64 0, .int .i64 (-1)]) ?_ rfl ?_
        · simp [results, Tryz.results15, go_sem, y0, y1]
        exact ⟨_, _, rfl, Hall.out, Hxe.out⟩
  · have Hbad : Hid (SFaultIs P has 3 (-1)) := hid (.inl ⟨by rw [← HN.out]; exact hlen, rfl, rfl⟩)
    have e0 : ((has.length : Int) != (N : Int)) = true := bne_iff_ne.2 (by omega)
    have HF := hid (rbare_any 3 w1)
    clear hlen HNo
    go_wp2_with fail
    refine HF.out.mono ?_
    intro e w4 hx
    obtain ⟨rfl, hx4⟩ := hx
    have HxE := hid (Hx1.out.trans hx4)
    clear HF hx4 e0
    have hz := HBz.out.ext HxE.out
    have y0 := (two (v0 := .int .i64 3) (v1 := .int .i64 (-1)) hz).av 0 rfl
    have y1 := (two (v0 := .int .i64 3) (v1 := .int .i64 (-1)) hz).av 1 rfl
    have z0 := hz.av 0 rfl
    have z1 := hz.av 1 rfl
    have g0 := hz.free 0
    have g1 := hz.free 1
    have hxe := Keep.new (HX.out.trans HxE.out) (two_keep _ (w.heap.size + 1) (.int .i64 3) (.int .i64 (-1))) fun b e => by omega
    simp only [List.getElem_toArray, List.getElem_cons_zero, List.getElem_cons_succ] at z0 z1 y0 y1
    have Hxe := hid hxe
    clear hz hxe
    go_wp2
    refine bodyPost_ret (v := .agg #[.int .i64 3, .int .i64 (-1)]) ?_ rfl ?_
    · simp [results, Tryz.results15, go_sem, y0, y1]
    exact ⟨_, _, rfl, Hbad.out, Hxe.out⟩
end Go.Proofs.YtohfdecefikinaaGreatDoor
