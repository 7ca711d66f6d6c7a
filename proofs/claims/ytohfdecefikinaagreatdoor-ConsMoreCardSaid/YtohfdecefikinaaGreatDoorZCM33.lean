/- Texts of one proof, put together: YJ Z1 Z2 Z3. -/
import Derived.Test.YtohfdecefikinaaGreatDoorZCM29
import Derived.Test.YtohfdecefikinaaGreatDoorZCM32

/- slices.ContainsFunc over edges: is an edge's source not within its end? -/
namespace Go.Proofs.YtohfdecefikinaaGreatDoor
set_option linter.unusedSimpArgs false
set_option linter.unusedVariables false
open Go Go.RowKit

set_option maxRecDepth 100000 in
set_option maxHeartbeats 1600000 in
theorem eidx_cl (b : Value) (p : Int × Int → Bool) (lv : Value) (l : List (Int × Int)) (w : World) (n0 : Nat) (h : ERow n0 w lv l) (hfew : l.length ≤ 100000) (hF : ∀ n w1, n ∈ l → Ext w w1 → Calls Tryz.prog 46 (#[eVal n] ++ #[b]) w1 fun e w' => e = .returned (.bool (p n)) ∧ Ext w1 w') :
    Calls Tryz.prog 68 #[lv, .func (.func 46) #[] #[b]] w fun e w' => ∃ r : Int, e = .returned (.int .i64 r) ∧ IdxG p l r ∧ Ext w w' := by
  have HF := hid hF
  unfold ERow at h
  obtain ⟨a, c, rfl⟩ := row_form h
  have Hr := hid h
  clear hF h
  go_enter Tryz.func68, Tryz.ntmps68
  go_wp2
  go_loopw [8] (fun t8 wr => ∃ k : Nat, t8 = .int .i64 (k : Int) ∧ k ≤ l.length ∧ (∀ j t, j < k → l[j]? = some t → p t = false) ∧ Ext w wr) (fun t8 _ => l.length - (intOf t8).toNat)
  case atStart => exact ⟨0, rfl, Nat.zero_le _, fun j t h => by omega, Ext.refl _⟩
  case round =>
    obtain ⟨k, rfl, hk, hne, hx⟩ := hrel
    have Hne := hid hne
    have Hx := hid hx
    clear hne hx
    by_cases hlt : k < l.length
    · obtain ⟨g, cp, he⟩ := own_some Hr.out (by omega)
      simp only [Value.slice.injEq, true_and] at he
      obtain ⟨rfl, rfl⟩ := he
      obtain ⟨t, ht⟩ : ∃ t, l[k]? = some t := ⟨_, List.getElem?_eq_getElem hlt⟩
      obtain ⟨q0, q1⟩ := own_e (own_ext Hr.out Hx.out) ht
      have HN := hid (HF.out t wr (List.mem_of_getElem? ht) Hx.out)
      unfold eVal at HN
      have Hxk := hid ht
      clear ht
      go_wp2_with fail
      refine HN.out.mono ?_
      intro e w1 hx1
      obtain ⟨rfl, hx1⟩ := hx1
      have Hx1 := hid (Hx.out.trans hx1)
      clear HN hx1 Hx q0 q1
      cases he : p t with
      | true =>
        have Hin := hid (show IdxG p l (k : Int) from .inr ⟨k, t, rfl, hlt, Hxk.out, he, Hne.out⟩)
        go_wp2
        go_ret
        exact ⟨(k : Int), rfl, Hin.out, Hx1.out⟩
      | false =>
        have Hf := hid he
        clear he
        go_wp2
        go_roundw
        case rel =>
          refine ⟨k + 1, by go_num, by omega, fun j u hj hu => ?_, Hx1.out⟩
          by_cases hjk : j = k
          · subst hjk
            obtain rfl := Option.some.inj (Hxk.out.symm.trans hu)
            exact Hf.out
          · exact Hne.out j u (by omega) hu
        case measure => simp [intOf]; omega
    · obtain rfl : k = l.length := by omega
      have Hnot := hid (show IdxG p l (-1) from .inl ⟨rfl, fun x hx => by
        obtain ⟨j, hj, e2⟩ := List.mem_iff_getElem.1 hx
        exact Hne.out j x hj (by rw [List.getElem?_eq_getElem hj, e2])⟩)
      go_wp2
      go_ret
      exact ⟨(-1 : Int), rfl, Hnot.out, Hx.out⟩
set_option maxRecDepth 100000 in
set_option maxHeartbeats 800000 in
theorem econtains_cl (b : Value) (p : Int × Int → Bool) (lv : Value) (l : List (Int × Int)) (w : World) (n0 : Nat) (h : ERow n0 w lv l) (hfew : l.length ≤ 100000) (hF : ∀ n w1, n ∈ l → Ext w w1 → Calls Tryz.prog 46 (#[eVal n] ++ #[b]) w1 fun e w' => e = .returned (.bool (p n)) ∧ Ext w1 w') :
    Calls Tryz.prog 45 #[lv, .func (.func 46) #[] #[b]] w fun e w' => e = .returned (.bool (l.any p)) ∧ Ext w w' := by
  have H := hid (eidx_cl b p lv l w n0 h hfew hF)
  unfold ERow at h
  obtain ⟨a, cap, rfl⟩ := row_form h
  clear hF h
  go_enter Tryz.func45, Tryz.ntmps45
  go_wp2_with fail
  refine H.out.mono ?_
  intro e w1 hx
  obtain ⟨r, rfl, hr, hx⟩ := hx
  clear H
  rcases hr with ⟨rfl, hr⟩ | ⟨i, x, rfl, hi, hxi, hp, _⟩
  · have Hr := hid (show l.any p = false from List.any_eq_false.2 fun x hx => by rw [hr x hx]; simp)
    clear hr
    go_wp2
    go_ret
    exact ⟨by rw [Hr.out]; rfl, hx⟩
  · have Hr := hid (show l.any p = true from List.any_eq_true.2 ⟨x, List.mem_of_getElem? hxi, hp⟩)
    clear hp hxi
    go_wp2
    go_ret
    exact ⟨by rw [Hr.out]; rfl, hx⟩
end Go.Proofs.YtohfdecefikinaaGreatDoor


/- cons.Closed: where the program is not well, or the sets are at fault. -/
namespace Go.Proofs.YtohfdecefikinaaGreatDoor
set_option linter.unusedSimpArgs false
set_option linter.unusedVariables false
open Go Go.RowKit

set_option maxRecDepth 100000 in
set_option maxHeartbeats 1600000 in
theorem consclosed_no (a1 a2 a3 : Option Addr) (c1 c2 c3 : Nat) (P : PP) (ah : Option Addr) (ch : Nat) (has : List (List Int)) (w : World) (n0 : Nat) (ad : Nat → Addr) (hE : ErrsP w ad) (h : ProgR w n0 (.slice a1 P.vars.length c1) (.slice a2 P.funs.length c2) (.slice a3 P.stmts.length c3) P)
    (hz1 : ∀ s ∈ P.vars, s.size ≤ 1000000) (hz2 : ∀ s ∈ P.names, s.size ≤ 1000000) (hw : ¬ P.Well) :
    Calls Tryz.prog 17 #[pval a1 a2 a3 c1 c2 c3 P, .slice ah has.length ch] w fun e w' => ∃ t x, e = .returned (.tuple #[.bool false, .iface t (.pointer (some x))]) ∧ ErrIs ad P w' (.iface t (.pointer (some x))) ∧ Ext w w' := by
  obtain ⟨W1, hW1⟩ : ∃ W1, W1 = w.alloc (.cells (pcells a1 a2 a3 c1 c2 c3 P) 26) := ⟨_, rfl⟩
  have hx1 : Ext w W1 := by rw [hW1]; exact (Ext.refl _).alloc _
  obtain ⟨W, hW⟩ : ∃ W, W = W1.alloc (.cells #[.slice ah has.length ch] 27) := ⟨_, rfl⟩
  have hx2 : Ext W1 W := by rw [hW]; exact (Ext.refl _).alloc _
  have s1 : W1.heap.size = w.heap.size + 1 := by rw [hW1, heap_size_alloc]
  have HX := hid (hx1.trans hx2)
  have HBx : Hid (Blk W w.heap.size (pcells a1 a2 a3 c1 c2 c3 P) 26) := hid (by
    have : Blk W1 w.heap.size (pcells a1 a2 a3 c1 c2 c3 P) 26 := by rw [hW1]; exact Blk.new _ _ _
    exact this.ext hx2)
  have HBh : Hid (Blk W (w.heap.size + 1) #[.slice ah has.length ch] 27) := hid (by rw [← s1, hW]; exact Blk.new _ _ _)
  have HWe : Hid (W = (w.alloc (.cells #[.slice a1 P.vars.length c1, .slice a2 P.funs.length c2, .slice a3 P.stmts.length c3] 26)).alloc (.cells #[.slice ah has.length ch] 27)) := hid (by rw [hW, hW1]; rfl)
  have HK := hid (consedges_no a1 a2 a3 c1 c2 c3 P (.slice ah has.length ch) W n0 ad (hE.ext HX.out) (h.ext HX.out) hz1 hz2 hw)
  clear h hE hw hz1 hz2
  have d0 := (HBx.out.ext (Ext.refl W)).av 0 rfl
  have d1 := (HBx.out.ext (Ext.refl W)).av 1 rfl
  have d2 := (HBx.out.ext (Ext.refl W)).av 2 rfl
  have m0 := (HBh.out.ext (Ext.refl W)).av 0 rfl
  simp only [pcells, List.getElem_toArray, List.getElem_cons_zero, List.getElem_cons_succ] at d0 d1 d2 m0
  rw [HWe.out] at d0 d1 d2 m0
  unfold pval at HK ⊢
  clear hW1 hW hx1 hx2 s1
  go_enter Tryz.func17, Tryz.ntmps17
  go_wp2_with fail
  rw [← HWe.out]
  refine HK.out.mono ?_
  intro e w1 hx
  obtain ⟨t, x, rfl, hi, hx1⟩ := hx
  have Hi := hid hi
  have Hx1 := hid (HX.out.trans hx1)
  clear HK hx1 hi d0 d1 d2 m0
  go_wp2
  go_ret2
  exact ⟨t, x, rfl, Hi.out, Hx1.out⟩
set_option maxRecDepth 100000 in
set_option maxHeartbeats 1600000 in
theorem consclosed_bad (a1 a2 a3 : Option Addr) (c1 c2 c3 : Nat) (P : PP) (ah : Option Addr) (ch : Nat) (has : List (List Int)) (w : World) (n0 : Nat) (ad : Nat → Addr) (h : PW w n0 ad a1 a2 a3 c1 c2 c3 P) (hS : ErrS w ad) (hh : SetsR w n0 (.slice ah has.length ch) has)
    (hbad : ¬ (has.length = P.nodesV ∧ ∀ l ∈ has, P.setE l = 0)) :
    Calls Tryz.prog 17 #[pval a1 a2 a3 c1 c2 c3 P, .slice ah has.length ch] w fun e w' => ∃ t x, e = .returned (.tuple #[.bool false, .iface t (.pointer (some x))]) ∧ SetsIs ad P has w' (.iface t (.pointer (some x))) ∧ Ext w w' := by
  obtain ⟨W1, hW1⟩ : ∃ W1, W1 = w.alloc (.cells (pcells a1 a2 a3 c1 c2 c3 P) 26) := ⟨_, rfl⟩
  have hx1 : Ext w W1 := by rw [hW1]; exact (Ext.refl _).alloc _
  obtain ⟨W, hW⟩ : ∃ W, W = W1.alloc (.cells #[.slice ah has.length ch] 27) := ⟨_, rfl⟩
  have hx2 : Ext W1 W := by rw [hW]; exact (Ext.refl _).alloc _
  have s1 : W1.heap.size = w.heap.size + 1 := by rw [hW1, heap_size_alloc]
  have HX := hid (hx1.trans hx2)
  have HBx : Hid (Blk W w.heap.size (pcells a1 a2 a3 c1 c2 c3 P) 26) := hid (by
    have : Blk W1 w.heap.size (pcells a1 a2 a3 c1 c2 c3 P) 26 := by rw [hW1]; exact Blk.new _ _ _
    exact this.ext hx2)
  have HBh : Hid (Blk W (w.heap.size + 1) #[.slice ah has.length ch] 27) := hid (by rw [← s1, hW]; exact Blk.new _ _ _)
  have HWe : Hid (W = (w.alloc (.cells #[.slice a1 P.vars.length c1, .slice a2 P.funs.length c2, .slice a3 P.stmts.length c3] 26)).alloc (.cells #[.slice ah has.length ch] 27)) := hid (by rw [hW, hW1]; rfl)
  have HK := hid (consedges_bad a1 a2 a3 c1 c2 c3 P (.slice ah has.length ch) has W n0 ad (h.ext HX.out) (hS.ext HX.out) (hh.ext HX.out) hbad)
  clear h hS hh hbad
  have d0 := (HBx.out.ext (Ext.refl W)).av 0 rfl
  have d1 := (HBx.out.ext (Ext.refl W)).av 1 rfl
  have d2 := (HBx.out.ext (Ext.refl W)).av 2 rfl
  have m0 := (HBh.out.ext (Ext.refl W)).av 0 rfl
  simp only [pcells, List.getElem_toArray, List.getElem_cons_zero, List.getElem_cons_succ] at d0 d1 d2 m0
  rw [HWe.out] at d0 d1 d2 m0
  unfold pval at HK ⊢
  clear hW1 hW hx1 hx2 s1
  go_enter Tryz.func17, Tryz.ntmps17
  go_wp2_with fail
  rw [← HWe.out]
  refine HK.out.mono ?_
  intro e w1 hx
  obtain ⟨t, x, rfl, hi, hx1⟩ := hx
  have Hi := hid hi
  have Hx1 := hid (HX.out.trans hx1)
  clear HK hx1 hi d0 d1 d2 m0
  go_wp2
  go_ret2
  exact ⟨t, x, rfl, Hi.out, Hx1.out⟩
end Go.Proofs.YtohfdecefikinaaGreatDoor


/- cons.Closed of a well program, with sets that are well. -/
namespace Go.Proofs.YtohfdecefikinaaGreatDoor
set_option linter.unusedSimpArgs false
set_option linter.unusedVariables false
open Go Go.RowKit

set_option maxRecDepth 100000 in
set_option maxHeartbeats 1600000 in
theorem consclosedc_any (g : Nat) (ah : Option Addr) (ch : Nat) (has : List (List Int)) (e : Int × Int) (w : World) (n0 : Nat) (hB : Blk w g #[.slice ah has.length ch] 27) (hh : SetsR w n0 (.slice ah has.length ch) has) (h1 : 0 ≤ e.1 ∧ e.1 < has.length) (h2 : 0 ≤ e.2 ∧ e.2 < has.length) :
    Calls Tryz.prog 46 (#[eVal e] ++ #[.pointer (some ⟨g, 0, none⟩)]) w fun r w' => r = .returned (.bool (!((has.getD e.1.toNat []).all fun n => decide (n ∈ has.getD e.2.toNat [])))) ∧ Ext w w' := by
  obtain ⟨a, b⟩ := e
  simp only at h1 h2 ⊢
  obtain ⟨A, rfl⟩ := Int.eq_ofNat_of_zero_le h1.1
  obtain ⟨B, rfl⟩ := Int.eq_ofNat_of_zero_le h2.1
  have hA : A < has.length := by omega
  have hB2 : B < has.length := by omega
  unfold eVal
  show Calls Tryz.prog 46 #[.agg #[.int .i64 (A : Int), .int .i64 (B : Int)], .pointer (some ⟨g, 0, none⟩)] w _
  obtain ⟨W, hW⟩ : ∃ W, W = w.alloc (.cells #[.int .i64 (A : Int), .int .i64 (B : Int)] 58) := ⟨_, rfl⟩
  have hx : Ext w W := by rw [hW]; exact (Ext.refl _).alloc _
  have hBe : Blk W w.heap.size #[.int .i64 (A : Int), .int .i64 (B : Int)] 58 := by rw [hW]; exact Blk.new _ _ _
  obtain ⟨y, l, bl, cl, rfl, hl, hc, hI⟩ := (hh.ext hx).at hA
  obtain ⟨y', m, bm, cm, hy', hm, hc', hI'⟩ := (hh.ext hx).at hB2
  obtain rfl := Option.some.inj hy'
  have HD1 : Hid (has.getD A [] = l) := hid (by rw [List.getD_eq_getElem?_getD, hl]; rfl)
  have HD2 : Hid (has.getD B [] = m) := hid (by rw [List.getD_eq_getElem?_getD, hm]; rfl)
  rw [Int.toNat_natCast, Int.toNat_natCast, HD1.out, HD2.out]
  have HC := fun w1 (x : Ext W w1) => hid (setwithin_any (.slice bl l.length cl) (.slice bm m.length cm) l m w1 n0 (hI.old (x.old n0)) (hI'.old (x.old n0)))
  obtain ⟨d, hd⟩ : ∃ d, d = (l.all fun n => decide (n ∈ m)) := ⟨_, rfl⟩
  rw [← hd] at HC ⊢
  have e0 := hBe.kc (X := fun _ => False) (fun e => e) 0 rfl
  have e1 := hBe.kc (X := fun _ => False) (fun e => e) 1 rfl
  have g0 := (hB.ext hx).kc (X := fun _ => False) (fun e => e) 0 rfl
  simp only [List.getElem_toArray, List.getElem_cons_zero, List.getElem_cons_succ] at e0 e1 g0
  have c0 : ∀ w1, Keep (fun _ => False) W w1 → w1.cell? (y.add A) = some (.slice bl l.length cl) := fun w1 k => k.ext.cellx hc
  have c1 : ∀ w1, Keep (fun _ => False) W w1 → w1.cell? (y.add B) = some (.slice bm m.length cm) := fun w1 k => k.ext.cellx hc'
  have HX := hid hx
  have HWe := hid hW
  have hhl := hh.len
  clear hd hl hm hc hc' hI hI' HD1 HD2 hBe hx hB hh hW h1 h2
  go_enter Tryz.func46, Tryz.ntmps46
  go_wp2
  rw [← HWe.out]
  refine wp_flowT (fun _ => False) (by kernel_rfl) (by kernel_rfl) ?_
  repeat (apply FlowT.d; (intro w1 hk; unfold does; go_simp; (try go_ints); (first | exact DetR.mk | (simp only [↓IntWalk.iteOmega, Oper.doesUpon_value]; exact DetR.mk) | (simp only [↓IntWalk.iteOmega]; go_simp; (try go_ints); exact DetR.mk))); simp only [Act.put, List.setIfInBounds_toArray, List.set_cons_zero, List.set_cons_succ])
  apply FlowT.d
  · intro w1 hk
    unfold does
    go_simp
    exact CallR.det ((HC w1 hk.ext).out)
  simp only [Act.put, List.setIfInBounds_toArray, List.set_cons_zero, List.set_cons_succ]
  repeat (apply FlowT.d; (intro w1 hk; unfold does; go_simp; (try go_ints); (first | exact DetR.mk | (simp only [↓IntWalk.iteOmega, Oper.doesUpon_value]; exact DetR.mk) | (simp only [↓IntWalk.iteOmega]; go_simp; (try go_ints); exact DetR.mk))); simp only [Act.put, List.setIfInBounds_toArray, List.set_cons_zero, List.set_cons_succ])
  refine FlowT.fin fun w2 hx2 hk2 => ?_
  have Hx2 := hid (HX.out.trans hx2)
  clear hx2 hk2 e0 e1 g0 c0 c1 HC
  go_wp2
  go_ret
  exact ⟨rfl, Hx2.out⟩
end Go.Proofs.YtohfdecefikinaaGreatDoor


/- cons.Closed of a well program, with sets that are well: the walk. -/
namespace Go.Proofs.YtohfdecefikinaaGreatDoor
set_option linter.unusedSimpArgs false
set_option linter.unusedVariables false
open Go Go.RowKit

theorem rule_a_in {P : PP} (hw : P.Well) {k : Nat} (hk : k < P.stmts.length) : 0 ≤ (P.ruleV k (P.stAt k)).a ∧ (P.ruleV k (P.stAt k)).a < P.vars.length := by
  have h0 := hw.2 k (P.stAt k) hk (stAt_some hk)
  have hg := PP.good h0
  obtain ⟨x, hx⟩ : ∃ x, x = P.stAt k := ⟨_, rfl⟩
  rw [← hx] at h0 hg ⊢
  unfold PP.ruleV
  cases h1 : x.isK kAddr with
  | true => exact hg.gx
  | false =>
    cases h2 : x.isK kNew with
    | true => exact hg.gx
    | false =>
      cases h3 : x.isK kFun with
      | true => exact hg.gx
      | false =>
        have hy := hg.yv h3 h2
        cases h4 : x.isK kCall with
        | true => exact hy
        | false => exact hy
theorem all_in {a b : List Int} : (a.all fun n => decide (n ∈ b)) = true ↔ ∀ n ∈ a, n ∈ b := by simp

set_option maxRecDepth 100000 in
set_option maxHeartbeats 3200000 in
theorem consclosed_ok (a1 a2 a3 : Option Addr) (c1 c2 c3 : Nat) (P : PP) (ah : Option Addr) (ch : Nat) (has : List (List Int)) (w : World) (n0 : Nat) (ad : Nat → Addr) (h : PW w n0 ad a1 a2 a3 c1 c2 c3 P) (hS : ErrS w ad) (hh : SetsR w n0 (.slice ah has.length ch) has)
    (hl : has.length = P.nodesV) (he : ∀ l ∈ has, P.setE l = 0) (hn0 : n0 ≤ w.heap.size) :
    Calls Tryz.prog 17 #[pval a1 a2 a3 c1 c2 c3 P, .slice ah has.length ch] w fun e w' => ∃ b, e = .returned (.tuple #[.bool b, .nilIface]) ∧ (b = true ↔ ClosedP P has) ∧ Ext w w' := by
  obtain ⟨hf1, hf2, hf3⟩ := h.well.few
  have hhl := hh.len
  obtain ⟨W1, hW1⟩ : ∃ W1, W1 = w.alloc (.cells (pcells a1 a2 a3 c1 c2 c3 P) 26) := ⟨_, rfl⟩
  have hx1 : Ext w W1 := by rw [hW1]; exact (Ext.refl _).alloc _
  obtain ⟨W, hW⟩ : ∃ W, W = W1.alloc (.cells #[.slice ah has.length ch] 27) := ⟨_, rfl⟩
  have hx2 : Ext W1 W := by rw [hW]; exact (Ext.refl _).alloc _
  have s1 : W1.heap.size = w.heap.size + 1 := by rw [hW1, heap_size_alloc]
  have HX := hid (hx1.trans hx2)
  have HBx : Hid (Blk W w.heap.size (pcells a1 a2 a3 c1 c2 c3 P) 26) := hid (by
    have : Blk W1 w.heap.size (pcells a1 a2 a3 c1 c2 c3 P) 26 := by rw [hW1]; exact Blk.new _ _ _
    exact this.ext hx2)
  have HBh : Hid (Blk W (w.heap.size + 1) #[.slice ah has.length ch] 27) := hid (by rw [← s1, hW]; exact Blk.new _ _ _)
  have HWe : Hid (W = (w.alloc (.cells #[.slice a1 P.vars.length c1, .slice a2 P.funs.length c2, .slice a3 P.stmts.length c3] 26)).alloc (.cells #[.slice ah has.length ch] 27)) := hid (by rw [hW, hW1]; rfl)
  have Hw := hid h.well
  have Hs := hid (SetsOk.of hl he)
  have Hl := hid hl
  have Hvn := hid (nodes_vars P)
  have HH := hid (hh.ext HX.out)
  have HK := hid (consedges_ok a1 a2 a3 c1 c2 c3 P (.slice ah has.length ch) has W n0 ad (h.ext HX.out) (hS.ext HX.out) (hh.ext HX.out) hl he (Nat.le_trans hn0 HX.out.size))
  have HO := fun w1 (x : Ext W w1) => hid (consof_yes a1 a2 a3 c1 c2 c3 P w1 n0 ad (h.ext (HX.out.trans x)))
  clear h hS hh hl he hn0
  have d0 := (HBx.out.ext (Ext.refl W)).av 0 rfl
  have d1 := (HBx.out.ext (Ext.refl W)).av 1 rfl
  have d2 := (HBx.out.ext (Ext.refl W)).av 2 rfl
  have m0 := (HBh.out.ext (Ext.refl W)).av 0 rfl
  simp only [pcells, List.getElem_toArray, List.getElem_cons_zero, List.getElem_cons_succ] at d0 d1 d2 m0
  rw [HWe.out] at d0 d1 d2 m0
  unfold pval at HK HO ⊢
  clear hW1 hW hx1 hx2 s1
  go_enter Tryz.func17, Tryz.ntmps17
  go_wp2_with fail
  rw [← HWe.out]
  refine HK.out.mono ?_
  intro e w1 hx
  obtain ⟨v, l, rfl, hr, hEA, hl5, hx1⟩ := hx
  unfold ERow at hr
  obtain ⟨av, cv, rfl⟩ := row_form hr
  have Hr := hid hr
  have HEA := hid hEA
  have Hx1 := hid hx1
  have HO1 := HO w1 hx1
  clear HK HO hr hEA hx1 d0 d1 d2 m0
  have d0 := (HBx.out.ext Hx1.out).av 0 rfl
  have d1 := (HBx.out.ext Hx1.out).av 1 rfl
  have d2 := (HBx.out.ext Hx1.out).av 2 rfl
  have m0 := (HBh.out.ext Hx1.out).av 0 rfl
  simp only [pcells, List.getElem_toArray, List.getElem_cons_zero, List.getElem_cons_succ] at d0 d1 d2 m0
  go_wp2_with fail
  refine HO1.out.mono ?_
  intro e w2 hx
  obtain ⟨v2, rs, rfl, hi, hx2⟩ := hx
  obtain ⟨bv, dv, rfl⟩ := row_form hi.row
  rw [show P.rulesV.length = P.stmts.length from P.rulesUp_len _] at hi ⊢
  have HI := hid hi
  have Hx2 := hid (Hx1.out.trans hx2)
  have Hr2 := hid (own_ext Hr.out hx2)
  clear HO1 hi hx2 d0 d1 d2 m0 Hr
  go_wp2
  go_loopw [30] (fun t30 wr => ∃ k : Nat, t30 = .int .i64 (k : Int) ∧ k ≤ P.stmts.length ∧ (∀ j, j < k → (P.ruleV j (P.stAt j)).kind.toList = bBase.toList → (P.ruleV j (P.stAt j)).b ∈ has.getD (P.ruleV j (P.stAt j)).a.toNat []) ∧ Ext w2 wr) (fun t30 _ => P.stmts.length - (intOf t30).toNat)
  case atStart => exact ⟨0, rfl, Nat.zero_le _, fun j h => by omega, Ext.refl _⟩
  case round =>
    obtain ⟨k, rfl, hk, hp, hx⟩ := hrel
    have Hp := hid hp
    have Hx := hid hx
    have HxW := hid (Hx2.out.trans hx)
    clear hp hx
    by_cases hlt : k < P.stmts.length
    · obtain ⟨g, cp, hge⟩ := own_some HI.out.row (by rw [show P.rulesV.length = P.stmts.length from P.rulesUp_len _]; omega)
      simp only [Value.slice.injEq] at hge
      obtain ⟨rfl, -, rfl⟩ := hge
      obtain ⟨x, hxk, hxr⟩ := rules_at HI.out.eq hlt
      have hrow := own_ext HI.out.row Hx.out
      rw [show P.rulesV.length = P.stmts.length from P.rulesUp_len _] at hrow
      obtain ⟨q0, q1, q2, q3, q4⟩ := own_r hrow hxk
      have hT := HI.out.args x (List.mem_of_getElem? hxk)
      obtain ⟨aa, ca, hav⟩ := hT.form
      obtain ⟨r, xv⟩ := x
      simp only at hav hxr q0 q1 q2 q3 q4 hT
      subst hav
      obtain ⟨V, hV⟩ : ∃ V, V = wr.alloc (.cells #[.string r.kind, .int .i64 r.a, .int .i64 r.b, .int .i64 r.k, .slice aa r.args.length ca] 46) := ⟨_, rfl⟩
      have hxV : Ext wr V := by rw [hV]; exact (Ext.refl _).alloc _
      have HVe := hid hV
      have HVx := hid (HxW.out.trans hxV)
      have HBr : Hid (Blk V wr.heap.size #[.string r.kind, .int .i64 r.a, .int .i64 r.b, .int .i64 r.k, .slice aa r.args.length ca] 46) := hid (by rw [hV]; exact Blk.new _ _ _)
      have hra := rule_a_in Hw.out hlt
      rw [← hxr] at hra
      have Hrr := hid hxr
      have m0 := HBr.out.kc (X := fun _ => False) (fun e => e) 0 rfl
      have m1 := HBr.out.kc (X := fun _ => False) (fun e => e) 1 rfl
      have m2 := HBr.out.kc (X := fun _ => False) (fun e => e) 2 rfl
      have g0 := (HBh.out.ext HVx.out).kc (X := fun _ => False) (fun e => e) 0 rfl
      simp only [List.getElem_toArray, List.getElem_cons_zero, List.getElem_cons_succ] at m0 m1 m2 g0
      have HrV := hid (Hx.out.trans hxV)
      have Hra := hid hra
      clear hV hxV hxk hxr hrow hT hra
      obtain ⟨A, hA⟩ := Int.eq_ofNat_of_zero_le Hra.out.1
      have hAl : A < has.length := by have := Hra.out.2; have := Hvn.out; have := Hl.out; omega
      obtain ⟨y, l1, bl, cl, hya, hl1, hc, hI1⟩ := (HH.out.ext HVx.out).at hAl
      subst hya
      have HD : Hid (has.getD r.a.toNat [] = l1) := hid (by rw [hA, Int.toNat_natCast, List.getD_eq_getElem?_getD, hl1]; rfl)
      have HC : ∀ w1, Ext V w1 → Hid (Calls Tryz.prog 44 #[.slice bl l1.length cl, .int .i64 r.b] w1 fun e w' => e = .returned (.bool (decide (r.b ∈ l1))) ∧ Ext w1 w') := fun w1 x => hid ((sethas_any (.slice bl l1.length cl) l1 r.b w1 n0 (hI1.old (x.old n0))).mono fun e w' ⟨h1, h2⟩ => ⟨h1, by rw [h2]; exact Ext.refl _⟩)
      have c0 : ∀ w1, Keep (fun _ => False) V w1 → w1.cell? (y.add A) = some (.slice bl l1.length cl) := fun w1 k => k.ext.cellx hc
      rw [hA] at q1 HVe m1
      clear hl1 hc hI1
      cases hkb : (r.kind.toList == [98, 97, 115, 101]) with
      | true =>
        have Hkb : Hid ((P.ruleV k (P.stAt k)).kind.toList = bBase.toList) := hid (by rw [← Hrr.out]; exact (eq_of_beq hkb).trans (eq_of_beq bBase_list).symm)
        obtain ⟨d, hd⟩ : ∃ d, d = decide (r.b ∈ l1) := ⟨_, rfl⟩
        rw [← hd] at HC
        have Hd := hid hd
        clear hd
        go_wp2
        rw [← HVe.out]
        refine wp_flowT (fun _ => False) (by kernel_rfl) (by kernel_rfl) ?_
        repeat (apply FlowT.d; (intro w1 hk; unfold does; go_simp; (try go_ints); (first | exact DetR.mk | (simp only [↓IntWalk.iteOmega, Oper.doesUpon_value]; exact DetR.mk) | (simp only [↓IntWalk.iteOmega]; go_simp; (try go_ints); exact DetR.mk))); simp only [Act.put, List.setIfInBounds_toArray, List.set_cons_zero, List.set_cons_succ])
        apply FlowT.d
        · intro w1 hk
          unfold does
          go_simp
          exact CallR.det ((HC w1 hk.ext).out)
        simp only [Act.put, List.setIfInBounds_toArray, List.set_cons_zero, List.set_cons_succ]
        repeat (apply FlowT.d; (intro w1 hk; unfold does; go_simp; (try go_ints); (first | exact DetR.mk | (simp only [↓IntWalk.iteOmega, Oper.doesUpon_value]; exact DetR.mk) | (simp only [↓IntWalk.iteOmega]; go_simp; (try go_ints); exact DetR.mk))); simp only [Act.put, List.setIfInBounds_toArray, List.set_cons_zero, List.set_cons_succ])
        refine FlowT.fin fun w3 hx3 hk3 => ?_
        have Hx3 := hid (HrV.out.trans hx3)
        have Hx3W := hid (HVx.out.trans hx3)
        clear hx3 hk3 m0 m1 m2 g0 c0 HC q0 q1 q2 q3 q4 hkb
        cases d with
        | false =>
          have Hno : Hid (¬ ClosedP P has) := hid fun hc => by
            have h1 := hc.base k hlt Hkb.out
            rw [← Hrr.out, HD.out] at h1
            exact (of_decide_eq_false Hd.out.symm) h1
          go_wp2
          go_ret2
          exact ⟨false, rfl, ⟨fun h => (by cases h), fun h => absurd h Hno.out⟩, HX.out.trans Hx3W.out⟩
        | true =>
          go_wp2
          go_roundw
          case rel =>
            refine ⟨k + 1, by go_num, by omega, fun j hj hb => ?_, Hx3.out⟩
            by_cases hjk : j = k
            · subst hjk
              rw [← Hrr.out, HD.out]
              exact of_decide_eq_true Hd.out.symm
            · exact Hp.out j (by omega) hb
          case measure => simp [intOf]; omega
      | false =>
        have Hkb : Hid ((P.ruleV k (P.stAt k)).kind.toList ≠ bBase.toList) := hid (by
          rw [← Hrr.out]
          intro h
          rw [h, bBase_list] at hkb
          cases hkb)
        go_wp2
        rw [← HVe.out]
        refine wp_flowT (fun _ => False) (by kernel_rfl) (by kernel_rfl) ?_
        repeat (apply FlowT.d; (intro w1 hk; unfold does; go_simp; (try go_ints); (first | exact DetR.mk | (simp only [↓IntWalk.iteOmega, Oper.doesUpon_value]; exact DetR.mk) | (simp only [↓IntWalk.iteOmega]; go_simp; (try go_ints); exact DetR.mk))); simp only [Act.put, List.setIfInBounds_toArray, List.set_cons_zero, List.set_cons_succ])
        refine FlowT.fin fun w3 hx3 hk3 => ?_
        have Hx3 := hid (HrV.out.trans hx3)
        clear hx3 hk3 m0 m1 m2 g0 c0 HC q0 q1 q2 q3 q4 hkb
        go_wp2
        go_roundw
        case rel =>
          refine ⟨k + 1, by go_num, by omega, fun j hj hb => ?_, Hx3.out⟩
          by_cases hjk : j = k
          · subst hjk
            exact absurd hb Hkb.out
          · exact Hp.out j (by omega) hb
        case measure => simp [intOf]; omega
    · obtain rfl : k = P.stmts.length := by omega
      have hin : ∀ e ∈ l, (0 ≤ e.1 ∧ e.1 < has.length) ∧ 0 ≤ e.2 ∧ e.2 < has.length := fun e he => by
        have hi := edges0_in Hw.out Hs.out e ((HEA.out.mem e).1 he).1
        unfold PP.InN at hi
        have := Hl.out
        omega
      have HC := hid (econtains_cl (.pointer (some ⟨w.heap.size + 1, 0, none⟩)) (fun e => !((has.getD e.1.toNat []).all fun n => decide (n ∈ has.getD e.2.toNat []))) (.slice av l.length cv) l wr W.heap.size (own_ext Hr2.out Hx.out) (by omega) (fun e w1 he x => consclosedc_any (w.heap.size + 1) ah ch has e w1 n0 (HBh.out.ext (HxW.out.trans x)) (HH.out.ext (HxW.out.trans x)) (hin e he).1 (hin e he).2))
      obtain ⟨d, hd⟩ : ∃ d, d = l.any (fun e => !((has.getD e.1.toNat []).all fun n => decide (n ∈ has.getD e.2.toNat []))) := ⟨_, rfl⟩
      rw [← hd] at HC
      have Hd : Hid ((!d) = true ↔ ClosedP P has) := hid (by
        rw [hd, Bool.not_eq_true', List.any_eq_false]
        constructor
        · intro h
          refine ⟨Hp.out, fun e he hne => ?_⟩
          have := h e ((HEA.out.mem e).2 ⟨he, hne⟩)
          rw [Bool.not_eq_true', Bool.not_eq_false] at this
          exact all_in.1 this
        · intro h e he
          rw [Bool.not_eq_true', Bool.not_eq_false]
          obtain ⟨h1, h2⟩ := (HEA.out.mem e).1 he
          exact all_in.2 (h.edge e h1 h2))
      clear hd hin
      go_wp2_with fail
      refine HC.out.mono ?_
      intro e w3 hx
      obtain ⟨rfl, hx3⟩ := hx
      have Hx3 := hid (HX.out.trans (HxW.out.trans hx3))
      clear HC hx3
      go_wp2
      go_ret2
      exact ⟨_, rfl, Hd.out, Hx3.out⟩
end Go.Proofs.YtohfdecefikinaaGreatDoor
