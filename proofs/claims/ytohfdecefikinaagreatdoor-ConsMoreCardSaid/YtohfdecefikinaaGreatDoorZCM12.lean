/- Texts of one proof, put together: UW UX W6 W1. -/
import Derived.Test.YtohfdecefikinaaGreatDoorZCM10
import Derived.Test.YtohfdecefikinaaGreatDoorZCM11

/- Runs: what a call does. -/
namespace Go.Proofs.YtohfdecefikinaaGreatDoor
set_option linter.unusedSimpArgs false
set_option linter.unusedVariables false
open Go Go.RowKit

end Go.Proofs.YtohfdecefikinaaGreatDoor


/- Runs: a call that is done. -/
namespace Go.Proofs.YtohfdecefikinaaGreatDoor
set_option linter.unusedSimpArgs false
set_option linter.unusedVariables false
open Go Go.RowKit

theorem Rn.give_len : ∀ (ps : List Int) (vs : List Vl) (s : Rn), (s.give ps vs).vars.length = s.vars.length
  | [], _, _ => rfl
  | _ :: _, [], _ => rfl
  | p :: ps, v :: vs, s => by
    have h := give_len ps vs (s.set p v)
    simp only [Rn.give]
    rw [h]
    simp [Rn.set]
theorem Rn.give_snoc : ∀ (ps : List Int) (vs : List Vl) (s : Rn) (k : Nat) (p : Int) (v : Vl), ps[k]? = some p → vs[k]? = some v → s.give (ps.take (k + 1)) (vs.take (k + 1)) = (s.give (ps.take k) (vs.take k)).set p v
  | [], _, _, _, _, _, h, _ => by simp at h
  | _ :: _, [], _, _, _, _, _, h => by simp at h
  | p :: ps, v :: vs, s, 0, q, u, h1, h2 => by
    simp at h1 h2
    subst h1 h2
    simp [Rn.give]
  | p :: ps, v :: vs, s, k + 1, q, u, h1, h2 => by
    simp only [List.getElem?_cons_succ] at h1 h2
    simp only [List.take_succ_cons, Rn.give]
    exact give_snoc ps vs (s.set p v) k q u h1 h2

theorem Rn.give_in {P : PP} (s : Rn) (hs : s.Ok P) (l : List Int) (ps : List Int) : (s.give ps (l.map s.at)).Ok P :=
  hs.give _ _ fun v hv => by
    obtain ⟨a, _, rfl⟩ := List.mem_map.1 hv
    exact hs.at a
theorem flat_snoc (l : List Vl) (u : Vl) : (l ++ [u]).flatMap Vl.cells = l.flatMap Vl.cells ++ Vl.cells u := by simp
end Go.Proofs.YtohfdecefikinaaGreatDoor


/- The reference's runs: a state in memory; statements that set one variable. -/
namespace Go.Proofs.YtohfdecefikinaaGreatDoor
set_option linter.unusedSimpArgs false
set_option linter.unusedVariables false
open Go Go.RowKit

end Go.Proofs.YtohfdecefikinaaGreatDoor


/- The reference's programs: variables, lists, names. -/
namespace Go.Proofs.YtohfdecefikinaaGreatDoor
set_option linter.unusedSimpArgs false
set_option linter.unusedVariables false
open Go Go.RowKit

theorem PP.inV_eq (P : PP) (n : Int) : P.inV n = (decide (0 ≤ n) && decide (n < P.vars.length)) := by
  unfold PP.inV
  by_cases h1 : n < 0
  · have h2 : ¬ 0 ≤ n := by omega
    simp [h1, h2]
  · by_cases h2 : n < P.vars.length
    · have h3 : 0 ≤ n := by omega
      have h4 : ¬ (P.vars.length : Int) ≤ n := by omega
      simp [h1, h2, h3, h4]
    · have h4 : (P.vars.length : Int) ≤ n := by omega
      simp [h2, h4]
set_option maxRecDepth 100000 in
set_option maxHeartbeats 1600000 in
theorem risvar_any (a1 a2 a3 : Option Addr) (c1 c2 c3 : Nat) (P : PP) (n : Int) (w : World) :
    Calls Tryz.prog 26 #[pval a1 a2 a3 c1 c2 c3 P, .int .i64 n] w fun e w' => e = .returned (.bool (P.inV n)) ∧ Ext w w' := by
  have Hr := hid (PP.inV_eq P n)
  unfold pval
  generalize P.funs.length = m2 at *
  generalize P.stmts.length = m3 at *
  generalize P.vars.length = m at *
  go_enter Tryz.func26, Tryz.ntmps26
  by_cases hn : 0 ≤ n
  · by_cases hm : n < m
    · go_wp2
      go_ret
      exact ⟨by rw [Hr.out, decide_eq_true hn, decide_eq_true hm]; rfl, (Ext.refl _).alloc _⟩
    · go_wp2
      go_ret
      exact ⟨by rw [Hr.out, decide_eq_true hn, decide_eq_false (show ¬ n < (m : Int) by omega)]; rfl, (Ext.refl _).alloc _⟩
  · go_wp2
    go_ret
    exact ⟨by rw [Hr.out, decide_eq_false (show ¬ 0 ≤ n by omega)]; rfl, (Ext.refl _).alloc _⟩

set_option maxRecDepth 100000 in
set_option maxHeartbeats 1600000 in
theorem rarevars_any (a1 a2 a3 : Option Addr) (c1 c2 c3 : Nat) (P : PP) (v : Value) (l : List Int) (w : World) (n0 : Nat) (h : IntsR w n0 v l) :
    Calls Tryz.prog 25 #[pval a1 a2 a3 c1 c2 c3 P, v] w fun e w' => e = .returned (.bool (P.allV l)) ∧ Ext w w' := by
  have HI := hid h
  obtain ⟨aa, ca, rfl, h2, h3, h4, h5⟩ := h
  have hml : (l.length : Int) ≤ 9223372036854775807 := by omega
  have H4 := hid h4
  have H5 := hid h5
  obtain ⟨W, hW⟩ : ∃ W, W = w.alloc (.cells (pcells a1 a2 a3 c1 c2 c3 P) 26) := ⟨_, rfl⟩
  have HX : Hid (Ext w W) := hid (by rw [hW]; exact (Ext.refl _).alloc _)
  have HB : Hid (Blk W w.heap.size (pcells a1 a2 a3 c1 c2 c3 P) 26) := hid (by rw [hW]; exact Blk.new _ _ _)
  have HV := fun n w1 => hid (risvar_any a1 a2 a3 c1 c2 c3 P n w1)
  unfold pval at HV ⊢
  unfold pcells at hW
  have HW := hid hW
  clear h2 h3 h4 h5 hW
  go_enter Tryz.func25, Tryz.ntmps25
  go_wp2
  rw [← HW.out]
  go_loopw [5] (fun t5 wr => ∃ k : Nat, t5 = .int .i64 (k : Int) ∧ k ≤ l.length ∧ (∀ j t, j < k → l[j]? = some t → P.inV t = true) ∧ Ext W wr) (fun t5 _ => l.length - (intOf t5).toNat)
  case atStart => exact ⟨0, rfl, Nat.zero_le _, fun j t h => by omega, Ext.refl _⟩
  case round =>
    obtain ⟨k, rfl, hk, hp, hx⟩ := hrel
    have Hp := hid hp
    have Hx := hid hx
    clear hp hx
    by_cases hlt : k < l.length
    · obtain ⟨y, rfl⟩ := H4.out (by omega)
      obtain ⟨q, hq⟩ : ∃ q, l[k]? = some q := ⟨_, List.getElem?_eq_getElem hlt⟩
      have hc := (HX.out.trans Hx.out).cellx ((H5.out y rfl (by omega)).2 k hlt q hq)
      have hcK : ∀ w1, Keep (fun _ => False) wr w1 → w1.cell? (y.add k) = some (.int .i64 q) := fun w1 k => k.ext.cellx hc
      have d0 := (HB.out.ext Hx.out).kc (X := fun _ => False) (fun e => e) 0 rfl
      have d1 := (HB.out.ext Hx.out).kc (X := fun _ => False) (fun e => e) 1 rfl
      have d2 := (HB.out.ext Hx.out).kc (X := fun _ => False) (fun e => e) 2 rfl
      simp only [pcells, List.getElem_toArray, List.getElem_cons_zero, List.getElem_cons_succ] at d0 d1 d2
      have Hq := hid hq
      clear hq hc
      go_wp2
      refine wp_flowT (fun _ => False) (by kernel_rfl) (by kernel_rfl) ?_
      repeat (apply FlowT.d; (intro w1 hk; unfold does; go_simp; (try go_ints); (first | exact DetR.mk | (simp only [↓IntWalk.iteOmega, Oper.doesUpon_value]; exact DetR.mk) | (simp only [↓IntWalk.iteOmega]; go_simp; (try go_ints); exact DetR.mk))); simp only [Act.put, List.setIfInBounds_toArray, List.set_cons_zero, List.set_cons_succ])
      apply FlowT.d
      · intro w1 hk
        unfold does
        go_simp
        exact CallR.det ((HV q w1).out)
      simp only [Act.put, List.setIfInBounds_toArray, List.set_cons_zero, List.set_cons_succ]
      repeat (apply FlowT.d; (intro w1 hk; unfold does; go_simp; (try go_ints); (first | exact DetR.mk | (simp only [↓IntWalk.iteOmega, Oper.doesUpon_value]; exact DetR.mk) | (simp only [↓IntWalk.iteOmega]; go_simp; (try go_ints); exact DetR.mk))); simp only [Act.put, List.setIfInBounds_toArray, List.set_cons_zero, List.set_cons_succ])
      refine FlowT.fin fun w2 hx2 hk2 => ?_
      have HX2 := hid (Hx.out.trans hx2)
      clear hx2 hk2 hcK d0 d1 d2
      cases hv : P.inV q with
      | true =>
        have Hv := hid hv
        clear hv
        go_wp2
        go_roundw
        case rel =>
          refine ⟨k + 1, by go_num, by omega, fun j t hj ht => ?_, HX2.out⟩
          by_cases hjk : j = k
          · subst hjk
            obtain rfl := Option.some.inj (Hq.out.symm.trans ht)
            exact Hv.out
          · exact Hp.out j t (by omega) ht
        case measure => simp [intOf]; omega
      | false =>
        have Hr := hid (show P.allV l = false from List.all_eq_false.2 ⟨q, List.mem_of_getElem? Hq.out, by rw [hv]; decide⟩)
        go_wp2
        go_ret
        exact ⟨by rw [Hr.out]; rfl, HX.out.trans HX2.out⟩
    · obtain rfl : k = l.length := by omega
      have Hr := hid (show P.allV l = true from List.all_eq_true.2 fun t ht => by
        obtain ⟨j, hj, e⟩ := List.mem_iff_getElem.1 ht
        exact Hp.out j t hj (by rw [List.getElem?_eq_getElem hj, e]))
      go_wp2
      go_ret
      exact ⟨by rw [Hr.out]; rfl, HX.out.trans Hx.out⟩

set_option maxRecDepth 100000 in
set_option maxHeartbeats 1600000 in
theorem rhas_any (v : Value) (l : List Int) (s : Int) (w : World) (n0 : Nat) (h : IntsR w n0 v l) :
    Calls Tryz.prog 27 #[v, .int .i64 s] w fun e w' => e = .returned (.bool (decide (s ∈ l))) ∧ w = w' := by
  obtain ⟨aa, ca, rfl, h2, h3, h4, h5⟩ := h
  have hml : (l.length : Int) ≤ 9223372036854775807 := by omega
  have H4 := hid h4
  have H5 := hid h5
  clear h2 h3 h4 h5
  go_enter Tryz.func27, Tryz.ntmps27
  go_wp2
  go_loop [5] (fun t5 => ∃ k : Nat, t5 = .int .i64 (k : Int) ∧ k ≤ l.length ∧ ∀ j t, j < k → l[j]? = some t → t ≠ s) (fun t5 => l.length - (intOf t5).toNat)
  case atStart => exact ⟨0, rfl, Nat.zero_le _, fun j t h => by omega⟩
  case round =>
    obtain ⟨k, rfl, hk, hp⟩ := hrel
    have Hp := hid hp
    clear hp
    by_cases hlt : k < l.length
    · obtain ⟨y, rfl⟩ := H4.out (by omega)
      obtain ⟨q, hq⟩ : ∃ q, l[k]? = some q := ⟨_, List.getElem?_eq_getElem hlt⟩
      have hc := (H5.out y rfl (by omega)).2 k hlt q hq
      have Hq := hid hq
      clear hq
      by_cases he : q = s
      · subst he
        have Hin := hid (List.mem_of_getElem? Hq.out)
        go_wp2
        go_ret
        exact ⟨by rw [decide_eq_true Hin.out]; rfl, rfl⟩
      · have He := hid he
        go_wp2
        refine ⟨⟨k + 1, by go_num, by omega, fun j t hj ht => ?_⟩, by simp [intOf]; omega⟩
        by_cases hjk : j = k
        · subst hjk
          obtain rfl := Option.some.inj (Hq.out.symm.trans ht)
          exact He.out
        · exact Hp.out j t (by omega) ht
    · obtain rfl : k = l.length := by omega
      have Hn := hid (show ¬ s ∈ l from fun ht => by
        obtain ⟨j, hj, e⟩ := List.mem_iff_getElem.1 ht
        exact Hp.out j s hj (by rw [List.getElem?_eq_getElem hj, e]) rfl)
      go_wp2
      go_ret
      exact ⟨by rw [decide_eq_false Hn.out]; rfl, rfl⟩

theorem eqB_comm (s t : ByteArray) : eqB s t = (t.toList == s.toList) := by
  unfold eqB
  rw [Bool.eq_iff_iff, beq_iff_eq, beq_iff_eq]
  exact ⟨fun h => h.symm, fun h => h.symm⟩
set_option maxRecDepth 100000 in
set_option maxHeartbeats 1600000 in
theorem rhastext_any (v : Value) (l : List ByteArray) (s : ByteArray) (w : World) (n0 : Nat) (h : StrsR w n0 v l) :
    Calls Tryz.prog 54 #[v, .string s] w fun e w' => e = .returned (.bool (memB s l)) ∧ w = w' := by
  obtain ⟨aa, ca, rfl, h2, h3, h4, h5⟩ := h
  have hml : (l.length : Int) ≤ 9223372036854775807 := by omega
  have H4 := hid h4
  have H5 := hid h5
  clear h2 h3 h4 h5
  go_enter Tryz.func54, Tryz.ntmps54
  go_wp2
  go_loop [5] (fun t5 => ∃ k : Nat, t5 = .int .i64 (k : Int) ∧ k ≤ l.length ∧ ∀ j t, j < k → l[j]? = some t → eqB s t = false) (fun t5 => l.length - (intOf t5).toNat)
  case atStart => exact ⟨0, rfl, Nat.zero_le _, fun j t h => by omega⟩
  case round =>
    obtain ⟨k, rfl, hk, hp⟩ := hrel
    have Hp := hid hp
    clear hp
    by_cases hlt : k < l.length
    · obtain ⟨y, rfl⟩ := H4.out (by omega)
      obtain ⟨q, hq⟩ : ∃ q, l[k]? = some q := ⟨_, List.getElem?_eq_getElem hlt⟩
      have hc := (H5.out y rfl (by omega)).2 k hlt q hq
      have Hq := hid hq
      clear hq
      cases he : eqB s q with
      | true =>
        have Hin := hid (show memB s l = true from List.any_eq_true.2 ⟨q, List.mem_of_getElem? Hq.out, he⟩)
        rw [eqB_comm] at he
        go_wp2
        go_ret
        exact ⟨by rw [Hin.out]; rfl, rfl⟩
      | false =>
        have He := hid he
        rw [eqB_comm] at he
        go_wp2
        refine ⟨⟨k + 1, by go_num, by omega, fun j t hj ht => ?_⟩, by simp [intOf]; omega⟩
        by_cases hjk : j = k
        · subst hjk
          obtain rfl := Option.some.inj (Hq.out.symm.trans ht)
          exact He.out
        · exact Hp.out j t (by omega) ht
    · obtain rfl : k = l.length := by omega
      have Hn := hid (show memB s l = false from List.any_eq_false.2 fun t ht => by
        obtain ⟨j, hj, e⟩ := List.mem_iff_getElem.1 ht
        rw [Hp.out j t hj (by rw [List.getElem?_eq_getElem hj, e])]
        decide)
      go_wp2
      go_ret
      exact ⟨by rw [Hn.out]; rfl, rfl⟩
end Go.Proofs.YtohfdecefikinaaGreatDoor
