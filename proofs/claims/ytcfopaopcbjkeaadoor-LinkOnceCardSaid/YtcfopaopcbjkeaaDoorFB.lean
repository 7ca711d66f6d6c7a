
/- The frame's laws: what they use of their own. -/
import Derived.Test.YtcfopaopcbjkeaaDoorFA
namespace Go.Proofs.YtcfopaopcbjkeaaDoor
set_option linter.unusedSimpArgs false
set_option linter.unusedVariables false
open Go Go.RowKit

theorem ret_bool {b c : Bool} (h : b = c) : Ending.returned (.bool b) = Ending.returned (.bool c) := by rw [h]
theorem IRow.nilSrc {base : Nat} {w : World} {v : Value} {l : List Int} (h : IRow base w v l) (ty : TypeId) (c : Nat) : (Builtin.append_ #[22, 22] ty #[v, .slice none 0 c]).run Tryd.prog w = .ok v w := by
  obtain ⟨ti, hi, hz0, hz1, hz2⟩ := info_parts ints_info
  rcases h.2 with ⟨h2, h3⟩ | ⟨g, cap, cur, h2, _, _, hnc, _⟩
  · subst h2
    simp [Builtin.append_, run_underlying Tryd.underlying22, sizeOf, typeInfo, hi, Builtin.lenOf, Builtin.firstCells]
  · subst h2
    simp [Builtin.append_, run_underlying Tryd.underlying22, sizeOf, typeInfo, hi, Builtin.lenOf, Builtin.firstCells, hnc, storeCells]
theorem IRow.base {base b2 : Nat} {w : World} {v : Value} {l : List Int} (h : IRow base w v l) (hb : b2 ≤ base) : IRow b2 w v l := by
  obtain ⟨h1, h2⟩ := h
  refine ⟨h1, h2.imp id ?_⟩
  rintro ⟨g, cap, cur, rfl, hg, h3⟩
  exact ⟨g, cap, cur, rfl, Nat.le_trans hb hg, h3⟩
/-- append of a slice of ints, wherever it lies. -/
theorem run_append_ints (w : World) (base : Nat) (hbase : base ≤ w.heap.size) (ty : TypeId) (v : Value) (l : List Int) (hown : IRow base w v l) (a : Option Addr) (m c : Nat) (vs : List Int) (hr : Ints w a m vs) (hl : l.length + m ≤ 1000000) :
    ∃ v' w', (Builtin.append_ #[22, 22] ty #[v, .slice a m c]).run Tryd.prog w = .ok v' w' ∧ IRow base w' v' (l ++ vs) ∧ w.grownBy w' v.ownBlock := by
  have hlen := hr.ln
  rcases a with _ | ad
  · have hm : m = 0 := by
      rcases Nat.eq_zero_or_pos m with h0 | h0
      · exact h0
      · obtain ⟨x, hx⟩ := hr.sm h0; cases hx
    subst hm
    obtain rfl : vs = [] := List.eq_nil_of_length_eq_zero hlen
    exact ⟨v, w, hown.nilSrc ty c, by simpa using hown, World.grownBy.refl w _⟩
  · obtain ⟨ti, hi, hz0, hz1, hz2⟩ := info_parts ints_info
    obtain ⟨v', w', h1, h2, h3, _⟩ := run_append_own (P := Tryd.prog) w base 22 ty 3 ti (.int .i64 0) 1 8 Tryd.underlying22 hi hz0 hz1 hz2 rfl (by omega) v l.length (icells l) hown ad m c (icells vs) (by simp [icells, hlen]) (fun j u hu => by
      simp only [icells, List.getElem?_map] at hu
      have hj : j < vs.length := by
        rcases Nat.lt_or_ge j vs.length with h | h
        · exact h
        · rw [List.getElem?_eq_none h] at hu; cases hu
      rw [hr.cl ad rfl j (by omega), List.getD_eq_getElem?_getD, List.getElem?_eq_getElem hj]
      rw [List.getElem?_eq_getElem hj] at hu
      exact hu) icells_one (by simp only [maxLen]; omega) (by omega) hbase
    refine ⟨v', w', h1, ?_, h3⟩
    unfold IRow
    rw [List.length_append, icells_append, hlen]
    exact h2
theorem wpList_append_ints {ops : Array Oper} {Q : Exit → Act → World → Prop} {rest : List Oper} {o : Oper} {a : Act} {w : World} (base : Nat) (hbase : base ≤ w.heap.size) (hg : o.guard = none) (s x : Operand)
    (ho : o.op = .call { callee := .builtin .append, args := #[s, x], argTypes := #[22, 22] })
    (v : Value) (l : List Int) (hs : a.eval s = v) (hown : IRow base w v l) (ad : Option Addr) (m c : Nat) (vs : List Int) (hx : a.eval x = .slice ad m c) (hr : Ints w ad m vs) (hl : l.length + m ≤ 1000000)
    (h : ∀ v' w', IRow base w' v' (l ++ vs) → w.grownBy w' v.ownBlock → wpList Tryd.prog ops Q rest (a.put o.dst v') w') : wpList Tryd.prog ops Q (o :: rest) a w := by
  obtain ⟨v', w', hr, h2, h3⟩ := run_append_ints w base hbase o.type v l hown ad m c vs hr hl
  refine wpList_plain hg fun K hK => ?_
  unfold Oper.wp
  rw [run_exec_append s x 22 ho hs hx hr]
  exact hK _ _ (h v' w' h2 h3)

set_option maxRecDepth 100000 in
set_option maxHeartbeats 800000 in
theorem ownints_any (a : Option Addr) (n cap : Nat) (vs : List Int) (w : World) (hr : Ints w a n vs) (hl : n ≤ 1000) :
    Calls Tryd.prog 34 #[.slice a n cap] w fun e w' => ∃ v, e = .returned v ∧ Ext w w' ∧ IRow w.heap.size w' v vs := by
  have Hr := hid hr
  have hl2 : ([] : List Int).length + n ≤ 1000000 := by simp; omega
  clear hr
  go_enter Tryd.func34, Tryd.ntmps34
  go_wp2_with (at_builtin; refine wpList_append_ints w.heap.size (Nat.le_refl _) rfl _ _ rfl _ [] rfl (IRow.nil _ _) a n cap vs rfl Hr.out hl2 ?_; intro v' w' h1 h2; have h3 := Keep.new (Ext.refl w) (grown_keep h2) (fun k hk => by cases hk))
  go_ret
  exact ⟨_, rfl, h3, h1⟩

set_option maxRecDepth 100000 in
set_option maxHeartbeats 1600000 in
theorem sameints_any (a b : Option Addr) (n m cap cap2 : Nat) (vs us : List Int) (w : World) (hr : Ints w a n vs) (hr2 : Ints w b m us) (hl : (n : Int) ≤ 9223372036854775807) (hl2 : (m : Int) ≤ 9223372036854775807) :
    Calls Tryd.prog 16 #[.slice a n cap, .slice b m cap2] w fun e w' => e = .returned (.bool (decide (vs = us))) ∧ Ext w w' := by
  have Hr := hid hr
  have Hr2 := hid hr2
  clear hr hr2
  by_cases hnm : n = m
  · subst hnm
    go_enter Tryd.func16, Tryd.ntmps16
    go_wp2
    go_loopw [5] (fun t5 wr => ∃ k : Nat, t5 = .int .i64 (k : Int) ∧ k ≤ n ∧ (∀ j, j < k → vs.getD j 0 = us.getD j 0) ∧ Ext w wr) (fun t5 _ => n - (intOf t5).toNat)
    case atStart => exact ⟨0, rfl, Nat.zero_le _, fun j h => by omega, Ext.refl _⟩
    case round =>
      obtain ⟨k, rfl, hk, hne, hx⟩ := hrel
      have Hne := hid hne
      clear hne
      by_cases hlt : k < n
      · obtain ⟨x, rfl⟩ := Hr.out.sm (by omega)
        obtain ⟨y, rfl⟩ := Hr2.out.sm (by omega)
        have hc : ∀ w1, Keep (fun _ => False) wr w1 → w1.cell? (x.add k) = some (.int .i64 (vs.getD k 0)) := fun w1 hk => hk.cellx (hx.cellx (Hr.out.cl x rfl k hlt)) (fun h => h)
        have hd : ∀ w1, Keep (fun _ => False) wr w1 → w1.cell? (y.add k) = some (.int .i64 (us.getD k 0)) := fun w1 hk => hk.cellx (hx.cellx (Hr2.out.cl y rfl k hlt)) (fun h => h)
        have Heq : Hid (vs.getD k 0 ≠ us.getD k 0 → decide (vs = us) = false) := hid fun h => decide_eq_false fun e => h (by rw [e])
        obtain ⟨p, hp⟩ : ∃ p, p = vs.getD k 0 := ⟨_, rfl⟩
        obtain ⟨q, hq⟩ : ∃ q, q = us.getD k 0 := ⟨_, rfl⟩
        rw [← hp] at hc Heq
        rw [← hq] at hd Heq
        have Hp := hid hp
        have Hq := hid hq
        clear hp hq
        by_cases hpq : p = q
        · subst hpq
          go_wp2
          refine wp_flowT (fun _ => False) (by kernel_rfl) (by kernel_rfl) ?_
          repeat (apply FlowT.d; (intro w1 hk; unfold does; go_simp; (try go_ints); (first | exact DetR.mk | (simp only [↓IntWalk.iteOmega, Oper.doesUpon_value]; exact DetR.mk) | (simp only [↓IntWalk.iteOmega]; go_simp; (try go_ints); exact DetR.mk))); simp only [Act.put, List.setIfInBounds_toArray, List.set_cons_zero, List.set_cons_succ])
          refine FlowT.fin fun w1 hxx hk => ?_
          have hxx2 := hx.trans hxx
          clear hk hc hd hx hxx Heq
          go_wp2
          go_roundw
          case rel => exact ⟨k + 1, by go_num, by omega, fun j hj => by
            by_cases hjk : j = k
            · subst hjk; rw [← Hp.out, ← Hq.out]
            · exact Hne.out j (by omega), hxx2⟩
          case measure => simp [intOf]; omega
        · have Hpq := hid (Heq.out hpq)
          clear Heq
          go_wp2
          refine wp_flowT (fun _ => False) (by kernel_rfl) (by kernel_rfl) ?_
          repeat (apply FlowT.d; (intro w1 hk; unfold does; go_simp; (try go_ints); (first | exact DetR.mk | (simp only [↓IntWalk.iteOmega, Oper.doesUpon_value]; exact DetR.mk) | (simp only [↓IntWalk.iteOmega]; go_simp; (try go_ints); exact DetR.mk))); simp only [Act.put, List.setIfInBounds_toArray, List.set_cons_zero, List.set_cons_succ])
          refine FlowT.fin fun w1 hxx hk => ?_
          have hxx2 := hx.trans hxx
          clear hk hc hd hx hxx
          go_wp2
          go_ret
          exact ⟨ret_bool Hpq.out.symm, hxx2⟩
      · obtain rfl : k = n := by omega
        have hyes : decide (vs = us) = true := decide_eq_true (List.ext_getElem (by rw [Hr.out.ln, Hr2.out.ln]) fun i h1 h2 => by
          have := Hne.out i (by have := Hr.out.ln; omega)
          simpa [List.getD_eq_getElem?_getD, List.getElem?_eq_getElem h1, List.getElem?_eq_getElem h2] using this)
        have Hyes := hid hyes
        clear hyes
        go_wp2
        go_ret
        exact ⟨ret_bool Hyes.out.symm, hx⟩
  · have Hno := hid (decide_eq_false (p := vs = us) fun e => hnm (by rw [← Hr.out.ln, ← Hr2.out.ln, e]))
    have hi : ¬ (n : Int) = (m : Int) := by omega
    go_enter Tryd.func16, Tryd.ntmps16
    go_wp2
    go_ret
    exact ⟨ret_bool Hno.out.symm, Ext.refl _⟩

set_option maxRecDepth 100000 in
set_option maxHeartbeats 1600000 in
theorem asframe_any (f : Fr) (a : Option Addr) (cap : Nat) (w : World) (hr : Ints w a f.nums.length f.nums) (hl : f.nums.length ≤ 1000) :
    Calls Tryd.prog 42 #[frv f a cap] w fun e w' => ∃ a' cap', e = .returned (frv f a' cap') ∧ IRow w.heap.size w' (.slice a' f.nums.length cap') f.nums ∧ Ext w w' := by
  obtain ⟨kind, fr, to, seq, nums⟩ := f
  simp only at hr hl
  have HO := fun w1 (x : Ext w w1) => hid (ownints_any a nums.length cap nums w1 (hr.ext x) hl)
  clear hr hl
  unfold frv
  simp only
  go_enter Tryd.func42, Tryd.ntmps42
  go_wp2
  obtain ⟨W, hW⟩ : ∃ W, W = (w.alloc (Obj.cells #[Value.int .u8 (kind.toNat : Int), .int .i64 fr, .int .i64 to, .int .i64 seq, .slice a nums.length cap] 73)).alloc (.cells #[.int .u8 0, .int .i64 0, .int .i64 0, .int .i64 0, .slice none 0 0] 34) := ⟨_, rfl⟩
  have xW : Ext w W := by rw [hW]; exact ((Ext.refl w).alloc _).alloc _
  have bA : Blk W w.heap.size #[Value.int .u8 (kind.toNat : Int), .int .i64 fr, .int .i64 to, .int .i64 seq, .slice a nums.length cap] 73 := by rw [hW]; exact (Blk.new _ _ _).alloc _
  have bT : Blk W (w.heap.size + 1) frz 34 := by
    rw [hW]
    have := Blk.new (w.alloc (Obj.cells #[Value.int .u8 (kind.toNat : Int), .int .i64 fr, .int .i64 to, .int .i64 seq, .slice a nums.length cap] 73)) frz 34
    rwa [heap_size_alloc] at this
  rw [← hW]
  clear hW
  have d0 := bA.kc (X := fun _ => False) (fun e => e) 0 rfl
  have d1 := bA.kc (X := fun _ => False) (fun e => e) 1 rfl
  have d2 := bA.kc (X := fun _ => False) (fun e => e) 2 rfl
  have d3 := bA.kc (X := fun _ => False) (fun e => e) 3 rfl
  have d4 := bA.kc (X := fun _ => False) (fun e => e) 4 rfl
  refine wp_flowT (fun _ => False) (by kernel_rfl) (by kernel_rfl) ?_
  repeat (apply FlowT.d; (intro w1 hk; unfold does; go_simp; (try go_ints); (first | exact DetR.mk | (simp only [↓IntWalk.iteOmega, Oper.doesUpon_value]; exact DetR.mk) | (simp only [↓IntWalk.iteOmega]; go_simp; (try go_ints); exact DetR.mk))); simp only [Act.put, List.setIfInBounds_toArray, List.set_cons_zero, List.set_cons_succ])
  refine FlowT.s (fun v w' => IRow W.heap.size w' v nums ∧ Ext W w') 10 rfl (by kernel_rfl) (fun _ _ _ ⟨h1, h2⟩ x => ⟨h1.ext x, h2.trans x⟩) (fun w1 hC hk => ?_) ?_
  · unfold does
    go_simp
    refine CallR.act ((HO w1 (xW.trans hC)).out.mono ?_)
    rintro e w2 ⟨v, rfl, hx, hI⟩
    exact ⟨v, rfl, (hC.trans hx).keep _, hI.base hC.size, hC.trans hx⟩
  rintro v ⟨_, hI, _⟩
  obtain ⟨a', cap', rfl⟩ := hI.form
  clear hI
  simp only [Act.put, List.setIfInBounds_toArray, List.set_cons_zero, List.set_cons_succ]
  repeat (apply FlowT.d; (intro w1 hk; unfold does; go_simp; (try go_ints); (first | exact DetR.mk | (simp only [↓IntWalk.iteOmega, Oper.doesUpon_value]; exact DetR.mk) | (simp only [↓IntWalk.iteOmega]; go_simp; (try go_ints); exact DetR.mk))); simp only [Act.put, List.setIfInBounds_toArray, List.set_cons_zero, List.set_cons_succ])
  refine FlowT.last (fun _ w' => Blk w' (w.heap.size + 1) #[Value.int .u8 (kind.toNat : Int), .int .i64 fr, .int .i64 to, .int .i64 seq, .slice a' nums.length cap'] 34 ∧ IRow w.heap.size w' (.slice a' nums.length cap') nums ∧ Ext w w') 12 rfl (by kernel_rfl) (by kernel_rfl) (fun w1 hC hk => ?_) (fun _ w2 hR => ?_)
  · obtain ⟨hI, hx⟩ := hC
    have hB := bT.ext hx
    have c0 := hB.av 0 rfl
    have c1 := hB.av 1 rfl
    have c2 := hB.av 2 rfl
    have c3 := hB.av 3 rfl
    have c4 := hB.av 4 rfl
    have f0 := hB.free
    unfold does
    go_simp
    have hlt := bT.lt
    refine ⟨store5 hB, (hI.keep (store5_keep _ _ _ _ _ _ _) fun b hb e => by have := (hI.lt hb).1; omega).base xW.size, Keep.new (xW.trans hx) (store5_keep _ _ _ _ _ _ _) (fun b hb => by omega)⟩
  obtain ⟨hB, hI, hx⟩ := hR
  simp only [Act.put]
  go_wp2
  exact bodyPost_ret (v := frv ⟨kind, fr, to, seq, nums⟩ a' cap') (by simp [results, Tryd.results42, go_sem, hB.av 0 rfl, hB.av 1 rfl, hB.av 2 rfl, hB.av 3 rfl, hB.av 4 rfl]; rfl) rfl ⟨a', cap', rfl, hI, hx⟩
end Go.Proofs.YtcfopaopcbjkeaaDoor
