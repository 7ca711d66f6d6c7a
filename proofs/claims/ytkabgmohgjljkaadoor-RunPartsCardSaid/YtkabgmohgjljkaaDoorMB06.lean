/- Texts of one proof, put together: FB MP L1 LM L2. -/
import Derived.Test.YtkabgmohgjljkaaDoorMB01
import Derived.Test.YtkabgmohgjljkaaDoorMB03
import Derived.Test.YtkabgmohgjljkaaDoorMB05
import Derived.MapKept
import Derived.Maps.OwnSet
import Derived.Lib.SliceRun
import Derived.Carry

/- The frame's laws: what they use of their own. -/
namespace Go.Proofs.YtkabgmohgjljkaaDoor
set_option linter.unusedSimpArgs false
set_option linter.unusedVariables false
open Go Go.RowKit

theorem ret_bool {b c : Bool} (h : b = c) : Ending.returned (.bool b) = Ending.returned (.bool c) := by rw [h]
theorem IRow.nilSrc {base : Nat} {w : World} {v : Value} {l : List Int} (h : IRow base w v l) (ty : TypeId) (c : Nat) : (Builtin.append_ #[43, 43] ty #[v, .slice none 0 c]).run Tryd.prog w = .ok v w := by
  obtain ⟨ti, hi, hz0, hz1, hz2⟩ := info_parts ints_info
  rcases h.2 with ⟨h2, h3⟩ | ⟨g, cap, cur, h2, _, _, hnc, _⟩
  · subst h2
    simp [Builtin.append_, run_underlying Tryd.underlying43, sizeOf, typeInfo, hi, Builtin.lenOf, Builtin.firstCells]
  · subst h2
    simp [Builtin.append_, run_underlying Tryd.underlying43, sizeOf, typeInfo, hi, Builtin.lenOf, Builtin.firstCells, hnc, storeCells]
theorem IRow.base {base b2 : Nat} {w : World} {v : Value} {l : List Int} (h : IRow base w v l) (hb : b2 ≤ base) : IRow b2 w v l := by
  obtain ⟨h1, h2⟩ := h
  refine ⟨h1, h2.imp id ?_⟩
  rintro ⟨g, cap, cur, rfl, hg, h3⟩
  exact ⟨g, cap, cur, rfl, Nat.le_trans hb hg, h3⟩
/-- append of a slice of ints, wherever it lies. -/
theorem run_append_ints (w : World) (base : Nat) (hbase : base ≤ w.heap.size) (ty : TypeId) (v : Value) (l : List Int) (hown : IRow base w v l) (a : Option Addr) (m c : Nat) (vs : List Int) (hr : Ints w a m vs) (hl : l.length + m ≤ 1000000) :
    ∃ v' w', (Builtin.append_ #[43, 43] ty #[v, .slice a m c]).run Tryd.prog w = .ok v' w' ∧ IRow base w' v' (l ++ vs) ∧ w.grownBy w' v.ownBlock := by
  have hlen := hr.ln
  rcases a with _ | ad
  · have hm : m = 0 := by
      rcases Nat.eq_zero_or_pos m with h0 | h0
      · exact h0
      · obtain ⟨x, hx⟩ := hr.sm h0; cases hx
    subst hm
    obtain rfl : vs = [] := List.eq_nil_of_length_eq_zero hlen
    exact ⟨v, w, hown.nilSrc ty c, by simpa using hown, World.grownBy.refl w _⟩
  · obtain ⟨ti, hi, hz0, hz1, hz2⟩ := info_parts ints_info
    obtain ⟨v', w', h1, h2, h3, _⟩ := run_append_own (P := Tryd.prog) w base 43 ty 3 ti (.int .i64 0) 1 8 Tryd.underlying43 hi hz0 hz1 hz2 rfl (by omega) v l.length (icells l) hown ad m c (icells vs) (by simp [icells, hlen]) (fun j u hu => by
      simp only [icells, List.getElem?_map] at hu
      have hj : j < vs.length := by
        rcases Nat.lt_or_ge j vs.length with h | h
        · exact h
        · rw [List.getElem?_eq_none h] at hu; cases hu
      rw [hr.cl ad rfl j (by omega), List.getD_eq_getElem?_getD, List.getElem?_eq_getElem hj]
      rw [List.getElem?_eq_getElem hj] at hu
      exact hu) icells_one (by simp only [maxLen]; omega) (by omega) hbase
    refine ⟨v', w', h1, ?_, h3⟩
    unfold IRow
    rw [List.length_append, icells_append, hlen]
    exact h2
theorem wpList_append_ints {ops : Array Oper} {Q : Exit → Act → World → Prop} {rest : List Oper} {o : Oper} {a : Act} {w : World} (base : Nat) (hbase : base ≤ w.heap.size) (hg : o.guard = none) (s x : Operand)
    (ho : o.op = .call { callee := .builtin .append, args := #[s, x], argTypes := #[43, 43] })
    (v : Value) (l : List Int) (hs : a.eval s = v) (hown : IRow base w v l) (ad : Option Addr) (m c : Nat) (vs : List Int) (hx : a.eval x = .slice ad m c) (hr : Ints w ad m vs) (hl : l.length + m ≤ 1000000)
    (h : ∀ v' w', IRow base w' v' (l ++ vs) → w.grownBy w' v.ownBlock → wpList Tryd.prog ops Q rest (a.put o.dst v') w') : wpList Tryd.prog ops Q (o :: rest) a w := by
  obtain ⟨v', w', hr, h2, h3⟩ := run_append_ints w base hbase o.type v l hown ad m c vs hr hl
  refine wpList_plain hg fun K hK => ?_
  unfold Oper.wp
  rw [run_exec_append s x 43 ho hs hx hr]
  exact hK _ _ (h v' w' h2 h3)

set_option maxRecDepth 100000 in
set_option maxHeartbeats 800000 in
theorem ownints_any (a : Option Addr) (n cap : Nat) (vs : List Int) (w : World) (hr : Ints w a n vs) (hl : n ≤ 1000) :
    Calls Tryd.prog 12 #[.slice a n cap] w fun e w' => ∃ v, e = .returned v ∧ Ext w w' ∧ IRow w.heap.size w' v vs := by
  have Hr := hid hr
  have hl2 : ([] : List Int).length + n ≤ 1000000 := by simp; omega
  clear hr
  go_enter Tryd.func12, Tryd.ntmps12
  go_wp2_with (at_builtin; refine wpList_append_ints w.heap.size (Nat.le_refl _) rfl _ _ rfl _ [] rfl (IRow.nil _ _) a n cap vs rfl Hr.out hl2 ?_; intro v' w' h1 h2; have h3 := Keep.new (Ext.refl w) (grown_keep h2) (fun k hk => by cases hk))
  go_ret
  exact ⟨_, rfl, h3, h1⟩

set_option maxRecDepth 100000 in
set_option maxHeartbeats 1600000 in
theorem sameints_any (a b : Option Addr) (n m cap cap2 : Nat) (vs us : List Int) (w : World) (hr : Ints w a n vs) (hr2 : Ints w b m us) (hl : (n : Int) ≤ 9223372036854775807) (hl2 : (m : Int) ≤ 9223372036854775807) :
    Calls Tryd.prog 31 #[.slice a n cap, .slice b m cap2] w fun e w' => e = .returned (.bool (decide (vs = us))) ∧ Ext w w' := by
  have Hr := hid hr
  have Hr2 := hid hr2
  clear hr hr2
  by_cases hnm : n = m
  · subst hnm
    go_enter Tryd.func31, Tryd.ntmps31
    go_wp2
    go_loopw [5] (fun t5 wr => ∃ k : Nat, t5 = .int .i64 (k : Int) ∧ k ≤ n ∧ (∀ j, j < k → vs.getD j 0 = us.getD j 0) ∧ Ext w wr) (fun t5 _ => n - (intOf t5).toNat)
    case atStart => exact ⟨0, rfl, Nat.zero_le _, fun j h => by omega, Ext.refl _⟩
    case round =>
      obtain ⟨k, rfl, hk, hne, hx⟩ := hrel
      have Hne := hid hne
      clear hne
      by_cases hlt : k < n
      · obtain ⟨x, rfl⟩ := Hr.out.sm (by omega)
        obtain ⟨y, rfl⟩ := Hr2.out.sm (by omega)
        have hc : ∀ w1, Keep (fun _ => False) wr w1 → w1.cell? (x.add k) = some (.int .i64 (vs.getD k 0)) := fun w1 hk => hk.cellx (hx.cellx (Hr.out.cl x rfl k hlt)) (fun h => h)
        have hd : ∀ w1, Keep (fun _ => False) wr w1 → w1.cell? (y.add k) = some (.int .i64 (us.getD k 0)) := fun w1 hk => hk.cellx (hx.cellx (Hr2.out.cl y rfl k hlt)) (fun h => h)
        have Heq : Hid (vs.getD k 0 ≠ us.getD k 0 → decide (vs = us) = false) := hid fun h => decide_eq_false fun e => h (by rw [e])
        obtain ⟨p, hp⟩ : ∃ p, p = vs.getD k 0 := ⟨_, rfl⟩
        obtain ⟨q, hq⟩ : ∃ q, q = us.getD k 0 := ⟨_, rfl⟩
        rw [← hp] at hc Heq
        rw [← hq] at hd Heq
        have Hp := hid hp
        have Hq := hid hq
        clear hp hq
        by_cases hpq : p = q
        · subst hpq
          go_wp2
          refine wp_flowT (fun _ => False) (by kernel_rfl) (by kernel_rfl) ?_
          repeat (apply FlowT.d; (intro w1 hk; unfold does; go_simp; (try go_ints); (first | exact DetR.mk | (simp only [↓IntWalk.iteOmega, Oper.doesUpon_value]; exact DetR.mk) | (simp only [↓IntWalk.iteOmega]; go_simp; (try go_ints); exact DetR.mk))); simp only [Act.put, List.setIfInBounds_toArray, List.set_cons_zero, List.set_cons_succ])
          refine FlowT.fin fun w1 hxx hk => ?_
          have hxx2 := hx.trans hxx
          clear hk hc hd hx hxx Heq
          go_wp2
          go_roundw
          case rel => exact ⟨k + 1, by go_num, by omega, fun j hj => by
            by_cases hjk : j = k
            · subst hjk; rw [← Hp.out, ← Hq.out]
            · exact Hne.out j (by omega), hxx2⟩
          case measure => simp [intOf]; omega
        · have Hpq := hid (Heq.out hpq)
          clear Heq
          go_wp2
          refine wp_flowT (fun _ => False) (by kernel_rfl) (by kernel_rfl) ?_
          repeat (apply FlowT.d; (intro w1 hk; unfold does; go_simp; (try go_ints); (first | exact DetR.mk | (simp only [↓IntWalk.iteOmega, Oper.doesUpon_value]; exact DetR.mk) | (simp only [↓IntWalk.iteOmega]; go_simp; (try go_ints); exact DetR.mk))); simp only [Act.put, List.setIfInBounds_toArray, List.set_cons_zero, List.set_cons_succ])
          refine FlowT.fin fun w1 hxx hk => ?_
          have hxx2 := hx.trans hxx
          clear hk hc hd hx hxx
          go_wp2
          go_ret
          exact ⟨ret_bool Hpq.out.symm, hxx2⟩
      · obtain rfl : k = n := by omega
        have hyes : decide (vs = us) = true := decide_eq_true (List.ext_getElem (by rw [Hr.out.ln, Hr2.out.ln]) fun i h1 h2 => by
          have := Hne.out i (by have := Hr.out.ln; omega)
          simpa [List.getD_eq_getElem?_getD, List.getElem?_eq_getElem h1, List.getElem?_eq_getElem h2] using this)
        have Hyes := hid hyes
        clear hyes
        go_wp2
        go_ret
        exact ⟨ret_bool Hyes.out.symm, hx⟩
  · have Hno := hid (decide_eq_false (p := vs = us) fun e => hnm (by rw [← Hr.out.ln, ← Hr2.out.ln, e]))
    have hi : ¬ (n : Int) = (m : Int) := by omega
    go_enter Tryd.func31, Tryd.ntmps31
    go_wp2
    go_ret
    exact ⟨ret_bool Hno.out.symm, Ext.refl _⟩

set_option maxRecDepth 100000 in
set_option maxHeartbeats 1600000 in
theorem asframe_any (f : Fr) (a : Option Addr) (cap : Nat) (w : World) (hr : Ints w a f.nums.length f.nums) (hl : f.nums.length ≤ 1000) :
    Calls Tryd.prog 23 #[frv f a cap] w fun e w' => ∃ a' cap', e = .returned (frv f a' cap') ∧ IRow w.heap.size w' (.slice a' f.nums.length cap') f.nums ∧ Ext w w' := by
  obtain ⟨kind, fr, to, seq, nums⟩ := f
  simp only at hr hl
  have HO := fun w1 (x : Ext w w1) => hid (ownints_any a nums.length cap nums w1 (hr.ext x) hl)
  clear hr hl
  unfold frv
  simp only
  go_enter Tryd.func23, Tryd.ntmps23
  go_wp2
  obtain ⟨W, hW⟩ : ∃ W, W = (w.alloc (Obj.cells #[Value.int .u8 (kind.toNat : Int), .int .i64 fr, .int .i64 to, .int .i64 seq, .slice a nums.length cap] 45)).alloc (.cells #[.int .u8 0, .int .i64 0, .int .i64 0, .int .i64 0, .slice none 0 0] 48) := ⟨_, rfl⟩
  have xW : Ext w W := by rw [hW]; exact ((Ext.refl w).alloc _).alloc _
  have bA : Blk W w.heap.size #[Value.int .u8 (kind.toNat : Int), .int .i64 fr, .int .i64 to, .int .i64 seq, .slice a nums.length cap] 45 := by rw [hW]; exact (Blk.new _ _ _).alloc _
  have bT : Blk W (w.heap.size + 1) frz 48 := by
    rw [hW]
    have := Blk.new (w.alloc (Obj.cells #[Value.int .u8 (kind.toNat : Int), .int .i64 fr, .int .i64 to, .int .i64 seq, .slice a nums.length cap] 45)) frz 48
    rwa [heap_size_alloc] at this
  rw [← hW]
  clear hW
  have d0 := bA.kc (X := fun _ => False) (fun e => e) 0 rfl
  have d1 := bA.kc (X := fun _ => False) (fun e => e) 1 rfl
  have d2 := bA.kc (X := fun _ => False) (fun e => e) 2 rfl
  have d3 := bA.kc (X := fun _ => False) (fun e => e) 3 rfl
  have d4 := bA.kc (X := fun _ => False) (fun e => e) 4 rfl
  refine wp_flowT (fun _ => False) (by kernel_rfl) (by kernel_rfl) ?_
  repeat (apply FlowT.d; (intro w1 hk; unfold does; go_simp; (try go_ints); (first | exact DetR.mk | (simp only [↓IntWalk.iteOmega, Oper.doesUpon_value]; exact DetR.mk) | (simp only [↓IntWalk.iteOmega]; go_simp; (try go_ints); exact DetR.mk))); simp only [Act.put, List.setIfInBounds_toArray, List.set_cons_zero, List.set_cons_succ])
  refine FlowT.s (fun v w' => IRow W.heap.size w' v nums ∧ Ext W w') 10 rfl (by kernel_rfl) (fun _ _ _ ⟨h1, h2⟩ x => ⟨h1.ext x, h2.trans x⟩) (fun w1 hC hk => ?_) ?_
  · unfold does
    go_simp
    refine CallR.act ((HO w1 (xW.trans hC)).out.mono ?_)
    rintro e w2 ⟨v, rfl, hx, hI⟩
    exact ⟨v, rfl, (hC.trans hx).keep _, hI.base hC.size, hC.trans hx⟩
  rintro v ⟨_, hI, _⟩
  obtain ⟨a', cap', rfl⟩ := hI.form
  clear hI
  simp only [Act.put, List.setIfInBounds_toArray, List.set_cons_zero, List.set_cons_succ]
  repeat (apply FlowT.d; (intro w1 hk; unfold does; go_simp; (try go_ints); (first | exact DetR.mk | (simp only [↓IntWalk.iteOmega, Oper.doesUpon_value]; exact DetR.mk) | (simp only [↓IntWalk.iteOmega]; go_simp; (try go_ints); exact DetR.mk))); simp only [Act.put, List.setIfInBounds_toArray, List.set_cons_zero, List.set_cons_succ])
  refine FlowT.last (fun _ w' => Blk w' (w.heap.size + 1) #[Value.int .u8 (kind.toNat : Int), .int .i64 fr, .int .i64 to, .int .i64 seq, .slice a' nums.length cap'] 48 ∧ IRow w.heap.size w' (.slice a' nums.length cap') nums ∧ Ext w w') 12 rfl (by kernel_rfl) (by kernel_rfl) (fun w1 hC hk => ?_) (fun _ w2 hR => ?_)
  · obtain ⟨hI, hx⟩ := hC
    have hB := bT.ext hx
    have c0 := hB.av 0 rfl
    have c1 := hB.av 1 rfl
    have c2 := hB.av 2 rfl
    have c3 := hB.av 3 rfl
    have c4 := hB.av 4 rfl
    have f0 := hB.free
    unfold does
    go_simp
    have hlt := bT.lt
    refine ⟨store5 hB, (hI.keep (store5_keep _ _ _ _ _ _ _) fun b hb e => by have := (hI.lt hb).1; omega).base xW.size, Keep.new (xW.trans hx) (store5_keep _ _ _ _ _ _ _) (fun b hb => by omega)⟩
  obtain ⟨hB, hI, hx⟩ := hR
  simp only [Act.put]
  go_wp2
  exact bodyPost_ret (v := frv ⟨kind, fr, to, seq, nums⟩ a' cap') (by simp [results, Tryd.results23, go_sem, hB.av 0 rfl, hB.av 1 rfl, hB.av 2 rfl, hB.av 3 rfl, hB.av 4 rfl]; rfl) rfl ⟨a', cap', rfl, hI, hx⟩
end Go.Proofs.YtkabgmohgjljkaaDoor


/- A map keyed by ints, its entries in the order in which they came: looked up, written, struck. -/
namespace Go.Proofs.YtkabgmohgjljkaaDoor
set_option linter.unusedSimpArgs false
set_option linter.unusedVariables false
open Go Go.RowKit Go.MapKept

/-- Block b is a map whose entries are m, in their order. -/
def MapAt (w : World) (b : Nat) (m : List (Int × Value)) : Prop := ∃ es clock, w.heap[b]? = some (.map es clock) ∧ es.toList.map (fun x => (x.key, x.val)) = m.map fun x => (Value.int .i64 x.1, x.2)
/-- The first entry at a key. -/
def mfind (m : List (Int × Value)) (k : Int) (i : Nat) : Option (Nat × Value) := match m with
  | [] => none
  | x :: r => if k == x.1 then some (i, x.2) else mfind r k (i + 1)
def mval (m : List (Int × Value)) (k : Int) : Option Value := (mfind m k 0).map (·.2)
theorem MapAt.ext {w w' : World} {b : Nat} {m : List (Int × Value)} (h : MapAt w b m) (x : Ext w w') : MapAt w' b m := by
  obtain ⟨es, c, hb, he⟩ := h
  exact ⟨es, c, Ext.get x hb, he⟩
theorem MapAt.keep {X : Nat → Prop} {w w' : World} {b : Nat} {m : List (Int × Value)} (h : MapAt w b m) (x : Keep X w w') (hx : ¬ X b) : MapAt w' b m := by
  obtain ⟨es, c, hb, he⟩ := h
  exact ⟨es, c, Keep.get x hb hx, he⟩
theorem MapAt.lt {w : World} {b : Nat} {m : List (Int × Value)} (h : MapAt w b m) : b < w.heap.size := by
  obtain ⟨es, c, hb, he⟩ := h
  exact (Array.getElem?_eq_some_iff.1 hb).1
theorem MapAt.ne {w : World} {b g : Nat} {m : List (Int × Value)} (h : MapAt w b m) {c : Array Value} {e : TypeId} (hb : Blk w g c e) : g ≠ b := by
  rintro rfl
  obtain ⟨es, c, h1, _⟩ := h
  have := h1.symm.trans hb
  cases this
theorem MapAt.new (w : World) : MapAt (w.alloc (.map #[] 0)) w.heap.size [] := ⟨#[], 0, heap_alloc_new w _, rfl⟩

theorem findNow_map (k : Int) : ∀ (l : List MapEntry) (m : List (Int × Value)) (i : Nat), l.map (fun x => (x.key, x.val)) = m.map (fun x => (Value.int .i64 x.1, x.2)) → Instr.findNow (.int .i64) (.int .i64 k) l i = some (mfind m k i)
  | [], [], i, _ => rfl
  | [], x :: m, i, h => by simp at h
  | e :: l, [], i, h => by simp at h
  | e :: l, x :: m, i, h => by
    simp only [List.map_cons, List.cons.injEq, Prod.mk.injEq] at h
    obtain ⟨⟨h1, h2⟩, h3⟩ := h
    have ih := findNow_map k l m (i + 1) h3
    unfold Instr.findNow mfind
    rw [h1, h2]
    simp only [Instr.sameNow, if_true]
    cases hk : (k == x.1) with
    | true => simp
    | false => simpa using ih
theorem mfind_get {m : List (Int × Value)} {k : Int} {i j : Nat} {v : Value} (h : mfind m k i = some (j, v)) : i ≤ j ∧ m[j - i]? = some (k, v) := by
  induction m generalizing i with
  | nil => cases h
  | cons x r ih =>
    unfold mfind at h
    split at h
    · rename_i hk
      obtain ⟨rfl, rfl⟩ := Prod.mk.inj (Option.some.inj h)
      have : k = x.1 := by simpa using hk
      simp [this]
    · obtain ⟨h1, h2⟩ := ih h
      refine ⟨by omega, ?_⟩
      rw [show j - i = j - (i + 1) + 1 by omega]
      simpa using h2

section
variable {P : Program} {w : World} {t kt et : TypeId} {b : Nat} {m : List (Int × Value)}
theorem run_map_lookup (ht : P.underlying t = some (.map kt et)) (hk : P.underlying kt = some (.int .i64)) (h : MapAt w b m) (k : Int) {z : Value} (hz : (zeroValue et).run P w = .ok z w) :
    (Instr.lookup t (.map (some b)) (.int .i64 k) true).run P w = .ok (.tuple #[(mval m k).getD z, .bool (mval m k).isSome]) w := by
  obtain ⟨es, c, hb, he⟩ := h
  have hf := run_findKey (P := P) (w := w) hk (findNow_map k es.toList m 0 he)
  unfold Instr.lookup
  cases hm : mfind m k 0 with
  | none =>
    rw [hm] at hf
    simp [run_underlying ht, Go.MapKept.run_getObj_map hb, run_checkKey (P := P) hk (k := .int .i64 k) (by simp [IsKey]), hf, hz, Result.andThen, mval, hm]
  | some x =>
    obtain ⟨j, v⟩ := x
    rw [hm] at hf
    simp [run_underlying ht, Go.MapKept.run_getObj_map hb, run_checkKey (P := P) hk (k := .int .i64 k) (by simp [IsKey]), hf, Result.andThen, mval, hm]
theorem map_setBlock {es : Array MapEntry} {c : Nat} (hb : w.heap[b]? = some (.map es c)) (o : Obj) : Keep (fun k => k = b) w { w with heap := w.heap.setIfInBounds b o } :=
  ⟨rfl, rfl, rfl, by simp, fun k hk hx => (heap_set (o' := o) hb).2 k hx⟩
theorem run_map_new (ht : P.underlying t = some (.map kt et)) (hk : P.underlying kt = some (.int .i64)) (h : MapAt w b m) (k : Int) (v : Value) (hn : mval m k = none) :
    ∃ w', (Instr.mapUpdate t (.map (some b)) (.int .i64 k) v).run P w = .ok () w' ∧ MapAt w' b (m ++ [(k, v)]) ∧ Keep (fun k => k = b) w w' := by
  obtain ⟨es, c, hb, he⟩ := h
  have hf := run_findKey (P := P) (w := w) hk (findNow_map k es.toList m 0 he)
  rw [show mfind m k 0 = none by simpa [mval] using hn] at hf
  refine ⟨_, ?_, ⟨es.push { key := .int .i64 k, val := v, born := c }, c + 1, (heap_set hb).1, ?_⟩, map_setBlock hb _⟩
  · unfold Instr.mapUpdate
    simp [run_underlying ht, Go.MapKept.run_getObj_map hb, run_checkKey (P := P) hk (k := .int .i64 k) (by simp [IsKey]), hf, Go.MapKept.run_setObj_map _ hb, Result.andThen]
  · simp [he]
theorem run_map_del (ht : P.underlying t = some (.map kt et)) (hk : P.underlying kt = some (.int .i64)) (h : MapAt w b m) (k : Int) (j : Nat) (v : Value) (hj : mfind m k 0 = some (j, v)) (ty : TypeId) :
    ∃ w', (Builtin.delete_ #[t, kt] ty #[.map (some b), .int .i64 k]).run P w = .ok (.tuple #[]) w' ∧ MapAt w' b (m.eraseIdx j) ∧ Keep (fun k => k = b) w w' := by
  obtain ⟨es, c, hb, he⟩ := h
  have hf := run_findKey (P := P) (w := w) hk (findNow_map k es.toList m 0 he)
  rw [hj] at hf
  refine ⟨_, ?_, ⟨es.eraseIdxIfInBounds j, c, (heap_set hb).1, ?_⟩, map_setBlock hb _⟩
  · unfold Builtin.delete_
    simp [run_underlying ht, Go.MapKept.run_getObj_map hb, run_checkKey (P := P) hk (k := .int .i64 k) (by simp [IsKey]), hf, Go.MapKept.run_setObj_map _ hb, Result.andThen]
  · simp only [Array.toList_eraseIdxIfInBounds, List.eraseIdx_eq_take_drop_succ, List.map_append, List.map_take, List.map_drop, he]
theorem run_map_len (ht : P.underlying t = some (.map kt et)) (h : MapAt w b m) (ty : TypeId) : (Builtin.len_ #[t] ty #[.map (some b)]).run P w = .ok (.int .i64 (m.length : Int)) w := by
  obtain ⟨es, c, hb, he⟩ := h
  have : es.size = m.length := by have := congrArg List.length he; simpa using this
  simp [Builtin.len_, run_underlying ht, Go.MapKept.run_getObj_map hb, goInt, Result.andThen, this]

variable {ops : Array Oper} {Q : Exit → Act → World → Prop} {rest : List Oper} {o : Oper} {a : Act}
theorem wpList_map_lookup (hg : o.guard = none) (mo x : Operand) (t kt et : TypeId) (hop : o.op = Op.lookup t mo x true) (ht : P.underlying t = some (.map kt et)) (hk : P.underlying kt = some (.int .i64)) {z : Value} (hz : (zeroValue et).run P w = .ok z w) (b : Nat) (m : List (Int × Value)) (h : MapAt w b m)
    (hm : a.eval mo = .map (some b)) (k : Int) (hx : a.eval x = .int .i64 k) {v : Value} {y : Bool} (hv : (mval m k).getD z = v) (hy : (mval m k).isSome = y) (hK : wpList P ops Q rest (a.put o.dst (.tuple #[v, .bool y])) w) : wpList P ops Q (o :: rest) a w := by
  refine wpList_plain hg fun K' hK' => ?_
  unfold Oper.wp
  simp [execOp, hop, hm, hx, run_map_lookup ht hk h k hz, Result.andThen, hv, hy]
  exact hK' _ _ hK
theorem wpList_map_new (hg : o.guard = none) (mo x vo : Operand) (t kt et : TypeId) (hop : o.op = Op.mapUpdate t mo x vo) (ht : P.underlying t = some (.map kt et)) (hk : P.underlying kt = some (.int .i64)) (b : Nat) (m : List (Int × Value)) (h : MapAt w b m)
    (hm : a.eval mo = .map (some b)) (k : Int) (hx : a.eval x = .int .i64 k) (v : Value) (hv : a.eval vo = v) (hn : mval m k = none)
    (hK : ∀ w', MapAt w' b (m ++ [(k, v)]) → Keep (fun k => k = b) w w' → wpList P ops Q rest (a.put o.dst undef) w') : wpList P ops Q (o :: rest) a w := by
  refine wpList_plain hg fun K' hK' => ?_
  obtain ⟨w', hrun, r1, r2⟩ := run_map_new ht hk h k v hn
  unfold Oper.wp
  simp [execOp, hop, hm, hx, hv, hrun, Result.andThen]
  exact hK' _ _ (hK w' r1 r2)
theorem wpList_map_del (hg : o.guard = none) (mo x : Operand) (t kt et : TypeId) (hop : o.op = Op.call { callee := Callee.builtin Builtin.delete, args := #[mo, x], argTypes := #[t, kt] }) (ht : P.underlying t = some (.map kt et)) (hk : P.underlying kt = some (.int .i64)) (b : Nat) (m : List (Int × Value)) (h : MapAt w b m)
    (hm : a.eval mo = .map (some b)) (k : Int) (hx : a.eval x = .int .i64 k) (j : Nat) (v : Value) (hj : mfind m k 0 = some (j, v))
    (hK : ∀ w', MapAt w' b (m.eraseIdx j) → Keep (fun k => k = b) w w' → wpList P ops Q rest (a.put o.dst (.tuple #[])) w') : wpList P ops Q (o :: rest) a w := by
  refine wpList_plain hg fun K' hK' => ?_
  obtain ⟨w', hrun, r1, r2⟩ := run_map_del ht hk h k j v hj o.type
  unfold Oper.wp
  simp [execOp, hop, resolve, invoke, builtin, hm, hx, hrun, Result.andThen]
  exact hK' _ _ (hK w' r1 r2)
theorem wpList_map_len (hg : o.guard = none) (mo : Operand) (t kt et : TypeId) (hop : o.op = Op.call { callee := Callee.builtin Builtin.len, args := #[mo], argTypes := #[t] }) (ht : P.underlying t = some (.map kt et)) (b : Nat) (m : List (Int × Value)) (h : MapAt w b m)
    (hm : a.eval mo = .map (some b)) (hK : wpList P ops Q rest (a.put o.dst (.int .i64 (m.length : Int))) w) : wpList P ops Q (o :: rest) a w := by
  refine wpList_plain hg fun K' hK' => ?_
  unfold Oper.wp
  simp [execOp, hop, resolve, invoke, builtin, hm, run_map_len ht h o.type, Result.andThen]
  exact hK' _ _ hK
end
end Go.Proofs.YtkabgmohgjljkaaDoor


/- Rows of elements of several cells, of one's own: read, written in place, cut; numbers that lie where nobody writes. -/
namespace Go.Proofs.YtkabgmohgjljkaaDoor
set_option linter.unusedSimpArgs false
set_option linter.unusedVariables false
open Go Go.RowKit

section
variable {w : World} {base : Nat} {e : TypeId} {size g n cap : Nat} {xs : List Value}
theorem own_blk (h : w.ownsRow base e size (.slice (some ⟨g, 0, none⟩) n cap) n xs) : ∃ cur, Blk w g cur e ∧ base ≤ g ∧ n ≤ cap ∧ cap ≤ maxLen ∧ cur.size = cap * size ∧ cur.toList.take (n * size) = xs := by
  rcases h.2 with ⟨h1, _⟩ | ⟨g', cap', cur, h1, h2, h3, h4, h5, h6, h7⟩
  · cases h1
  · simp only [Value.slice.injEq, Option.some.injEq, Addr.mk.injEq, and_true] at h1
    obtain ⟨rfl, _, rfl⟩ := h1
    exact ⟨cur, h3, h2, h4, h5, h6, h7⟩
theorem own_of_blk {cur : Array Value} (hb : Blk w g cur e) (h2 : base ≤ g) (h4 : n ≤ cap) (h5 : cap ≤ maxLen) (h6 : cur.size = cap * size) (h7 : cur.toList.take (n * size) = xs) : w.ownsRow base e size (.slice (some ⟨g, 0, none⟩) n cap) n xs := by
  refine ⟨?_, .inr ⟨g, cap, cur, rfl, h2, hb, h4, h5, h6, h7⟩⟩
  rw [← h7, List.length_take, Array.length_toList, h6]
  exact Nat.min_eq_left (Nat.mul_le_mul_right _ h4)
theorem own_get (h : w.ownsRow base e size (.slice (some ⟨g, 0, none⟩) n cap) n xs) (i : Nat) {u : Value} (hu : xs[i]? = some u) : w.cell? ⟨g, i, none⟩ = some u := by
  have := h.cells (g := g) rfl i u hu
  rwa [show (⟨g, 0, none⟩ : Addr).add i = ⟨g, i, none⟩ from by by_cases h0 : i = 0 <;> simp [Addr.add, h0]] at this
theorem own_free (h : w.ownsRow base e size (.slice (some ⟨g, 0, none⟩) n cap) n xs) (i : Nat) : w.frozen? ⟨g, i, none⟩ = false := by
  obtain ⟨cur, hb, _⟩ := own_blk h
  exact hb.free i
theorem own_set (h : w.ownsRow base e size (.slice (some ⟨g, 0, none⟩) n cap) n xs) (i : Nat) (hi : i < xs.length) (v : Value) : (w.setCell ⟨g, i, none⟩ v).ownsRow base e size (.slice (some ⟨g, 0, none⟩) n cap) n (xs.set i v) := by
  obtain ⟨cur, hb, h2, h4, h5, h6, h7⟩ := own_blk h
  refine own_of_blk (hb.set i v) h2 h4 h5 (by simpa using h6) ?_
  rw [Array.toList_setIfInBounds, List.take_set, h7]
theorem own_cut (h : w.ownsRow base e size (.slice (some ⟨g, 0, none⟩) n cap) n xs) (k : Nat) (hk : k ≤ n) : w.ownsRow base e size (.slice (some ⟨g, 0, none⟩) k cap) k (xs.take (k * size)) := by
  obtain ⟨cur, hb, h2, h4, h5, h6, h7⟩ := own_blk h
  refine own_of_blk hb h2 (by omega) h5 h6 ?_
  rw [← h7, List.take_take, Nat.min_eq_left (Nat.mul_le_mul_right _ hk)]
theorem row_form {v : Value} (h : w.ownsRow base e size v n xs) : ∃ a c, v = .slice a n c := by
  rcases h.2 with ⟨h2, h3⟩ | ⟨g, cap, cur, h2, _⟩
  · exact ⟨none, 0, by rw [h2, h3]⟩
  · exact ⟨_, _, h2⟩
theorem row_keep {w' : World} {v : Value} {X : Nat → Prop} (h : w.ownsRow base e size v n xs) (k : Keep X w w') (hx : ∀ i, v.ownBlock = some i → ¬ X i) : w'.ownsRow base e size v n xs := by
  obtain ⟨h1, h2⟩ := h
  refine ⟨h1, h2.imp id ?_⟩
  rintro ⟨g, cap, cur, rfl, hb, hg, h3⟩
  exact ⟨g, cap, cur, rfl, hb, Keep.get k hg (hx g rfl), h3⟩
theorem own_base {v : Value} {b2 : Nat} (h : w.ownsRow base e size v n xs) (hb : b2 ≤ base) : w.ownsRow b2 e size v n xs := by
  obtain ⟨h1, h2⟩ := h
  refine ⟨h1, h2.imp id ?_⟩
  rintro ⟨g, cap, cur, rfl, hg, h3⟩
  exact ⟨g, cap, cur, rfl, Nat.le_trans hb hg, h3⟩
theorem own_some {v : Value} (h : w.ownsRow base e size v n xs) (hn : 0 < n) : ∃ g cap, v = .slice (some ⟨g, 0, none⟩) n cap := by
  rcases h.2 with ⟨_, h1⟩ | ⟨g', cap', cur, h1, _⟩
  · omega
  · exact ⟨g', cap', h1⟩
theorem own_ty {v : Value} (h : w.ownsRow base e size v n xs) {k : Nat} (hk : v.ownBlock = some k) : ∃ c, Blk w k c e := by
  rcases h.2 with ⟨rfl, _⟩ | ⟨g, cap, cur, rfl, _, hg, _⟩
  · simp [Value.ownBlock] at hk
  · simp only [Value.ownBlock, Option.some.injEq] at hk
    subst hk
    exact ⟨cur, hg⟩
end
theorem Blk.inj {w : World} {b : Nat} {c c' : Array Value} {e e' : TypeId} (h : Blk w b c e) (h' : Blk w b c' e') : c = c' ∧ e = e' := by
  unfold Blk at h h'
  rw [h] at h'
  simp only [Option.some.injEq, Obj.cells.injEq, and_true] at h'
  exact h'
theorem Blk.ty_ne {w : World} {a b : Nat} {c c' : Array Value} {e e' : TypeId} (h : Blk w a c e) (h' : Blk w b c' e') (hne : e ≠ e') : a ≠ b := fun q => hne (by subst q; exact (h.inj h').2)

theorem fm_len {α : Type} (f : α → List Value) (m : Nat) (hf : ∀ x, (f x).length = m) (l : List α) : (l.flatMap f).length = l.length * m := by
  induction l with
  | nil => simp
  | cons x l ih => simp only [List.flatMap_cons, List.length_append, hf, ih, List.length_cons, Nat.add_mul]; omega
theorem fm_get {α : Type} (f : α → List Value) (m : Nat) (hf : ∀ x, (f x).length = m) : ∀ (l : List α) (i j : Nat) (x : α), l[i]? = some x → j < m → (l.flatMap f)[i * m + j]? = (f x)[j]?
  | [], i, j, x, h, _ => by simp at h
  | y :: l, 0, j, x, h, hj => by
    simp only [List.getElem?_cons_zero, Option.some.injEq] at h
    subst h
    rw [List.flatMap_cons, Nat.zero_mul, Nat.zero_add, List.getElem?_append_left (by rw [hf]; exact hj)]
  | y :: l, i + 1, j, x, h, hj => by
    have ih := fm_get f m hf l i j x (by simpa using h) hj
    rw [List.flatMap_cons, List.getElem?_append_right (by rw [hf, Nat.add_mul]; omega), hf, ← ih]
    congr 1
    rw [Nat.add_mul]; omega
theorem fm_take {α : Type} (f : α → List Value) (m : Nat) (hf : ∀ x, (f x).length = m) : ∀ (l : List α) (k : Nat), (l.flatMap f).take (k * m) = (l.take k).flatMap f
  | l, 0 => by simp
  | [], k + 1 => by simp
  | y :: l, k + 1 => by
    rw [List.take_succ_cons, List.flatMap_cons, List.flatMap_cons, List.take_append, hf, List.take_of_length_le (by rw [hf, Nat.add_mul]; omega), ← fm_take f m hf l k]
    congr 2
    rw [Nat.add_mul]; omega
theorem fm_drop {α : Type} (f : α → List Value) (m : Nat) (hf : ∀ x, (f x).length = m) : ∀ (l : List α) (k : Nat), (l.flatMap f).drop (k * m) = (l.drop k).flatMap f
  | l, 0 => by simp
  | [], k + 1 => by simp
  | y :: l, k + 1 => by
    rw [List.drop_succ_cons, List.flatMap_cons, List.drop_append, hf, List.drop_of_length_le (by rw [hf, Nat.add_mul]; omega), ← fm_drop f m hf l k, List.nil_append]
    congr 1
    rw [Nat.add_mul]; omega
/-- One element's cells, written anew all at once. -/
theorem fm_put {α : Type} (f : α → List Value) (m : Nat) (hf : ∀ x, (f x).length = m) (l : List α) (i : Nat) (y : α) (hi : i < l.length) : (l.flatMap f).take (i * m) ++ f y ++ (l.flatMap f).drop (i * m + m) = (l.set i y).flatMap f := by
  rw [fm_take f m hf, show i * m + m = (i + 1) * m by rw [Nat.add_mul]; omega, fm_drop f m hf, List.set_eq_take_append_cons_drop, if_pos hi]
  simp

/-- Block b holds numbers. -/
def IsInt (w : World) (b : Nat) : Prop := ∃ c z, w.heap[b]? = some (.cells c 3 z)
theorem IsInt.keep {X : Nat → Prop} {w w' : World} {b : Nat} (h : IsInt w b) (k : Keep X w w') (hx : ¬ X b) : IsInt w' b := by
  obtain ⟨c, z, h⟩ := h
  exact ⟨c, z, Keep.get k h hx⟩
theorem IsInt.not {w : World} {b : Nat} {c : Array Value} {e : TypeId} (h : Blk w b c e) (hne : e ≠ 3) : ¬ IsInt w b := by
  rintro ⟨c', z, h'⟩
  unfold Blk at h
  rw [h] at h'
  simp only [Option.some.injEq, Obj.cells.injEq] at h'
  exact hne h'.2.1

/-- A slice of numbers that lies where nobody writes: in what came in, or in a block of numbers that is not the one that is written. -/
structure NumsAt (w : World) (n0 : Nat) (t : Option Nat) (v : Value) (l : List Int) : Prop where
  form : ∃ a cap, v = .slice a l.length cap ∧ Ints w a l.length l ∧ ∀ x, a = some x → 0 < l.length → x.block < n0 ∨ (IsInt w x.block ∧ t ≠ some x.block)
/-- What may be written beside them. -/
def Wr (w : World) (n0 : Nat) (t : Option Nat) (X : Nat → Prop) : Prop := ∀ b, X b → b < w.heap.size → n0 ≤ b ∧ (IsInt w b → t = some b)
theorem Ints.keep {X : Nat → Prop} {w w' : World} {a : Option Addr} {len : Nat} {vs : List Int} (h : Ints w a len vs) (k : Keep X w w') (hx : ∀ x, a = some x → 0 < len → ¬ X x.block) : Ints w' a len vs :=
  ⟨h.ln, h.sm, fun y hy i hi => k.cellx (h.cl y hy i hi) (by rw [add_block]; exact hx y hy (by omega)), h.hi⟩
theorem Ints.blt {w : World} {a : Option Addr} {len : Nat} {vs : List Int} (h : Ints w a len vs) {x : Addr} (hx : a = some x) (hl : 0 < len) : x.block < w.heap.size := by
  have := cell_lt (h.cl x hx 0 hl)
  rwa [add_block] at this
section
variable {w w' : World} {n0 : Nat} {t : Option Nat} {v : Value} {l : List Int}
theorem NumsAt.keep {X : Nat → Prop} (h : NumsAt w n0 t v l) (k : Keep X w w') (hx : Wr w n0 t X) : NumsAt w' n0 t v l := by
  obtain ⟨a, cap, rfl, hi, hb⟩ := h
  have hne : ∀ x, a = some x → 0 < l.length → ¬ X x.block := fun x hx' hl hX => by
    obtain ⟨h1, h2⟩ := hx _ hX (hi.blt hx' hl)
    rcases hb x hx' hl with h3 | h3
    · omega
    · exact h3.2 (h2 h3.1)
  exact ⟨a, cap, rfl, hi.keep k hne, fun x hx' hl => (hb x hx' hl).imp id fun h => ⟨h.1.keep k (hne x hx' hl), h.2⟩⟩
theorem Wr.none {w : World} {n0 : Nat} {t : Option Nat} : Wr w n0 t fun _ => False := fun _ h => h.elim
theorem NumsAt.ext (h : NumsAt w n0 t v l) (x : Ext w w') : NumsAt w' n0 t v l := h.keep (x.keep fun _ => False) Wr.none
theorem NumsAt.turn (h : NumsAt w n0 t v l) {t' : Option Nat} (ht : ∀ b, t' = some b → t = some b ∨ w.heap.size ≤ b) : NumsAt w n0 t' v l := by
  obtain ⟨a, cap, rfl, hi, hb⟩ := h
  refine ⟨a, cap, rfl, hi, fun x hx hl => (hb x hx hl).imp id fun h => ⟨h.1, fun e => ?_⟩⟩
  rcases ht _ e with h1 | h1
  · exact h.2 h1
  · have := hi.blt hx hl; omega
theorem NumsAt.of_row {base : Nat} (h : IRow base w v l) (hi : ∀ i, l.getD i 0 ≤ 9223372036854775807) (ht : ∀ b, v.ownBlock = some b → t ≠ some b) : NumsAt w n0 t v l := by
  obtain ⟨a, cap, rfl⟩ := h.form
  refine ⟨a, cap, rfl, h.ints hi, fun x hx hl => .inr ⟨?_, ht _ (by subst hx; rfl)⟩⟩
  subst hx
  obtain ⟨c, hc⟩ := own_ty (show w.ownsRow base 3 1 _ l.length (icells l) from h) (k := x.block) rfl
  exact ⟨c, _, hc⟩
theorem NumsAt.hi (h : NumsAt w n0 t v l) : ∀ i, l.getD i 0 ≤ 9223372036854775807 := by
  obtain ⟨a, cap, rfl, hi, hb⟩ := h
  exact hi.hi
end

/-- A frame with the slice in which its numbers lie. -/
structure FV where
  f : Fr
  v : Value
def FV.cells (x : FV) : List Value := [.int .u8 (x.f.kind.toNat : Int), .int .i64 x.f.fr, .int .i64 x.f.to, .int .i64 x.f.seq, x.v]
def FV.val (x : FV) : Value := .agg #[.int .u8 (x.f.kind.toNat : Int), .int .i64 x.f.fr, .int .i64 x.f.to, .int .i64 x.f.seq, x.v]
def FV.At (w : World) (n0 : Nat) (t : Option Nat) (x : FV) : Prop := NumsAt w n0 t x.v x.f.nums
theorem FV.cells_len (x : FV) : x.cells.length = 5 := rfl
theorem FV.val_frv (f : Fr) (a : Option Addr) (cap : Nat) : (FV.mk f (.slice a f.nums.length cap)).val = frv f a cap := rfl
theorem FV.At.form {w : World} {n0 : Nat} {t : Option Nat} {x : FV} (h : x.At w n0 t) : ∃ a cap, x.val = frv x.f a cap ∧ x.v = .slice a x.f.nums.length cap ∧ Ints w a x.f.nums.length x.f.nums := by
  obtain ⟨a, cap, hv, hi, _⟩ := NumsAt.form h
  exact ⟨a, cap, by unfold FV.val frv; rw [hv], hv, hi⟩
/-- A row of frames of one's own. -/
structure FRow (w : World) (n0 : Nat) (t : Option Nat) (base : Nat) (e : TypeId) (v : Value) (fs : List FV) : Prop where
  row : w.ownsRow base e 5 v fs.length (fs.flatMap FV.cells)
  nums : ∀ x ∈ fs, x.At w n0 t
theorem FRow.nil (w : World) (n0 : Nat) (t : Option Nat) (base : Nat) (e : TypeId) : FRow w n0 t base e (.slice none 0 0) [] := ⟨World.ownsRow_nil _ _ _ _, fun _ h => by cases h⟩
theorem FRow.keep {w w' : World} {n0 : Nat} {t : Option Nat} {base : Nat} {e : TypeId} {v : Value} {fs : List FV} {X : Nat → Prop} (h : FRow w n0 t base e v fs) (k : Keep X w w') (hx : Wr w n0 t X) (hr : ∀ b, v.ownBlock = some b → ¬ X b) : FRow w' n0 t base e v fs :=
  ⟨row_keep h.row k hr, fun x hm => NumsAt.keep (h.nums x hm) k hx⟩
theorem FRow.ext {w w' : World} {n0 : Nat} {t : Option Nat} {base : Nat} {e : TypeId} {v : Value} {fs : List FV} (h : FRow w n0 t base e v fs) (x : Ext w w') : FRow w' n0 t base e v fs := h.keep (x.keep fun _ => False) Wr.none fun _ _ h => h
theorem FRow.form {w : World} {n0 : Nat} {t : Option Nat} {base : Nat} {e : TypeId} {v : Value} {fs : List FV} (h : FRow w n0 t base e v fs) : ∃ a cap, v = .slice a fs.length cap := row_form h.row
end Go.Proofs.YtkabgmohgjljkaaDoor


/- Links, plainly: a sender and a receiver. -/
namespace Go.Proofs.YtkabgmohgjljkaaDoor
set_option linter.unusedSimpArgs false
set_option linter.unusedVariables false

/-- A sender of a link: the frames that are kept, each with the tick at which it was sent last. -/
structure Snd where
  fr : Int
  to : Int
  next : Int
  now : Int
  l : List (Fr × Int)
namespace Snd
def new (fr to : Int) : Snd := ⟨fr, to, 0, 0, []⟩
def frame (s : Snd) (kind : UInt8) (nums : List Int) : Fr := ⟨kind, s.fr, s.to, s.next, nums⟩
/-- An error's number. -/
def err (s : Snd) (kind : UInt8) (nums : List Int) : Nat := if (s.frame kind nums).code ≠ 0 then (s.frame kind nums).code else if kind = 97 then 4 else if 200 ≤ s.l.length then 8 else 0
def sent (s : Snd) (kind : UInt8) (nums : List Int) : Snd := { s with next := s.next + 1, l := s.l ++ [(s.frame kind nums, s.now)] }
def send (s : Snd) (kind : UInt8) (nums : List Int) : Snd := if s.err kind nums = 0 then s.sent kind nums else s
/-- At the next tick: is it sent again? -/
def late (s : Snd) (k : Fr × Int) : Bool := decide (s.now + 1 - k.2 = 3)
def stamp (s : Snd) (k : Fr × Int) : Fr × Int := if s.late k then (k.1, s.now + 1) else k
def tick (s : Snd) : Snd := { s with now := s.now + 1, l := s.l.map s.stamp }
def again (s : Snd) : List Fr := (s.l.filter s.late).map (·.1)
def acked (s : Snd) (n : Int) : Snd := { s with l := s.l.filter fun k => decide (n ≤ k.1.seq) }
/-- What bounds it. -/
structure Ok (s : Snd) (m : Nat) : Prop where
  next : 0 ≤ s.next ∧ s.next ≤ m
  now : 0 ≤ s.now ∧ s.now ≤ m
  at_ : ∀ k ∈ s.l, 0 ≤ k.2 ∧ k.2 ≤ s.now
  len : s.l.length ≤ 200
theorem Ok.new (fr to : Int) : (new fr to).Ok 0 := ⟨by simp [Snd.new], by simp [Snd.new], by simp [Snd.new], by simp [Snd.new]⟩
theorem Ok.mono {s : Snd} {m k : Nat} (h : s.Ok m) (hk : m ≤ k) : s.Ok k := ⟨by have := h.next; omega, by have := h.now; omega, h.at_, h.len⟩
theorem err_zero {s : Snd} {kind : UInt8} {nums : List Int} (h : s.err kind nums = 0) : (s.frame kind nums).code = 0 ∧ kind ≠ 97 ∧ s.l.length < 200 := by
  unfold err at h
  split at h
  · contradiction
  rename_i h1
  split at h
  · contradiction
  rename_i h2
  split at h
  · contradiction
  rename_i h3
  exact ⟨by omega, h2, by omega⟩
theorem Ok.sent {s : Snd} {m : Nat} (h : s.Ok m) {kind : UInt8} {nums : List Int} (hl : s.l.length < 200) : (s.sent kind nums).Ok (m + 1) := by
  have h1 := h.next
  have h2 := h.now
  refine ⟨by simp only [Snd.sent]; omega, by simp only [Snd.sent]; omega, fun k hk => ?_, by simp only [Snd.sent, List.length_append, List.length_cons, List.length_nil]; omega⟩
  simp only [Snd.sent, List.mem_append, List.mem_singleton] at hk ⊢
  rcases hk with hk | rfl
  · exact h.at_ k hk
  · exact ⟨h2.1, Int.le_refl _⟩
theorem Ok.send {s : Snd} {m : Nat} (h : s.Ok m) (kind : UInt8) (nums : List Int) : (s.send kind nums).Ok (m + 1) := by
  unfold Snd.send
  split
  · rename_i he
    exact h.sent (err_zero he).2.2
  · exact h.mono (by omega)
theorem Ok.tick {s : Snd} {m : Nat} (h : s.Ok m) : s.tick.Ok (m + 1) := by
  have h1 := h.next
  have h2 := h.now
  refine ⟨by simp only [Snd.tick]; omega, by simp only [Snd.tick]; omega, fun k hk => ?_, by simpa [Snd.tick] using h.len⟩
  simp only [Snd.tick, List.mem_map] at hk ⊢
  obtain ⟨x, hx, rfl⟩ := hk
  have := h.at_ x hx
  unfold stamp
  split
  · simp only; omega
  · omega
theorem Ok.acked {s : Snd} {m : Nat} (h : s.Ok m) (n : Int) : (s.acked n).Ok m :=
  ⟨h.next, h.now, fun k hk => h.at_ k ((List.mem_filter.1 hk).1), Nat.le_trans (List.length_filter_le _ _) h.len⟩
end Snd

/-- A receiver of a link. -/
structure Rcv where
  fr : Int
  to : Int
  due : Int
  wait : List Fr
namespace Rcv
def new (fr to : Int) : Rcv := ⟨fr, to, 0, []⟩
def find (l : List Fr) (q : Int) : Option Nat := l.findIdx? fun f => decide (f.seq = q)
/-- What waits is told, as long as the next one waits. -/
def run : Nat → Rcv → List Fr → List Fr × Rcv
  | 0, r, out => (out, r)
  | n + 1, r, out => match find r.wait r.due with
    | none => (out, r)
    | some k => run n { r with due := r.due + 1, wait := r.wait.eraseIdx k } (out ++ (r.wait[k]?).toList)
def err (r : Rcv) (f : Fr) : Nat := if f.code ≠ 0 then f.code else if f.fr ≠ r.fr ∨ f.to ≠ r.to ∨ f.kind = 97 then 3 else 0
/-- A right frame is taken: what is told, and what then is. -/
def took (r : Rcv) (f : Fr) : List Fr × Rcv :=
  if f.seq < r.due ∨ (find r.wait f.seq).isSome then ([], r)
  else if r.due < f.seq then ([], if r.wait.length < 8 then { r with wait := r.wait ++ [f] } else r)
  else run (r.wait.length + 1) { r with due := r.due + 1 } [f]
def take (r : Rcv) (f : Fr) : List Fr × Rcv := if r.err f = 0 then r.took f else ([], r)
theorem find_get {l : List Fr} {q : Int} {k : Nat} (h : find l q = some k) : ∃ f, l[k]? = some f ∧ f.seq = q := by
  obtain ⟨hk, h1, _⟩ := List.findIdx?_eq_some_iff_getElem.1 h
  exact ⟨l[k], List.getElem?_eq_getElem hk, of_decide_eq_true h1⟩
theorem find_lt {l : List Fr} {q : Int} {k : Nat} (h : find l q = some k) : k < l.length := by
  obtain ⟨f, hf, _⟩ := find_get h
  rcases Nat.lt_or_ge k l.length with h1 | h1
  · exact h1
  · rw [List.getElem?_eq_none h1] at hf; cases hf
end Rcv
end Go.Proofs.YtkabgmohgjljkaaDoor


/- Links: a frame is copied; a sender and a receiver are made. -/
namespace Go.Proofs.YtkabgmohgjljkaaDoor
set_option linter.unusedSimpArgs false
set_option linter.unusedVariables false
open Go Go.RowKit

set_option maxRecDepth 100000 in
set_option maxHeartbeats 800000 in
theorem clone_any (a : Option Addr) (n cap : Nat) (vs : List Int) (w : World) (hr : Ints w a n vs) (hl : n ≤ 1000) :
    Calls Tryd.prog 51 #[.slice a n cap] w fun e w' => ∃ v, e = .returned v ∧ Ext w w' ∧ IRow w.heap.size w' v vs := by
  cases a with
  | none =>
    obtain rfl : n = 0 := by
      rcases Nat.eq_zero_or_pos n with h | h
      · exact h
      · obtain ⟨x, hx⟩ := hr.sm h; cases hx
    obtain rfl : vs = [] := List.eq_nil_of_length_eq_zero hr.ln
    have he := Lib.run_eql_slice_nil (P := Tryd.prog) w 43 3 none 0 cap 0 0 Tryd.underlying43
    clear hr
    go_enter Tryd.func51, Tryd.ntmps51
    go_wp2
    go_ret
    exact ⟨_, rfl, Ext.refl _, IRow.nil _ _⟩
  | some x =>
    have Hr := hid hr
    have hl2 : ([] : List Int).length + n ≤ 1000000 := by simp; omega
    have hnil : IRow w.heap.size (w.alloc (.cells #[] 3)) (.slice (some ⟨w.heap.size, 0, none⟩) 0 0) [] := World.ownsRow_made w #[] 0 (Nat.le_refl _) (by unfold maxLen; omega) rfl
    have Hnil := hid hnil
    have hb : w.heap.size ≤ (w.alloc (.cells #[] 3)).heap.size := by simp
    have he := Lib.run_eql_slice_nil (P := Tryd.prog) w 43 3 (some x) n cap 0 0 Tryd.underlying43
    clear hr hnil
    go_enter Tryd.func51, Tryd.ntmps51
    go_wp2_with (at_builtin; refine wpList_append_ints w.heap.size hb rfl _ _ rfl (.slice (some ⟨w.heap.size, 0, none⟩) 0 0) [] rfl Hnil.out (some x) n cap vs rfl (Hr.out.ext ((Ext.refl _).alloc _)) hl2 ?_; intro v' w' h1 h2; have h3 := Keep.new ((Ext.refl w).alloc _) (grown_keep h2) (fun k hk => by simp [Value.ownBlock] at hk; omega))
    go_ret
    exact ⟨_, rfl, h3, h1⟩

set_option maxRecDepth 100000 in
set_option maxHeartbeats 1600000 in
theorem copied_any (f : Fr) (a : Option Addr) (cap : Nat) (w : World) (hr : Ints w a f.nums.length f.nums) (hl : f.nums.length ≤ 1000) :
    Calls Tryd.prog 34 #[frv f a cap] w fun e w' => ∃ v, e = .returned (FV.mk f v).val ∧ Ext w w' ∧ IRow w.heap.size w' v f.nums := by
  obtain ⟨kind, fr, to, seq, nums⟩ := f
  simp only at hr hl
  have HC := fun w1 (x : Ext w w1) => hid (clone_any a nums.length cap nums w1 (hr.ext x) hl)
  clear hr hl
  unfold frv
  simp only
  obtain ⟨W, hW⟩ : ∃ W, W = (w.alloc (.cells #[.int .u8 (kind.toNat : Int), .int .i64 fr, .int .i64 to, .int .i64 seq, .slice a nums.length cap] 48)).alloc (.cells frz 48) := ⟨_, rfl⟩
  have xW : Ext w W := by rw [hW]; exact ((Ext.refl w).alloc _).alloc _
  have bA : Blk W w.heap.size #[.int .u8 (kind.toNat : Int), .int .i64 fr, .int .i64 to, .int .i64 seq, .slice a nums.length cap] 48 := by rw [hW]; exact (Blk.new _ _ _).alloc _
  have bT : Blk W (w.heap.size + 1) frz 48 := by
    rw [hW]
    have := Blk.new (w.alloc (.cells #[.int .u8 (kind.toNat : Int), .int .i64 fr, .int .i64 to, .int .i64 seq, .slice a nums.length cap] 48)) frz 48
    rwa [heap_size_alloc] at this
  unfold frz at hW
  have hsz : W.heap.size = w.heap.size + 1 + 1 := by rw [hW]; simp
  have HW := hid hW
  clear hW
  have c4 := bA.av 4 rfl
  go_enter Tryd.func34, Tryd.ntmps34
  go_wp2_with fail
  rw [← HW.out]
  refine (HC W xW).out.mono ?_
  intro e w1 hx
  obtain ⟨v, rfl, hx1, hI⟩ := hx
  obtain ⟨a', c', rfl⟩ := hI.form
  have bA := bA.ext hx1
  have bT := bT.ext hx1
  have d0 := bA.av 0 rfl
  have d1 := bA.av 1 rfl
  have d2 := bA.av 2 rfl
  have d3 := bA.av 3 rfl
  have d4 := bA.av 4 rfl
  have e0 := bT.av 0 rfl
  have e1 := bT.av 1 rfl
  have e2 := bT.av 2 rfl
  have e3 := bT.av 3 rfl
  have e4 := bT.av 4 rfl
  have fA := bA.free
  have fT := bT.free
  have hne : w.heap.size ≠ w.heap.size + 1 := by omega
  have hBT := hid (store5 (b0 := .int .u8 (kind.toNat : Int)) (b1 := .int .i64 fr) (b2 := .int .i64 to) (b3 := .int .i64 seq) (b4 := .slice a' nums.length c') (bT.set_ne (p := ⟨w.heap.size, 4, none⟩) hne (.slice a' nums.length c')))
  have hk := hid ((Keep.set (X := fun b => b = w.heap.size ∨ b = w.heap.size + 1) (Keep.refl _ w1) (p := ⟨w.heap.size, 4, none⟩) (.inl rfl) (.slice a' nums.length c')).trans ((store5_keep (w1.setCell ⟨w.heap.size, 4, none⟩ (.slice a' nums.length c')) (w.heap.size + 1) (.int .u8 (kind.toNat : Int)) (.int .i64 fr) (.int .i64 to) (.int .i64 seq) (.slice a' nums.length c')).mono fun b _ h => .inr h))
  have bA' := hid bA
  have bT' := hid bT
  clear c4 bA bT HC
  have HI := hid hI
  have Hx := hid (xW.trans hx1)
  clear hI hx1 xW HW
  generalize hN : w.heap.size = N at *
  have HN := hid hN
  clear hN
  go_wp2
  exact bodyPost_ret (v := (FV.mk ⟨kind, fr, to, seq, nums⟩ (.slice a' nums.length c')).val) (by simp [results, Tryd.results34, go_sem, hBT.out.av 0 rfl, hBT.out.av 1 rfl, hBT.out.av 2 rfl, hBT.out.av 3 rfl, hBT.out.av 4 rfl]; rfl) rfl ⟨_, rfl, Keep.new Hx.out hk.out (fun b hb => by have := HN.out; rcases hb with hb | hb <;> omega), (HI.out.base (by have := HN.out; omega)).keep hk.out (fun b hb e => by have := (HI.out.lt hb).1; rcases e with e | e <;> omega)⟩

/-- Are the ends of a link so? -/
def endsCode (fr to : Int) : Nat := if fr < 0 ∨ 6 ≤ fr ∨ to < 0 ∨ 6 ≤ to then 2 else if fr = to then 3 else 0

set_option maxRecDepth 100000 in
set_option maxHeartbeats 800000 in
theorem ends_any (fr to : Int) (w : World) (ev : Nat → Value) (he : ErrsC w ev) : Calls Tryd.prog 32 #[.int .i64 fr, .int .i64 to] w fun e w' => e = .returned (errv ev (endsCode fr to)) ∧ w = w' := by
  have e2 := he.bound
  have e3 := he.shape
  clear he
  by_cases h1 : fr < 0
  · have Hc := hid (show endsCode fr to = 2 by unfold endsCode; rw [if_pos (.inl h1)])
    go_enter Tryd.func32, Tryd.ntmps32
    go_wp2
    go_ret
    exact ⟨by rw [Hc.out]; rfl, rfl⟩
  by_cases h2 : 6 ≤ fr
  · have Hc := hid (show endsCode fr to = 2 by unfold endsCode; rw [if_pos (.inr (.inl h2))])
    go_enter Tryd.func32, Tryd.ntmps32
    go_wp2
    go_ret
    exact ⟨by rw [Hc.out]; rfl, rfl⟩
  by_cases h3 : to < 0
  · have Hc := hid (show endsCode fr to = 2 by unfold endsCode; rw [if_pos (.inr (.inr (.inl h3)))])
    go_enter Tryd.func32, Tryd.ntmps32
    go_wp2
    go_ret
    exact ⟨by rw [Hc.out]; rfl, rfl⟩
  by_cases h4 : 6 ≤ to
  · have Hc := hid (show endsCode fr to = 2 by unfold endsCode; rw [if_pos (.inr (.inr (.inr h4)))])
    go_enter Tryd.func32, Tryd.ntmps32
    go_wp2
    go_ret
    exact ⟨by rw [Hc.out]; rfl, rfl⟩
  by_cases h5 : fr = to
  · have Hc := hid (show endsCode fr to = 3 by unfold endsCode; rw [if_neg (by omega), if_pos h5])
    subst h5
    go_enter Tryd.func32, Tryd.ntmps32
    go_wp2
    go_ret
    exact ⟨by rw [Hc.out]; rfl, rfl⟩
  · have Hc := hid (show endsCode fr to = 0 by unfold endsCode; rw [if_neg (by omega), if_neg h5])
    go_enter Tryd.func32, Tryd.ntmps32
    go_wp2
    go_ret
    exact ⟨by rw [Hc.out]; rfl, rfl⟩

def kcells (x : FV × Int) : List Value := x.1.cells ++ [.int .i64 x.2]
theorem kcells_len (x : FV × Int) : (kcells x).length = 6 := rfl
/-- A sender at p. -/
structure SndAt (w : World) (n0 : Nat) (t : Option Nat) (p : Nat) (s : Snd) (lv : Value) (ks : List (FV × Int)) : Prop where
  hp : Blk w p #[.int .i64 s.fr, .int .i64 s.to, .int .i64 s.next, .int .i64 s.now, lv] 88
  hl : w.ownsRow n0 97 6 lv ks.length (ks.flatMap kcells)
  hn : ∀ x ∈ ks, x.1.At w n0 t
  eq : s.l = ks.map fun x => (x.1.f, x.2)
  lo : n0 ≤ p
theorem SndAt.len {w : World} {n0 : Nat} {t : Option Nat} {p : Nat} {s : Snd} {lv : Value} {ks : List (FV × Int)} (h : SndAt w n0 t p s lv ks) : s.l.length = ks.length := by rw [h.eq]; simp
theorem SndAt.keep {w w' : World} {n0 : Nat} {t : Option Nat} {p : Nat} {s : Snd} {lv : Value} {ks : List (FV × Int)} {X : Nat → Prop} (h : SndAt w n0 t p s lv ks) (k : Keep X w w') (hx : Wr w n0 t X) (h1 : ¬ X p) (h2 : ∀ b, lv.ownBlock = some b → ¬ X b) : SndAt w' n0 t p s lv ks :=
  ⟨h.hp.keep k h1, row_keep h.hl k h2, fun x hm => NumsAt.keep (h.hn x hm) k hx, h.eq, h.lo⟩
theorem SndAt.ext {w w' : World} {n0 : Nat} {t : Option Nat} {p : Nat} {s : Snd} {lv : Value} {ks : List (FV × Int)} (h : SndAt w n0 t p s lv ks) (x : Ext w w') : SndAt w' n0 t p s lv ks :=
  h.keep (x.keep fun _ => False) Wr.none (fun e => e) fun _ _ e => e
/-- A receiver at q, its map in block b. -/
structure RcvAt (w : World) (n0 : Nat) (t : Option Nat) (q b : Nat) (r : Rcv) (ms : List FV) : Prop where
  hp : Blk w q #[.int .i64 r.fr, .int .i64 r.to, .int .i64 r.due, .map (some b)] 91
  hm : MapAt w b (ms.map fun x => (x.f.seq, x.val))
  hn : ∀ x ∈ ms, x.At w n0 t
  eq : r.wait = ms.map FV.f
  lo : n0 ≤ q ∧ n0 ≤ b
theorem RcvAt.keep {w w' : World} {n0 : Nat} {t : Option Nat} {q b : Nat} {r : Rcv} {ms : List FV} {X : Nat → Prop} (h : RcvAt w n0 t q b r ms) (k : Keep X w w') (hx : Wr w n0 t X) (h1 : ¬ X q) (h2 : ¬ X b) : RcvAt w' n0 t q b r ms :=
  ⟨h.hp.keep k h1, h.hm.keep k h2, fun x hm => NumsAt.keep (h.hn x hm) k hx, h.eq, h.lo⟩
theorem RcvAt.ext {w w' : World} {n0 : Nat} {t : Option Nat} {q b : Nat} {r : Rcv} {ms : List FV} (h : RcvAt w n0 t q b r ms) (x : Ext w w') : RcvAt w' n0 t q b r ms :=
  h.keep (x.keep fun _ => False) Wr.none (fun e => e) fun e => e

set_option maxRecDepth 100000 in
set_option maxHeartbeats 800000 in
theorem newS_bad (fr to : Int) (w : World) (ev : Nat → Value) (he : ErrsC w ev) (c : Nat) (hc : endsCode fr to = c) (h0 : c ≠ 0) (hev : ∃ t v, ev c = .iface t v) : Calls Tryd.prog 7 #[.int .i64 fr, .int .i64 to] w fun e w' => e = .returned (.tuple #[.pointer none, ev c]) ∧ w = w' := by
  have HE := hid (ends_any fr to w ev he)
  rw [hc] at HE
  unfold errv at HE
  rw [if_neg h0] at HE
  obtain ⟨t, v, hev⟩ := hev
  rw [hev] at HE ⊢
  clear he hc hev h0
  go_enter Tryd.func7, Tryd.ntmps7
  go_wp2_with fail
  refine HE.out.mono ?_
  intro e w1 hx
  obtain ⟨rfl, rfl⟩ := hx
  go_wp2
  go_ret2
  exact ⟨rfl, rfl⟩
set_option maxRecDepth 100000 in
set_option maxHeartbeats 800000 in
theorem newR_bad (fr to : Int) (w : World) (ev : Nat → Value) (he : ErrsC w ev) (c : Nat) (hc : endsCode fr to = c) (h0 : c ≠ 0) (hev : ∃ t v, ev c = .iface t v) : Calls Tryd.prog 8 #[.int .i64 fr, .int .i64 to] w fun e w' => e = .returned (.tuple #[.pointer none, ev c]) ∧ w = w' := by
  have HE := hid (ends_any fr to w ev he)
  rw [hc] at HE
  unfold errv at HE
  rw [if_neg h0] at HE
  obtain ⟨t, v, hev⟩ := hev
  rw [hev] at HE ⊢
  clear he hc hev h0
  go_enter Tryd.func8, Tryd.ntmps8
  go_wp2_with fail
  refine HE.out.mono ?_
  intro e w1 hx
  obtain ⟨rfl, rfl⟩ := hx
  go_wp2
  go_ret2
  exact ⟨rfl, rfl⟩
set_option maxRecDepth 100000 in
set_option maxHeartbeats 800000 in
theorem newS_ok (fr to : Int) (w : World) (ev : Nat → Value) (he : ErrsC w ev) (n0 : Nat) (t : Option Nat) (hn0 : n0 ≤ w.heap.size) (hc : endsCode fr to = 0) : Calls Tryd.prog 7 #[.int .i64 fr, .int .i64 to] w fun e w' => e = .returned (.tuple #[.pointer (some ⟨w.heap.size, 0, none⟩), .nilIface]) ∧ SndAt w' n0 t w.heap.size (Snd.new fr to) (.slice none 0 0) [] ∧ Ext w w' := by
  have HE := hid (ends_any fr to w ev he)
  rw [hc] at HE
  unfold errv at HE
  rw [if_pos rfl] at HE
  have hR := hid (show SndAt (w.alloc (.cells #[.int .i64 fr, .int .i64 to, .int .i64 0, .int .i64 0, .slice none 0 0] 88)) n0 t w.heap.size (Snd.new fr to) (.slice none 0 0) [] from ⟨Blk.new _ _ _, World.ownsRow_nil _ _ _ _, fun _ h => (by cases h), rfl, hn0⟩)
  clear he hc
  go_enter Tryd.func7, Tryd.ntmps7
  go_wp2_with fail
  refine HE.out.mono ?_
  intro e w1 hx
  obtain ⟨rfl, rfl⟩ := hx
  go_wp2
  go_ret2
  exact ⟨rfl, hR.out, (Ext.refl _).alloc _⟩
set_option maxRecDepth 100000 in
set_option maxHeartbeats 800000 in
theorem newR_ok (fr to : Int) (w : World) (ev : Nat → Value) (he : ErrsC w ev) (n0 : Nat) (t : Option Nat) (hn0 : n0 ≤ w.heap.size) (hc : endsCode fr to = 0) : Calls Tryd.prog 8 #[.int .i64 fr, .int .i64 to] w fun e w' => ∃ q b, e = .returned (.tuple #[.pointer (some ⟨q, 0, none⟩), .nilIface]) ∧ RcvAt w' n0 t q b (Rcv.new fr to) [] ∧ Ext w w' ∧ w.heap.size ≤ q ∧ w.heap.size ≤ b := by
  have HE := hid (ends_any fr to w ev he)
  rw [hc] at HE
  unfold errv at HE
  rw [if_pos rfl] at HE
  have hR := hid (show RcvAt ((w.alloc (.map #[] 0)).alloc (.cells #[.int .i64 fr, .int .i64 to, .int .i64 0, .map (some w.heap.size)] 91)) n0 t (w.heap.size + 1) w.heap.size (Rcv.new fr to) [] from by
    refine ⟨?_, (MapAt.new w).ext ((Ext.refl _).alloc _), fun _ h => (by cases h), rfl, by omega, hn0⟩
    have := Blk.new (w.alloc (.map #[] 0)) #[.int .i64 fr, .int .i64 to, .int .i64 0, .map (some w.heap.size)] 91
    rwa [heap_size_alloc] at this)
  have hmm := @run_makeMap Tryd.prog
  clear he hc
  go_enter Tryd.func8, Tryd.ntmps8
  go_wp2_with fail
  refine HE.out.mono ?_
  intro e w1 hx
  obtain ⟨rfl, rfl⟩ := hx
  go_wp2
  go_ret2
  exact ⟨w.heap.size + 1, w.heap.size, rfl, hR.out, ((Ext.refl _).alloc _).alloc _, by omega, by omega⟩

set_option maxRecDepth 100000 in
set_option maxHeartbeats 400000 in
theorem waits_any (w : World) (n0 : Nat) (t : Option Nat) (p : Nat) (s : Snd) (lv : Value) (ks : List (FV × Int)) (h : SndAt w n0 t p s lv ks) : Calls Tryd.prog 25 #[.pointer (some ⟨p, 0, none⟩)] w fun e w' => e = .returned (.int .i64 (s.l.length : Int)) ∧ w = w' := by
  have c4 := h.hp.av 4 rfl
  obtain ⟨a, c, hlv⟩ := row_form h.hl
  rw [h.len]
  subst hlv
  clear h
  generalize ks.length = n at *
  go_enter Tryd.func25, Tryd.ntmps25
  go_wp2
  go_ret
  exact ⟨rfl, rfl⟩
set_option maxRecDepth 100000 in
set_option maxHeartbeats 400000 in
theorem due_any (w : World) (n0 : Nat) (t : Option Nat) (q b : Nat) (r : Rcv) (ms : List FV) (h : RcvAt w n0 t q b r ms) : Calls Tryd.prog 26 #[.pointer (some ⟨q, 0, none⟩)] w fun e w' => e = .returned (.int .i64 r.due) ∧ w = w' := by
  have c2 := h.hp.av 2 rfl
  clear h
  go_enter Tryd.func26, Tryd.ntmps26
  go_wp2
  go_ret
  exact ⟨rfl, rfl⟩
end Go.Proofs.YtkabgmohgjljkaaDoor
