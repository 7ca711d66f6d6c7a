/- Texts of one proof, put together: FB MP L1 LM L2 L3 L5 L6 L7 U8 U9 UQ UR UT UV UW. -/
import Derived.Test.YtihdpijgngooaaaGreatDoorHHT01
import Derived.Test.YtihdpijgngooaaaGreatDoorHHT02
import Derived.MapKept
import Derived.Maps.OwnSet
import Derived.Lib.SliceRun
import Derived.Carry
import Derived.Maps.AppendAt
import Derived.LaidEql
set_option linter.unusedSimpArgs false
set_option linter.unusedVariables false
namespace Go.Proofs.YtihdpijgngooaaaGreatDoor
open Go Go.RowKit
theorem ret_bool {b c : Bool} (h : b = c) : Ending.returned (.bool b) = Ending.returned (.bool c) := by rw [h]
theorem IRow.base {base b2 : Nat} {w : World} {v : Value} {l : List Int} (h : IRow base w v l) (hb : b2 ≤ base) : IRow b2 w v l := by
  obtain ⟨h1, h2⟩ := h
  refine ⟨h1, h2.imp id ?_⟩
  rintro ⟨g, cap, cur, rfl, hg, h3⟩
  exact ⟨g, cap, cur, rfl, Nat.le_trans hb hg, h3⟩
set_option maxRecDepth 100000 in
set_option maxHeartbeats 1600000 in
theorem sameints_any (a b : Option Addr) (n m cap cap2 : Nat) (vs us : List Int) (w : World) (hr : Ints w a n vs) (hr2 : Ints w b m us) (hl : (n : Int) ≤ 9223372036854775807) (hl2 : (m : Int) ≤ 9223372036854775807) :
    Calls Tryz.prog 13 #[.slice a n cap, .slice b m cap2] w fun e w' => e = .returned (.bool (decide (vs = us))) ∧ Ext w w' := by
  have Hr := hid hr
  have Hr2 := hid hr2
  clear hr hr2
  by_cases hnm : n = m
  · subst hnm
    go_enter Tryz.func13, Tryz.ntmps13
    go_wp2
    go_loopw [5] (fun t5 wr => ∃ k : Nat, t5 = .int .i64 (k : Int) ∧ k ≤ n ∧ (∀ j, j < k → vs.getD j 0 = us.getD j 0) ∧ Ext w wr) (fun t5 _ => n - (intOf t5).toNat)
    case atStart => exact ⟨0, rfl, Nat.zero_le _, fun j h => by omega, Ext.refl _⟩
    case round =>
      obtain ⟨k, rfl, hk, hne, hx⟩ := hrel
      have Hne := hid hne
      clear hne
      by_cases hlt : k < n
      · obtain ⟨x, rfl⟩ := Hr.out.sm (by omega)
        obtain ⟨y, rfl⟩ := Hr2.out.sm (by omega)
        have hc : ∀ w1, Keep (fun _ => False) wr w1 → w1.cell? (x.add k) = some (.int .i64 (vs.getD k 0)) := fun w1 hk => hk.cellx (hx.cellx (Hr.out.cl x rfl k hlt)) (fun h => h)
        have hd : ∀ w1, Keep (fun _ => False) wr w1 → w1.cell? (y.add k) = some (.int .i64 (us.getD k 0)) := fun w1 hk => hk.cellx (hx.cellx (Hr2.out.cl y rfl k hlt)) (fun h => h)
        have Heq : Hid (vs.getD k 0 ≠ us.getD k 0 → decide (vs = us) = false) := hid fun h => decide_eq_false fun e => h (by rw [e])
        obtain ⟨p, hp⟩ : ∃ p, p = vs.getD k 0 := ⟨_, rfl⟩
        obtain ⟨q, hq⟩ : ∃ q, q = us.getD k 0 := ⟨_, rfl⟩
        rw [← hp] at hc Heq
        rw [← hq] at hd Heq
        have Hp := hid hp
        have Hq := hid hq
        clear hp hq
        by_cases hpq : p = q
        · subst hpq
          go_wp2
          refine wp_flowT (fun _ => False) (by kernel_rfl) (by kernel_rfl) ?_
          repeat (apply FlowT.d; (intro w1 hk; unfold does; go_simp; (try go_ints); (first | exact DetR.mk | (simp only [↓IntWalk.iteOmega, Oper.doesUpon_value]; exact DetR.mk) | (simp only [↓IntWalk.iteOmega]; go_simp; (try go_ints); exact DetR.mk))); simp only [Act.put, qS0, qS1, qS2])
          refine FlowT.fin fun w1 hxx hk => ?_
          have hxx2 := hx.trans hxx
          clear hk hc hd hx hxx Heq
          go_wp2
          go_roundw
          case rel => exact ⟨k + 1, by go_num, by omega, fun j hj => by
            by_cases hjk : j = k
            · subst hjk; rw [← Hp.out, ← Hq.out]
            · exact Hne.out j (by omega), hxx2⟩
          case measure => simp [intOf]; omega
        · have Hpq := hid (Heq.out hpq)
          clear Heq
          go_wp2
          refine wp_flowT (fun _ => False) (by kernel_rfl) (by kernel_rfl) ?_
          repeat (apply FlowT.d; (intro w1 hk; unfold does; go_simp; (try go_ints); (first | exact DetR.mk | (simp only [↓IntWalk.iteOmega, Oper.doesUpon_value]; exact DetR.mk) | (simp only [↓IntWalk.iteOmega]; go_simp; (try go_ints); exact DetR.mk))); simp only [Act.put, qS0, qS1, qS2])
          refine FlowT.fin fun w1 hxx hk => ?_
          have hxx2 := hx.trans hxx
          clear hk hc hd hx hxx
          go_wp2
          go_ret
          exact ⟨ret_bool Hpq.out.symm, hxx2⟩
      · obtain rfl : k = n := by omega
        have hyes : decide (vs = us) = true := decide_eq_true (List.ext_getElem (by rw [Hr.out.ln, Hr2.out.ln]) fun i h1 h2 => by
          have := Hne.out i (by have := Hr.out.ln; omega)
          simpa [List.getD_eq_getElem?_getD, List.getElem?_eq_getElem h1, List.getElem?_eq_getElem h2] using this)
        have Hyes := hid hyes
        clear hyes
        go_wp2
        go_ret
        exact ⟨ret_bool Hyes.out.symm, hx⟩
  · have Hno := hid (decide_eq_false (p := vs = us) fun e => hnm (by rw [← Hr.out.ln, ← Hr2.out.ln, e]))
    have hi : ¬ (n : Int) = (m : Int) := by omega
    go_enter Tryz.func13, Tryz.ntmps13
    go_wp2
    go_ret
    exact ⟨ret_bool Hno.out.symm, Ext.refl _⟩
end Go.Proofs.YtihdpijgngooaaaGreatDoor
namespace Go.Proofs.YtihdpijgngooaaaGreatDoor
open Go Go.RowKit Go.MapKept
def MapAt (w : World) (b : Nat) (m : List (Int × Value)) : Prop := ∃ es clock, w.heap[b]? = some (.map es clock) ∧ es.toList.map (fun x => (x.key, x.val)) = m.map fun x => (Value.int .i64 x.1, x.2)
def mfind (m : List (Int × Value)) (k : Int) (i : Nat) : Option (Nat × Value) := match m with
  | [] => none
  | x :: r => if k == x.1 then some (i, x.2) else mfind r k (i + 1)
def mval (m : List (Int × Value)) (k : Int) : Option Value := (mfind m k 0).map (·.2)
theorem MapAt.ext {w w' : World} {b : Nat} {m : List (Int × Value)} (h : MapAt w b m) (x : Ext w w') : MapAt w' b m := by
  obtain ⟨es, c, hb, he⟩ := h
  exact ⟨es, c, Ext.get x hb, he⟩
theorem MapAt.keep {X : Nat → Prop} {w w' : World} {b : Nat} {m : List (Int × Value)} (h : MapAt w b m) (x : Keep X w w') (hx : ¬ X b) : MapAt w' b m := by
  obtain ⟨es, c, hb, he⟩ := h
  exact ⟨es, c, Keep.get x hb hx, he⟩
theorem MapAt.lt {w : World} {b : Nat} {m : List (Int × Value)} (h : MapAt w b m) : b < w.heap.size := by
  obtain ⟨es, c, hb, he⟩ := h
  exact (Array.getElem?_eq_some_iff.1 hb).1
theorem MapAt.ne {w : World} {b g : Nat} {m : List (Int × Value)} (h : MapAt w b m) {c : Array Value} {e : TypeId} (hb : Blk w g c e) : g ≠ b := by
  rintro rfl
  obtain ⟨es, c, h1, _⟩ := h
  have := h1.symm.trans hb
  cases this
theorem MapAt.new (w : World) : MapAt (w.alloc (.map #[] 0)) w.heap.size [] := ⟨#[], 0, heap_alloc_new w _, rfl⟩
section
variable {P : Program} {w : World} {t kt et : TypeId} {b : Nat} {m : List (Int × Value)}
theorem map_setBlock {es : Array MapEntry} {c : Nat} (hb : w.heap[b]? = some (.map es c)) (o : Obj) : Keep (fun k => k = b) w { w with heap := w.heap.setIfInBounds b o } :=
  ⟨rfl, rfl, rfl, by simp, fun k hk hx => (heap_set (o' := o) hb).2 k hx⟩
variable {ops : Array Oper} {Q : Exit → Act → World → Prop} {rest : List Oper} {o : Oper} {a : Act}
end
end Go.Proofs.YtihdpijgngooaaaGreatDoor
namespace Go.Proofs.YtihdpijgngooaaaGreatDoor
open Go Go.RowKit
section
variable {w : World} {base : Nat} {e : TypeId} {size g n cap : Nat} {xs : List Value}
theorem own_blk (h : w.ownsRow base e size (.slice (some ⟨g, 0, none⟩) n cap) n xs) : ∃ cur, Blk w g cur e ∧ base ≤ g ∧ n ≤ cap ∧ cap ≤ maxLen ∧ cur.size = cap * size ∧ cur.toList.take (n * size) = xs := by
  rcases h.2 with ⟨h1, _⟩ | ⟨g', cap', cur, h1, h2, h3, h4, h5, h6, h7⟩
  · cases h1
  · simp only [Value.slice.injEq, Option.some.injEq, Addr.mk.injEq, and_true] at h1
    obtain ⟨rfl, _, rfl⟩ := h1
    exact ⟨cur, h3, h2, h4, h5, h6, h7⟩
theorem own_of_blk {cur : Array Value} (hb : Blk w g cur e) (h2 : base ≤ g) (h4 : n ≤ cap) (h5 : cap ≤ maxLen) (h6 : cur.size = cap * size) (h7 : cur.toList.take (n * size) = xs) : w.ownsRow base e size (.slice (some ⟨g, 0, none⟩) n cap) n xs := by
  refine ⟨?_, .inr ⟨g, cap, cur, rfl, h2, hb, h4, h5, h6, h7⟩⟩
  rw [← h7, List.length_take, Array.length_toList, h6]
  exact Nat.min_eq_left (Nat.mul_le_mul_right _ h4)
theorem own_get (h : w.ownsRow base e size (.slice (some ⟨g, 0, none⟩) n cap) n xs) (i : Nat) {u : Value} (hu : xs[i]? = some u) : w.cell? ⟨g, i, none⟩ = some u := by
  have := h.cells (g := g) rfl i u hu
  rwa [show (⟨g, 0, none⟩ : Addr).add i = ⟨g, i, none⟩ from by by_cases h0 : i = 0 <;> simp [Addr.add, h0]] at this
theorem own_free (h : w.ownsRow base e size (.slice (some ⟨g, 0, none⟩) n cap) n xs) (i : Nat) : w.frozen? ⟨g, i, none⟩ = false := by
  obtain ⟨cur, hb, _⟩ := own_blk h
  exact hb.free i
theorem own_set (h : w.ownsRow base e size (.slice (some ⟨g, 0, none⟩) n cap) n xs) (i : Nat) (hi : i < xs.length) (v : Value) : (w.setCell ⟨g, i, none⟩ v).ownsRow base e size (.slice (some ⟨g, 0, none⟩) n cap) n (xs.set i v) := by
  obtain ⟨cur, hb, h2, h4, h5, h6, h7⟩ := own_blk h
  refine own_of_blk (hb.set i v) h2 h4 h5 (by simpa using h6) ?_
  rw [Array.toList_setIfInBounds, List.take_set, h7]
theorem row_form {v : Value} (h : w.ownsRow base e size v n xs) : ∃ a c, v = .slice a n c := by
  rcases h.2 with ⟨h2, h3⟩ | ⟨g, cap, cur, h2, _⟩
  · exact ⟨none, 0, by rw [h2, h3]⟩
  · exact ⟨_, _, h2⟩
theorem row_keep {w' : World} {v : Value} {X : Nat → Prop} (h : w.ownsRow base e size v n xs) (k : Keep X w w') (hx : ∀ i, v.ownBlock = some i → ¬ X i) : w'.ownsRow base e size v n xs := by
  obtain ⟨h1, h2⟩ := h
  refine ⟨h1, h2.imp id ?_⟩
  rintro ⟨g, cap, cur, rfl, hb, hg, h3⟩
  exact ⟨g, cap, cur, rfl, hb, Keep.get k hg (hx g rfl), h3⟩
theorem own_some {v : Value} (h : w.ownsRow base e size v n xs) (hn : 0 < n) : ∃ g cap, v = .slice (some ⟨g, 0, none⟩) n cap := by
  rcases h.2 with ⟨_, h1⟩ | ⟨g', cap', cur, h1, _⟩
  · omega
  · exact ⟨g', cap', h1⟩
theorem own_ty {v : Value} (h : w.ownsRow base e size v n xs) {k : Nat} (hk : v.ownBlock = some k) : ∃ c, Blk w k c e := by
  rcases h.2 with ⟨rfl, _⟩ | ⟨g, cap, cur, rfl, _, hg, _⟩
  · simp [Value.ownBlock] at hk
  · simp only [Value.ownBlock, Option.some.injEq] at hk
    subst hk
    exact ⟨cur, hg⟩
end
theorem Blk.inj {w : World} {b : Nat} {c c' : Array Value} {e e' : TypeId} (h : Blk w b c e) (h' : Blk w b c' e') : c = c' ∧ e = e' := by
  unfold Blk at h h'
  rw [h] at h'
  simp only [Option.some.injEq, Obj.cells.injEq, and_true] at h'
  exact h'
theorem Blk.ty_ne {w : World} {a b : Nat} {c c' : Array Value} {e e' : TypeId} (h : Blk w a c e) (h' : Blk w b c' e') (hne : e ≠ e') : a ≠ b := fun q => hne (by subst q; exact (h.inj h').2)
theorem fm_len {α : Type} (f : α → List Value) (m : Nat) (hf : ∀ x, (f x).length = m) (l : List α) : (l.flatMap f).length = l.length * m := by
  induction l with
  | nil => simp
  | cons x l ih => simp only [List.flatMap_cons, List.length_append, hf, ih, List.length_cons, Nat.add_mul]; omega
theorem fm_get {α : Type} (f : α → List Value) (m : Nat) (hf : ∀ x, (f x).length = m) : ∀ (l : List α) (i j : Nat) (x : α), l[i]? = some x → j < m → (l.flatMap f)[i * m + j]? = (f x)[j]?
  | [], i, j, x, h, _ => by simp at h
  | y :: l, 0, j, x, h, hj => by
    simp only [List.getElem?_cons_zero, Option.some.injEq] at h
    subst h
    rw [List.flatMap_cons, Nat.zero_mul, Nat.zero_add, List.getElem?_append_left (by rw [hf]; exact hj)]
  | y :: l, i + 1, j, x, h, hj => by
    have ih := fm_get f m hf l i j x (by simpa using h) hj
    rw [List.flatMap_cons, List.getElem?_append_right (by rw [hf, Nat.add_mul]; omega), hf, ← ih]
    congr 1
    rw [Nat.add_mul]; omega
theorem fm_take {α : Type} (f : α → List Value) (m : Nat) (hf : ∀ x, (f x).length = m) : ∀ (l : List α) (k : Nat), (l.flatMap f).take (k * m) = (l.take k).flatMap f
  | l, 0 => by simp
  | [], k + 1 => by simp
  | y :: l, k + 1 => by
    rw [List.take_succ_cons, List.flatMap_cons, List.flatMap_cons, List.take_append, hf, List.take_of_length_le (by rw [hf, Nat.add_mul]; omega), ← fm_take f m hf l k]
    congr 2
    rw [Nat.add_mul]; omega
theorem fm_drop {α : Type} (f : α → List Value) (m : Nat) (hf : ∀ x, (f x).length = m) : ∀ (l : List α) (k : Nat), (l.flatMap f).drop (k * m) = (l.drop k).flatMap f
  | l, 0 => by simp
  | [], k + 1 => by simp
  | y :: l, k + 1 => by
    rw [List.drop_succ_cons, List.flatMap_cons, List.drop_append, hf, List.drop_of_length_le (by rw [hf, Nat.add_mul]; omega), ← fm_drop f m hf l k, List.nil_append]
    congr 1
    rw [Nat.add_mul]; omega
def IsInt (w : World) (b : Nat) : Prop := ∃ c z, w.heap[b]? = some (.cells c 3 z)
theorem IsInt.keep {X : Nat → Prop} {w w' : World} {b : Nat} (h : IsInt w b) (k : Keep X w w') (hx : ¬ X b) : IsInt w' b := by
  obtain ⟨c, z, h⟩ := h
  exact ⟨c, z, Keep.get k h hx⟩
theorem IsInt.not {w : World} {b : Nat} {c : Array Value} {e : TypeId} (h : Blk w b c e) (hne : e ≠ 3) : ¬ IsInt w b := by
  rintro ⟨c', z, h'⟩
  unfold Blk at h
  rw [h] at h'
  simp only [Option.some.injEq, Obj.cells.injEq] at h'
  exact hne h'.2.1
structure NumsAt (w : World) (n0 : Nat) (t : Option Nat) (v : Value) (l : List Int) : Prop where
  form : ∃ a cap, v = .slice a l.length cap ∧ Ints w a l.length l ∧ ∀ x, a = some x → 0 < l.length → x.block < n0 ∨ (IsInt w x.block ∧ t ≠ some x.block)
def Wr (w : World) (n0 : Nat) (t : Option Nat) (X : Nat → Prop) : Prop := ∀ b, X b → b < w.heap.size → n0 ≤ b ∧ (IsInt w b → t = some b)
theorem Ints.keep {X : Nat → Prop} {w w' : World} {a : Option Addr} {len : Nat} {vs : List Int} (h : Ints w a len vs) (k : Keep X w w') (hx : ∀ x, a = some x → 0 < len → ¬ X x.block) : Ints w' a len vs :=
  ⟨h.ln, h.sm, fun y hy i hi => k.cellx (h.cl y hy i hi) (by rw [add_block]; exact hx y hy (by omega)), h.hi⟩
theorem Ints.blt {w : World} {a : Option Addr} {len : Nat} {vs : List Int} (h : Ints w a len vs) {x : Addr} (hx : a = some x) (hl : 0 < len) : x.block < w.heap.size := by
  have := cell_lt (h.cl x hx 0 hl)
  rwa [add_block] at this
section
variable {w w' : World} {n0 : Nat} {t : Option Nat} {v : Value} {l : List Int}
theorem NumsAt.keep {X : Nat → Prop} (h : NumsAt w n0 t v l) (k : Keep X w w') (hx : Wr w n0 t X) : NumsAt w' n0 t v l := by
  obtain ⟨a, cap, rfl, hi, hb⟩ := h
  have hne : ∀ x, a = some x → 0 < l.length → ¬ X x.block := fun x hx' hl hX => by
    obtain ⟨h1, h2⟩ := hx _ hX (hi.blt hx' hl)
    rcases hb x hx' hl with h3 | h3
    · omega
    · exact h3.2 (h2 h3.1)
  exact ⟨a, cap, rfl, hi.keep k hne, fun x hx' hl => (hb x hx' hl).imp id fun h => ⟨h.1.keep k (hne x hx' hl), h.2⟩⟩
theorem Wr.none {w : World} {n0 : Nat} {t : Option Nat} : Wr w n0 t fun _ => False := fun _ h => h.elim
theorem NumsAt.ext (h : NumsAt w n0 t v l) (x : Ext w w') : NumsAt w' n0 t v l := h.keep (x.keep fun _ => False) Wr.none
theorem NumsAt.turn (h : NumsAt w n0 t v l) {t' : Option Nat} (ht : ∀ b, t' = some b → t = some b ∨ w.heap.size ≤ b) : NumsAt w n0 t' v l := by
  obtain ⟨a, cap, rfl, hi, hb⟩ := h
  refine ⟨a, cap, rfl, hi, fun x hx hl => (hb x hx hl).imp id fun h => ⟨h.1, fun e => ?_⟩⟩
  rcases ht _ e with h1 | h1
  · exact h.2 h1
  · have := hi.blt hx hl; omega
theorem NumsAt.of_row {base : Nat} (h : IRow base w v l) (hi : ∀ i, l.getD i 0 ≤ 9223372036854775807) (ht : ∀ b, v.ownBlock = some b → t ≠ some b) : NumsAt w n0 t v l := by
  obtain ⟨a, cap, rfl⟩ := h.form
  refine ⟨a, cap, rfl, h.ints hi, fun x hx hl => .inr ⟨?_, ht _ (by subst hx; rfl)⟩⟩
  subst hx
  obtain ⟨c, hc⟩ := own_ty (show w.ownsRow base 3 1 _ l.length (icells l) from h) (k := x.block) rfl
  exact ⟨c, _, hc⟩
theorem NumsAt.hi (h : NumsAt w n0 t v l) : ∀ i, l.getD i 0 ≤ 9223372036854775807 := by
  obtain ⟨a, cap, rfl, hi, hb⟩ := h
  exact hi.hi
end
structure FV where
  f : Fr
  v : Value
def FV.cells (x : FV) : List Value := [.int .u8 (x.f.kind.toNat : Int), .int .i64 x.f.fr, .int .i64 x.f.to, .int .i64 x.f.seq, x.v]
def FV.val (x : FV) : Value := .agg #[.int .u8 (x.f.kind.toNat : Int), .int .i64 x.f.fr, .int .i64 x.f.to, .int .i64 x.f.seq, x.v]
def FV.At (w : World) (n0 : Nat) (t : Option Nat) (x : FV) : Prop := NumsAt w n0 t x.v x.f.nums
theorem FV.cells_len (x : FV) : x.cells.length = 5 := rfl
theorem FV.At.form {w : World} {n0 : Nat} {t : Option Nat} {x : FV} (h : x.At w n0 t) : ∃ a cap, x.val = frv x.f a cap ∧ x.v = .slice a x.f.nums.length cap ∧ Ints w a x.f.nums.length x.f.nums := by
  obtain ⟨a, cap, hv, hi, _⟩ := NumsAt.form h
  exact ⟨a, cap, by unfold FV.val frv; rw [hv], hv, hi⟩
structure FRow (w : World) (n0 : Nat) (t : Option Nat) (base : Nat) (e : TypeId) (v : Value) (fs : List FV) : Prop where
  row : w.ownsRow base e 5 v fs.length (fs.flatMap FV.cells)
  nums : ∀ x ∈ fs, x.At w n0 t
theorem FRow.nil (w : World) (n0 : Nat) (t : Option Nat) (base : Nat) (e : TypeId) : FRow w n0 t base e (.slice none 0 0) [] := ⟨World.ownsRow_nil _ _ _ _, fun _ h => by cases h⟩
theorem FRow.keep {w w' : World} {n0 : Nat} {t : Option Nat} {base : Nat} {e : TypeId} {v : Value} {fs : List FV} {X : Nat → Prop} (h : FRow w n0 t base e v fs) (k : Keep X w w') (hx : Wr w n0 t X) (hr : ∀ b, v.ownBlock = some b → ¬ X b) : FRow w' n0 t base e v fs :=
  ⟨row_keep h.row k hr, fun x hm => NumsAt.keep (h.nums x hm) k hx⟩
theorem FRow.ext {w w' : World} {n0 : Nat} {t : Option Nat} {base : Nat} {e : TypeId} {v : Value} {fs : List FV} (h : FRow w n0 t base e v fs) (x : Ext w w') : FRow w' n0 t base e v fs := h.keep (x.keep fun _ => False) Wr.none fun _ _ h => h
theorem FRow.form {w : World} {n0 : Nat} {t : Option Nat} {base : Nat} {e : TypeId} {v : Value} {fs : List FV} (h : FRow w n0 t base e v fs) : ∃ a cap, v = .slice a fs.length cap := row_form h.row
end Go.Proofs.YtihdpijgngooaaaGreatDoor
namespace Go.Proofs.YtihdpijgngooaaaGreatDoor
structure Snd where
  fr : Int
  to : Int
  next : Int
  now : Int
  l : List (Fr × Int)
namespace Snd
def new (fr to : Int) : Snd := ⟨fr, to, 0, 0, []⟩
def frame (s : Snd) (kind : UInt8) (nums : List Int) : Fr := ⟨kind, s.fr, s.to, s.next, nums⟩
def err (s : Snd) (kind : UInt8) (nums : List Int) : Nat := if (s.frame kind nums).code ≠ 0 then (s.frame kind nums).code else if kind = 97 then 4 else if 200 ≤ s.l.length then 8 else 0
def sent (s : Snd) (kind : UInt8) (nums : List Int) : Snd := { s with next := s.next + 1, l := s.l ++ [(s.frame kind nums, s.now)] }
def send (s : Snd) (kind : UInt8) (nums : List Int) : Snd := if s.err kind nums = 0 then s.sent kind nums else s
def late (s : Snd) (k : Fr × Int) : Bool := decide (s.now + 1 - k.2 = 3)
def stamp (s : Snd) (k : Fr × Int) : Fr × Int := if s.late k then (k.1, s.now + 1) else k
def tick (s : Snd) : Snd := { s with now := s.now + 1, l := s.l.map s.stamp }
def again (s : Snd) : List Fr := (s.l.filter s.late).map (·.1)
def acked (s : Snd) (n : Int) : Snd := { s with l := s.l.filter fun k => decide (n ≤ k.1.seq) }
structure Ok (s : Snd) (m : Nat) : Prop where
  next : 0 ≤ s.next ∧ s.next ≤ m
  now : 0 ≤ s.now ∧ s.now ≤ m
  at_ : ∀ k ∈ s.l, 0 ≤ k.2 ∧ k.2 ≤ s.now
  len : s.l.length ≤ 200
theorem Ok.new (fr to : Int) : (new fr to).Ok 0 := ⟨by simp [Snd.new], by simp [Snd.new], by simp [Snd.new], by simp [Snd.new]⟩
theorem Ok.mono {s : Snd} {m k : Nat} (h : s.Ok m) (hk : m ≤ k) : s.Ok k := ⟨by have := h.next; omega, by have := h.now; omega, h.at_, h.len⟩
theorem err_zero {s : Snd} {kind : UInt8} {nums : List Int} (h : s.err kind nums = 0) : (s.frame kind nums).code = 0 ∧ kind ≠ 97 ∧ s.l.length < 200 := by
  unfold err at h
  split at h
  · contradiction
  rename_i h1
  split at h
  · contradiction
  rename_i h2
  split at h
  · contradiction
  rename_i h3
  exact ⟨by omega, h2, by omega⟩
theorem Ok.sent {s : Snd} {m : Nat} (h : s.Ok m) {kind : UInt8} {nums : List Int} (hl : s.l.length < 200) : (s.sent kind nums).Ok (m + 1) := by
  have h1 := h.next
  have h2 := h.now
  refine ⟨by simp only [Snd.sent]; omega, by simp only [Snd.sent]; omega, fun k hk => ?_, by simp only [Snd.sent, List.length_append, List.length_cons, List.length_nil]; omega⟩
  simp only [Snd.sent, List.mem_append, List.mem_singleton] at hk ⊢
  rcases hk with hk | rfl
  · exact h.at_ k hk
  · exact ⟨h2.1, Int.le_refl _⟩
theorem Ok.send {s : Snd} {m : Nat} (h : s.Ok m) (kind : UInt8) (nums : List Int) : (s.send kind nums).Ok (m + 1) := by
  unfold Snd.send
  split
  · rename_i he
    exact h.sent (err_zero he).2.2
  · exact h.mono (by omega)
theorem Ok.tick {s : Snd} {m : Nat} (h : s.Ok m) : s.tick.Ok (m + 1) := by
  have h1 := h.next
  have h2 := h.now
  refine ⟨by simp only [Snd.tick]; omega, by simp only [Snd.tick]; omega, fun k hk => ?_, by simpa [Snd.tick] using h.len⟩
  simp only [Snd.tick, List.mem_map] at hk ⊢
  obtain ⟨x, hx, rfl⟩ := hk
  have := h.at_ x hx
  unfold stamp
  split
  · simp only; omega
  · omega
theorem Ok.acked {s : Snd} {m : Nat} (h : s.Ok m) (n : Int) : (s.acked n).Ok m :=
  ⟨h.next, h.now, fun k hk => h.at_ k ((List.mem_filter.1 hk).1), Nat.le_trans (List.length_filter_le _ _) h.len⟩
end Snd
structure Rcv where
  fr : Int
  to : Int
  due : Int
  wait : List Fr
namespace Rcv
def new (fr to : Int) : Rcv := ⟨fr, to, 0, []⟩
def find (l : List Fr) (q : Int) : Option Nat := l.findIdx? fun f => decide (f.seq = q)
def run : Nat → Rcv → List Fr → List Fr × Rcv
  | 0, r, out => (out, r)
  | n + 1, r, out => match find r.wait r.due with
    | none => (out, r)
    | some k => run n { r with due := r.due + 1, wait := r.wait.eraseIdx k } (out ++ (r.wait[k]?).toList)
def err (r : Rcv) (f : Fr) : Nat := if f.code ≠ 0 then f.code else if f.fr ≠ r.fr ∨ f.to ≠ r.to ∨ f.kind = 97 then 3 else 0
def took (r : Rcv) (f : Fr) : List Fr × Rcv :=
  if f.seq < r.due ∨ (find r.wait f.seq).isSome then ([], r)
  else if r.due < f.seq then ([], if r.wait.length < 8 then { r with wait := r.wait ++ [f] } else r)
  else run (r.wait.length + 1) { r with due := r.due + 1 } [f]
def take (r : Rcv) (f : Fr) : List Fr × Rcv := if r.err f = 0 then r.took f else ([], r)
end Rcv
end Go.Proofs.YtihdpijgngooaaaGreatDoor
namespace Go.Proofs.YtihdpijgngooaaaGreatDoor
open Go Go.RowKit
def endsCode (fr to : Int) : Nat := if fr < 0 ∨ 6 ≤ fr ∨ to < 0 ∨ 6 ≤ to then 2 else if fr = to then 3 else 0
def kcells (x : FV × Int) : List Value := x.1.cells ++ [.int .i64 x.2]
section
variable {w : World} {n0 : Nat} {t : Option Nat}
theorem Wr.blk {b : Nat} {c : Array Value} {e : TypeId} (hb : Blk w b c e) (hne : e ≠ 3) (hl : n0 ≤ b) : Wr w n0 t fun k => k = b :=
  fun k hk _ => ⟨by omega, fun hi => absurd hi (by subst hk; exact IsInt.not hb hne)⟩
theorem Wr.or {X Y : Nat → Prop} (h1 : Wr w n0 t X) (h2 : Wr w n0 t Y) : Wr w n0 t fun b => X b ∨ Y b := fun b hb hl => hb.elim (fun h => h1 b h hl) fun h => h2 b h hl
theorem Wr.row {v : Value} {e : TypeId} {size n : Nat} {xs : List Value} (h : w.ownsRow n0 e size v n xs) (hne : e ≠ 3) : Wr w n0 t fun k => v.ownBlock = some k :=
  fun k hk _ => ⟨(World.ownsRow.lt h k hk).1, fun hi => by
    obtain ⟨c, hc⟩ := own_ty h hk
    exact absurd hi (IsInt.not hc hne)⟩
theorem Wr.sub {X Y : Nat → Prop} (h : Wr w n0 t Y) (hx : ∀ b, X b → b < w.heap.size → Y b) : Wr w n0 t X := fun b hb hl => h b (hx b hb hl) hl
end
def kval (x : FV × Int) : Value := .agg #[.int .u8 (x.1.f.kind.toNat : Int), .int .i64 x.1.f.fr, .int .i64 x.1.f.to, .int .i64 x.1.f.seq, x.1.v, .int .i64 x.2]
def store6 (w : World) (g i : Nat) (y : FV × Int) : World := (((((w.setCell ⟨g, i, none⟩ (.int .u8 (y.1.f.kind.toNat : Int))).setCell ⟨g, i + 1, none⟩ (.int .i64 y.1.f.fr)).setCell ⟨g, i + 2, none⟩ (.int .i64 y.1.f.to)).setCell ⟨g, i + 3, none⟩ (.int .i64 y.1.f.seq)).setCell ⟨g, i + 4, none⟩ y.1.v).setCell ⟨g, i + 5, none⟩ (.int .i64 y.2)
def keptB (n : Int) (x : FV × Int) : Bool := decide (n ≤ x.1.f.seq)
def kz : Array Value := #[.int .u8 0, .int .i64 0, .int .i64 0, .int .i64 0, .slice none 0 0, .int .i64 0]
theorem wpList_append_el {ops : Array Oper} {Q : Exit → Act → World → Prop} {rest : List Oper} {o : Oper} {a : Act} {w : World} (base : Nat) (hbase : base ≤ w.heap.size) (t e : TypeId) (z : Value) (size bytes : Nat) (ht : Tryz.prog.underlying t = some (.slice e)) (hinf : (Tryz.prog.info? e).map (fun i => (i.zero, i.size, i.bytes)) = some (some z, size, bytes)) (hz1 : z.cells.size = size) (hsz : 0 < size)
    (hb8 : bytes ≤ 64) (hg : o.guard = none) (s x : Operand) (ho : o.op = .call { callee := .builtin .append, args := #[s, x], argTypes := #[t, t] })
    (v : Value) (n : Nat) (xs : List Value) (hs : a.eval s = v) (hown : w.ownsRow base e size v n xs) (g : Nat) (us : List Value) (hul : us.length = size) (hu : ∀ u ∈ us, u.oneCell' = true) (hx : a.eval x = .slice (some ⟨g, 0, none⟩) 1 1) (hb : Blk w g us.toArray e) (hl : n ≤ 1000000)
    (h : ∀ v' w', w'.ownsRow base e size v' (n + 1) (xs ++ us) → Keep (fun k => v.ownBlock = some k) w w' → (v'.ownBlock = v.ownBlock ∨ v'.ownBlock = some w.heap.size) → wpList Tryz.prog ops Q rest (a.put o.dst v') w') : wpList Tryz.prog ops Q (o :: rest) a w := by
  obtain ⟨ti, hi, hz0, hz, hz2⟩ := info_parts hinf
  obtain ⟨v', w', hr, h2, h3, _, h4⟩ := run_append_own_at (P := Tryz.prog) w base t o.type e ti z size bytes ht hi hz0 hz hz2 hz1 hsz v n xs hown ⟨g, 0, none⟩ 1 1 us (by rw [hul]; omega) (fun j q hq => by
    rw [show (⟨g, 0, none⟩ : Addr).add j = ⟨g, j, none⟩ from by by_cases h0 : j = 0 <;> simp [Addr.add, h0], hb.cell j]
    simpa using hq) hu (by simp only [maxLen]; omega) (by
      have : (n + 1) * bytes ≤ (n + 1) * 64 := Nat.mul_le_mul_left _ hb8
      omega) hbase
  refine wpList_plain hg fun K hK => ?_
  unfold Oper.wp
  rw [run_exec_append s x t ho hs hx hr]
  exact hK _ _ (h v' w' h2 (grown_keep h3) h4)
theorem own_low {w : World} {base b2 : Nat} {e : TypeId} {size : Nat} {v : Value} {n : Nat} {xs : List Value} (h : w.ownsRow base e size v n xs) (hb : b2 ≤ base) : w.ownsRow b2 e size v n xs := by
  obtain ⟨h1, h2⟩ := h
  refine ⟨h1, h2.imp id ?_⟩
  rintro ⟨g, cap, cur, rfl, hg, h3⟩
  exact ⟨g, cap, cur, rfl, Nat.le_trans hb hg, h3⟩
theorem str_info : (Tryz.prog.info? 9).map (fun i => (i.zero, i.size, i.bytes)) = some (some (.string ⟨#[]⟩), 1, 16) := by kernel_rfl
theorem ElR.own {w : World} {base n0 : Nat} {e : TypeId} {size : Nat} {v : Value} {n : Nat} {xs : List Value} {E : Nat → Addr → Prop} (h : w.ownsRow base e size v n xs) (h0 : w.heap.size ≤ n0) (hE : ∀ g, (∀ i u, xs[i]? = some u → w.cell? ((⟨g, 0, none⟩ : Addr).add i) = some u) → ∀ i, i < n → E i ⟨g, 0, none⟩) : ElR n0 v n E := by
  obtain ⟨hl, h2⟩ := id h
  rcases h2 with ⟨rfl, rfl⟩ | ⟨g, cap, cur, rfl, hb, hg, hn, hc, hs, _⟩
  · exact ⟨none, 0, rfl, Nat.le_refl _, by omega, fun h => by omega, fun y hy => by cases hy⟩
  · have hml : maxLen = 9223372036854775807 := by decide
    refine ⟨_, cap, rfl, hn, by omega, fun _ => ⟨_, rfl⟩, fun y hy hp => ?_⟩
    obtain rfl := Option.some.inj hy
    refine ⟨Nat.lt_of_lt_of_le (Array.getElem?_eq_some_iff.1 hg).1 h0, hE g fun i u hu => h.cells (g := g) rfl i u hu⟩
theorem StrsR.own {w : World} {base n0 : Nat} {e : TypeId} {v : Value} {l : List ByteArray} (h : w.ownsRow base e 1 v l.length (l.map .string)) (h0 : w.heap.size ≤ n0) : StrsR w n0 v l :=
  ElR.own h h0 fun g hc i hi s hs => hc i _ (by rw [List.getElem?_map, hs]; rfl)
theorem IntsR.own {w : World} {base n0 : Nat} {e : TypeId} {v : Value} {l : List Int} (h : w.ownsRow base e 1 v l.length (icells l)) (h0 : w.heap.size ≤ n0) : IntsR w n0 v l :=
  ElR.own h h0 fun g hc i hi s hs => hc i _ (by unfold icells; rw [List.getElem?_map, hs]; rfl)
set_option maxRecDepth 100000 in
set_option maxHeartbeats 3200000 in
theorem pfunnames_any (a1 a2 a3 : Option Addr) (c1 c2 c3 : Nat) (P : PP) (w : World) (n0 : Nat) (h : FunsR w n0 (.slice a2 P.funs.length c2) P.funs) (hl : P.funs.length ≤ 1000) :
    Calls Tryz.prog 102 #[pval a1 a2 a3 c1 c2 c3 P] w fun e w' => ∃ v, e = .returned v ∧ w'.ownsRow w.heap.size 9 1 v P.funs.length ((P.funs.map PF.name).map .string) ∧ Ext w w' := by
  have HF := hid h
  clear h
  obtain ⟨W, hW⟩ : ∃ W, W = w.alloc (.cells (pcells a1 a2 a3 c1 c2 c3 P) 26) := ⟨_, rfl⟩
  have HW : Hid (Ext w W) := hid (by rw [hW]; exact (Ext.refl _).alloc _)
  have HB : Hid (Blk W w.heap.size (pcells a1 a2 a3 c1 c2 c3 P) 26) := hid (by rw [hW]; exact Blk.new _ _ _)
  unfold pval
  unfold pcells at hW
  have HWe := hid hW
  clear hW
  go_enter Tryz.func102, Tryz.ntmps102
  go_wp2
  rw [← HWe.out]
  go_loopw [3, 9] (fun t3 t9 wr => ∃ (k : Nat), t9 = .int .i64 (k : Int) ∧ k ≤ P.funs.length ∧ wr.ownsRow W.heap.size 9 1 t3 k (((P.funs.take k).map PF.name).map .string) ∧ Ext W wr) (fun _ t9 _ => P.funs.length - (intOf t9).toNat)
  case atStart => exact ⟨0, rfl, Nat.zero_le _, World.ownsRow_nil _ _ _ _, Ext.refl _⟩
  case round =>
    obtain ⟨k, rfl, hk, hrow, hx⟩ := hrel
    obtain ⟨ao, co, rfl⟩ := row_form hrow
    have Hrow := hid hrow
    have Hx := hid hx
    clear hrow hx
    by_cases hlt : k < P.funs.length
    · obtain ⟨y, f, av, cv, rfl, hfk, e0, e1, e2, _⟩ := (HF.out.old ((HW.out.trans Hx.out).old n0)).at hlt
      have Hfk := hid hfk
      obtain ⟨W2, hW2⟩ : ∃ W2, W2 = (wr.alloc (.cells #[.string f.name, .slice av f.params.length cv, .int .i64 f.ret] 75)).alloc (.cells #[.string f.name] 9) := ⟨_, rfl⟩
      have hx2 : Ext wr W2 := by rw [hW2]; exact ((Ext.refl _).alloc _).alloc _
      have HB2 : Hid (Blk W2 (wr.heap.size + 1) #[.string f.name] 9) := hid (by
        rw [hW2]
        have := Blk.new (wr.alloc (.cells #[.string f.name, .slice av f.params.length cv, .int .i64 f.ret] 75)) #[.string f.name] 9
        rwa [heap_size_alloc] at this)
      have Hq := hid (row_keep Hrow.out (hx2.keep fun _ => False) (fun _ _ h => h))
      have Hxw := hid (Hx.out.trans hx2)
      have Hbs : Hid (W.heap.size ≤ W2.heap.size) := hid Hxw.out.size
      have Hol : Hid (k ≤ 1000000) := hid (by omega)
      have HW2 := hid hW2
      clear hW2 hx2 hfk
      go_wp2_with (at_builtin; rw [← HW2.out]; refine wpList_append_el W.heap.size Hbs.out 22 9 (.string ⟨#[]⟩) 1 16 Tryz.underlying22 str_info rfl (by omega) (by omega) rfl _ _ rfl (.slice ao k co) k (((P.funs.take k).map PF.name).map .string) rfl Hq.out (wr.heap.size + 1) [.string f.name] rfl (by simp [Value.oneCell']) rfl HB2.out Hol.out ?_; intro v6 w6 ho6 hk6 hl6)
      go_roundw
      case rel =>
        refine ⟨k + 1, by go_num, by omega, ?_, ?_⟩
        · rw [List.take_add_one, Hfk.out]
          simpa using ho6
        · exact Keep.new Hxw.out hk6 fun b hb => (World.ownsRow.lt Hq.out b hb).1
      case measure => simp [intOf]; omega
    · obtain rfl : k = P.funs.length := by omega
      have Hr := hid (show wr.ownsRow w.heap.size 9 1 (.slice ao P.funs.length co) P.funs.length ((P.funs.map PF.name).map .string) by
        have := Hrow.out
        rw [List.take_length] at this
        exact own_low this HW.out.size)
      clear Hrow
      go_wp2
      go_ret
      exact ⟨_, rfl, Hr.out, HW.out.trans Hx.out⟩
def PP.big (P : PP) : Bool := decide (40 < P.vars.length) || decide (6 < P.funs.length) || decide (80 < P.stmts.length)
def PP.names (P : PP) : List ByteArray := P.funs.map PF.name
def PP.err1 (P : PP) : Nat := bif P.big then 8 else if namesErr P.vars = 5 ∨ namesErr P.names = 5 then 5 else if namesErr P.vars = 7 ∨ namesErr P.names = 7 then 7 else P.funsErr
def PP.FirstBad (P : PP) (i : Nat) (s : PS) : Prop := P.stmts[i]? = some s ∧ P.stmtErr s ≠ 0 ∧ ∀ j t, j < i → P.stmts[j]? = some t → P.stmtErr t = 0
def PP.allWell (P : PP) : Prop := ∀ j t, j < P.stmts.length → P.stmts[j]? = some t → P.stmtErr t = 0
def ErrIs (ad : Nat → Addr) (P : PP) (w : World) (v : Value) : Prop :=
  (P.err1 ≠ 0 ∧ v = evOf ad P.err1) ∨ (P.err1 = 0 ∧ P.allWell ∧ v = .nilIface) ∨
  (P.err1 = 0 ∧ ∃ i s b, P.FirstBad i s ∧ v = .iface 134 (.pointer (some ⟨b, 0, none⟩)) ∧ Blk w b #[.int .i64 (i : Int), evOf ad (P.stmtErr s)] 138)
theorem epComp : (Tryz.prog.info? 262).map (·.comparable) = some true := by kernel_rfl
theorem epSize : (Tryz.prog.info? 283).map (·.size) = some 1 := by kernel_rfl
theorem eq_facts {w : World} {ad : Nat → Addr} (h : ErrsP w ad) :
    (binOp .eql 38 (.iface 262 (.pointer (some (ad 5)))) (.iface 262 (.pointer (some (ad 5))))).run Tryz.prog w = .ok (.bool true) w ∧
    (binOp .eql 38 (.iface 262 (.pointer (some (ad 7)))) (.iface 262 (.pointer (some (ad 7))))).run Tryz.prog w = .ok (.bool true) w ∧
    (binOp .eql 38 (.iface 262 (.pointer (some (ad 5)))) (.iface 262 (.pointer (some (ad 7))))).run Tryz.prog w = .ok (.bool false) w ∧
    (binOp .eql 38 (.iface 262 (.pointer (some (ad 7)))) (.iface 262 (.pointer (some (ad 5))))).run Tryz.prog w = .ok (.bool false) w ∧
    (binOp .eql 38 .nilIface (.iface 262 (.pointer (some (ad 5))))).run Tryz.prog w = .ok (.bool false) w ∧
    (binOp .eql 38 .nilIface (.iface 262 (.pointer (some (ad 7))))).run Tryz.prog w = .ok (.bool false) w := by
  obtain ⟨i, hi, hcmp⟩ := Option.map_eq_some_iff.1 epComp
  obtain ⟨j, hj, hjs⟩ := Option.map_eq_some_iff.1 epSize
  obtain ⟨c5, t5, r5⟩ := h.row5
  obtain ⟨c7, t7, r7⟩ := h.row7
  exact ⟨run_eql_iface_ptr_same w _ Tryz.underlying38 Tryz.underlying262 hi hcmp hj, run_eql_iface_ptr_same w _ Tryz.underlying38 Tryz.underlying262 hi hcmp hj,
    run_eql_iface_ptr_other w Tryz.underlying38 Tryz.underlying262 hi hcmp hj (by rw [hjs]; decide) h.ne57 r5 r7, run_eql_iface_ptr_other w Tryz.underlying38 Tryz.underlying262 hi hcmp hj (by rw [hjs]; decide) h.ne57.symm r7 r5,
    run_eql_iface_nil_left w _ _ Tryz.underlying38, run_eql_iface_nil_left w _ _ Tryz.underlying38⟩
theorem namesErr_cases (l : List ByteArray) : namesErr l = 0 ∨ namesErr l = 5 ∨ namesErr l = 7 := by
  unfold namesErr
  cases anyBad l <;> cases dupS l <;> simp
set_option maxRecDepth 100000 in
set_option maxHeartbeats 12800000 in
theorem pcheck_any (a1 a2 a3 : Option Addr) (c1 c2 c3 : Nat) (P : PP) (w : World) (n0 : Nat) (ad : Nat → Addr) (hE : ErrsP w ad) (h : ProgR w n0 (.slice a1 P.vars.length c1) (.slice a2 P.funs.length c2) (.slice a3 P.stmts.length c3) P)
    (hz1 : ∀ s ∈ P.vars, s.size ≤ 1000000) (hz2 : ∀ s ∈ P.names, s.size ≤ 1000000) (hml1 : (P.vars.length : Int) ≤ 9223372036854775807) :
    Calls Tryz.prog 77 #[pval a1 a2 a3 c1 c2 c3 P] w fun e w' => ∃ v, e = .returned v ∧ ErrIs ad P w' v ∧ Ext w w' := by
  have HP := hid h
  have HE := hid hE
  have hml2 := h.funs.len
  have hml3 := h.stmts.len
  clear h hE
  obtain ⟨W, hW⟩ : ∃ W, W = w.alloc (.cells (pcells a1 a2 a3 c1 c2 c3 P) 26) := ⟨_, rfl⟩
  have HW : Hid (Ext w W) := hid (by rw [hW]; exact (Ext.refl _).alloc _)
  have HB : Hid (Blk W w.heap.size (pcells a1 a2 a3 c1 c2 c3 P) 26) := hid (by rw [hW]; exact Blk.new _ _ _)
  unfold pval
  unfold pcells at hW
  have HWe := hid hW
  clear hW
  have d0 := HB.out.kc (X := fun _ => False) (fun e => e) 0 rfl
  have d1 := HB.out.kc (X := fun _ => False) (fun e => e) 1 rfl
  have d2 := HB.out.kc (X := fun _ => False) (fun e => e) 2 rfl
  simp only [pcells, qA0, qA1, qA2] at d0 d1 d2
  by_cases hbig : P.big = true
  · have he : P.err1 = 8 := by unfold PP.err1; rw [hbig]; rfl
    have He := hid (show ErrIs ad P W (evOf ad 8) from .inl ⟨by rw [he]; decide, by rw [he]⟩)
    unfold PP.big at hbig
    simp only [Bool.or_eq_true, decide_eq_true_eq] at hbig
    have k8 := (HE.out.ext HW.out).at8
    have HE8 := hid (show ErrIs ad P (w.alloc (.cells #[.slice a1 P.vars.length c1, .slice a2 P.funs.length c2, .slice a3 P.stmts.length c3] 26)) (.iface 262 (.pointer (some (ad 8)))) by rw [← HWe.out]; exact He.out)
    have HX8 := hid (show Ext w (w.alloc (.cells #[.slice a1 P.vars.length c1, .slice a2 P.funs.length c2, .slice a3 P.stmts.length c3] 26)) from (Ext.refl w).alloc _)
    unfold evOf at k8
    rw [HWe.out] at k8
    clear he d0 d1 d2
    go_enter Tryz.func77, Tryz.ntmps77
    by_cases b1 : 40 < P.vars.length
    · clear hbig
      go_wp2
      go_ret
      exact ⟨_, rfl, HE8.out, HX8.out⟩
    · by_cases b2 : 6 < P.funs.length
      · clear hbig
        go_wp2
        go_ret
        exact ⟨_, rfl, HE8.out, HX8.out⟩
      · have b3 : 80 < P.stmts.length := by omega
        clear hbig
        go_wp2
        go_ret
        exact ⟨_, rfl, HE8.out, HX8.out⟩
  have hbig' : P.big = false := by simpa using hbig
  have HBig := hid hbig'
  have hb := hbig'
  unfold PP.big at hb
  simp only [Bool.or_eq_false_iff, decide_eq_false_iff_not] at hb
  obtain ⟨⟨q1, q2⟩, q3⟩ := hb
  clear hbig hbig'
  have HFn := hid fun w1 (x : Ext w w1) => pfunnames_any a1 a2 a3 c1 c2 c3 P w1 n0 (HP.out.ext x).funs (by omega)
  unfold pval at HFn
  go_enter Tryz.func77, Tryz.ntmps77
  go_wp2
  rw [← HWe.out]
  refine wp_flowT (fun _ => False) (by kernel_rfl) (by kernel_rfl) ?_
  repeat (apply FlowT.d; (intro w1 hk; unfold does; go_simp; (try go_ints); (first | exact DetR.mk | (simp only [↓IntWalk.iteOmega, Oper.doesUpon_value]; exact DetR.mk) | (simp only [↓IntWalk.iteOmega]; go_simp; (try go_ints); exact DetR.mk))); simp only [Act.put, qS0, qS1, qS2])
  refine FlowT.s (fun v w' => w'.ownsRow W.heap.size 9 1 v P.funs.length (P.names.map .string) ∧ Ext W w') 3 rfl (by kernel_rfl) (fun _ _ _ ⟨h1, h2⟩ x => ⟨own_ext h1 x, h2.trans x⟩) (fun w1 hC hk => ?_) ?_
  · unfold does
    go_simp
    refine CallR.act ((HFn.out w1 (HW.out.trans hk.ext)).mono ?_)
    rintro e w2 ⟨v, rfl, hr, hx⟩
    exact ⟨v, rfl, (hk.ext.trans hx).keep _, own_low hr hk.size, hk.ext.trans hx⟩
  rintro v ⟨_, hI, _⟩
  obtain ⟨a4, c4, rfl⟩ := row_form hI
  clear hI
  simp only [Act.put, qS0, qS1, qS2]
  refine FlowT.s (fun v w' => ∃ g, v = .slice (some ⟨g, 0, none⟩) 2 2 ∧ Blk w' g #[.slice a1 P.vars.length c1, .slice a4 P.funs.length c4] 22 ∧ w'.ownsRow W.heap.size 9 1 (.slice a4 P.funs.length c4) P.funs.length (P.names.map .string) ∧ Ext W w') 4 rfl (by kernel_rfl) (fun _ _ _ ⟨g, h1, h2, h3, h4⟩ x => ⟨g, h1, h2.ext x, own_ext h3 x, h4.trans x⟩) (fun w1 hC hk => ?_) ?_
  · unfold does
    go_simp
    exact ⟨hk.alloc _, _, rfl, Blk.new _ _ _, own_ext hC.1 ((Ext.refl _).alloc _), hC.2.alloc _⟩
  rintro _ ⟨_, g, rfl, _, _⟩
  simp only [Act.put, qS0, qS1, qS2]
  repeat (apply FlowT.d; (intro w1 hk; unfold does; go_simp; (try go_ints); (first | exact DetR.mk | (simp only [↓IntWalk.iteOmega, Oper.doesUpon_value]; exact DetR.mk) | (simp only [↓IntWalk.iteOmega]; go_simp; (try go_ints); exact DetR.mk))); simp only [Act.put, qS0, qS1, qS2])
  refine FlowT.fin fun wA hC hk => ?_
  obtain ⟨g', e, hg, hrow, hxA⟩ := hC
  obtain rfl : g = g' := by simpa using e
  have Hg := hid hg
  have HS2 := hid (StrsR.own (n0 := wA.heap.size) (l := P.names) (by simpa [PP.names] using hrow) (Nat.le_refl _))
  have HxA := hid hxA
  clear hg hrow hxA e hk
  have k5 := (HE.out.ext (HW.out.trans HxA.out)).at5
  have k7 := (HE.out.ext (HW.out.trans HxA.out)).at7
  unfold evOf at k5 k7
  obtain ⟨wB, hwB⟩ : ∃ wB, wB = wA.alloc (.cells #[.iface 262 (.pointer (some (ad 5))), .iface 262 (.pointer (some (ad 7)))] 38) := ⟨_, rfl⟩
  have HxC : Hid (Ext wA wB) := hid (by rw [hwB]; exact (Ext.refl _).alloc _)
  have HxB := hid (HxA.out.trans HxC.out)
  have HB9 : Hid (Blk wB wA.heap.size #[.iface 262 (.pointer (some (ad 5))), .iface 262 (.pointer (some (ad 7)))] 38) := hid (by rw [hwB]; exact Blk.new _ _ _)
  have hne1 : ¬ ad 5 = ad 7 := HE.out.ne57
  have hne2 : ¬ ad 7 = ad 5 := fun h => hne1 h.symm
  have HwB := hid hwB
  clear hwB d0 d1 d2
  go_wp2
  rw [← HwB.out]
  clear k5 k7
  go_loopw [39] (fun t39 wr => ∃ k : Nat, t39 = .int .i64 (k : Int) ∧ k ≤ 2 ∧ (0 < k → namesErr P.vars ≠ 5 ∧ namesErr P.names ≠ 5) ∧ (1 < k → namesErr P.vars ≠ 7 ∧ namesErr P.names ≠ 7) ∧ Ext wB wr) (fun t39 _ => 2 - (intOf t39).toNat)
  case atStart => exact ⟨0, rfl, by omega, fun h => by omega, fun h => by omega, Ext.refl _⟩
  case round =>
    obtain ⟨k, rfl, hk, hp5, hp7, hx⟩ := hrel
    have Hx := hid hx
    have x0 := (HB9.out.ext hx).av 0 rfl
    have x1 := (HB9.out.ext hx).av 1 rfl
    simp only [qA0, qA1, qA2] at x0 x1
    clear hx
    rcases (by omega : k = 0 ∨ k = 1 ∨ k = 2) with rfl | rfl | rfl
    · clear hp5 hp7
      go_wp2
      generalize wr = wz at *
      go_loopw [45] (fun t45 wr => ∃ j : Nat, t45 = .int .i64 (j : Int) ∧ j ≤ 2 ∧ (0 < j → namesErr P.vars ≠ 5) ∧ (1 < j → namesErr P.names ≠ 5) ∧ Ext wB wr) (fun t45 _ => 2 - (intOf t45).toNat)
      case atStart => exact ⟨0, rfl, by omega, fun h => by omega, fun h => by omega, Hx.out⟩
      case round =>
        obtain ⟨j, rfl, hj, hq0, hq1, hy⟩ := hrel
        have Hy := hid hy
        have Hq0 := hid hq0
        have Hq1 := hid hq1
        have r0 := (Hg.out.ext (HxC.out.trans hy)).av 0 rfl
        have r1 := (Hg.out.ext (HxC.out.trans hy)).av 1 rfl
        simp only [qA0, qA1, qA2] at r0 r1
        clear hy hq0 hq1
        rcases (by omega : j = 0 ∨ j = 1 ∨ j = 2) with rfl | rfl | rfl
        · have HN := hid (names_any _ P.vars wr n0 ad (HE.out.ext (HW.out.trans (HxB.out.trans Hy.out))) (HP.out.ext (HW.out.trans (HxB.out.trans Hy.out))).vars hz1)
          go_wp2_with fail
          refine HN.out.mono ?_
          intro e w5 hx5
          obtain ⟨rfl, hx5⟩ := hx5
          have Hx5 := hid (Hy.out.trans hx5)
          clear HN hx5
          obtain ⟨z1, z2, z3, z4, z5, z6⟩ := eq_facts (HE.out.ext (HW.out.trans (HxB.out.trans Hx5.out)))
          rcases namesErr_cases P.vars with hd | hd | hd
          · rw [show errv (evOf ad) (namesErr P.vars) = .nilIface from by rw [hd]; rfl]
            have Hd := hid hd
            clear hd
            go_wp2
            go_roundw
            case rel => exact ⟨_, _, _, _, _, _, _, _, _, _, _, _, _, _, ⟨1, by go_num, by omega, fun h => by first | omega | exact Hq0.out (by omega) | (rw [Hd.out]; decide), fun h => by first | omega | (rw [Hd.out]; decide), Hx5.out⟩, rfl⟩
            case measure => simp [intOf]
          · rw [show errv (evOf ad) (namesErr P.vars) = .iface 262 (.pointer (some (ad 5))) from by rw [hd]; rfl]
            have Hd := hid hd
            clear hd
            go_wp2
            go_ret
            have he : P.err1 = 5 := by unfold PP.err1; rw [HBig.out]; simp [Hd.out]
            exact ⟨_, rfl, .inl ⟨by rw [he]; decide, by rw [he]; rfl⟩, HW.out.trans (HxB.out.trans Hx5.out)⟩
          · rw [show errv (evOf ad) (namesErr P.vars) = .iface 262 (.pointer (some (ad 7))) from by rw [hd]; rfl]
            have Hd := hid hd
            clear hd
            go_wp2
            go_roundw
            case rel => exact ⟨_, _, _, _, _, _, _, _, _, _, _, _, _, _, ⟨1, by go_num, by omega, fun h => by first | omega | exact Hq0.out (by omega) | (rw [Hd.out]; decide), fun h => by first | omega | (rw [Hd.out]; decide), Hx5.out⟩, rfl⟩
            case measure => simp [intOf]
        · have HN := hid (names_any _ P.names wr wA.heap.size ad (HE.out.ext (HW.out.trans (HxB.out.trans Hy.out))) (HS2.out.old ((HxC.out.trans Hy.out).old _)) hz2)
          go_wp2_with fail
          refine HN.out.mono ?_
          intro e w5 hx5
          obtain ⟨rfl, hx5⟩ := hx5
          have Hx5 := hid (Hy.out.trans hx5)
          clear HN hx5
          obtain ⟨z1, z2, z3, z4, z5, z6⟩ := eq_facts (HE.out.ext (HW.out.trans (HxB.out.trans Hx5.out)))
          rcases namesErr_cases P.names with hd | hd | hd
          · rw [show errv (evOf ad) (namesErr P.names) = .nilIface from by rw [hd]; rfl]
            have Hd := hid hd
            clear hd
            go_wp2
            go_roundw
            case rel => exact ⟨_, _, _, _, _, _, _, _, _, _, _, _, _, _, ⟨2, by go_num, by omega, fun h => by first | omega | exact Hq0.out (by omega) | (rw [Hd.out]; decide), fun h => by first | omega | (rw [Hd.out]; decide), Hx5.out⟩, rfl⟩
            case measure => simp [intOf]
          · rw [show errv (evOf ad) (namesErr P.names) = .iface 262 (.pointer (some (ad 5))) from by rw [hd]; rfl]
            have Hd := hid hd
            clear hd
            go_wp2
            go_ret
            have he : P.err1 = 5 := by unfold PP.err1; rw [HBig.out]; simp [Hd.out]
            exact ⟨_, rfl, .inl ⟨by rw [he]; decide, by rw [he]; rfl⟩, HW.out.trans (HxB.out.trans Hx5.out)⟩
          · rw [show errv (evOf ad) (namesErr P.names) = .iface 262 (.pointer (some (ad 7))) from by rw [hd]; rfl]
            have Hd := hid hd
            clear hd
            go_wp2
            go_roundw
            case rel => exact ⟨_, _, _, _, _, _, _, _, _, _, _, _, _, _, ⟨2, by go_num, by omega, fun h => by first | omega | exact Hq0.out (by omega) | (rw [Hd.out]; decide), fun h => by first | omega | (rw [Hd.out]; decide), Hx5.out⟩, rfl⟩
            case measure => simp [intOf]
        · go_wp2
          go_roundw
          case rel => exact ⟨1, by go_num, by omega, fun _ => ⟨Hq0.out (by omega), Hq1.out (by omega)⟩, fun h => by omega, Hy.out⟩
          case measure => simp [intOf]
    · have Hp5 := hid (hp5 (by omega))
      clear hp5 hp7
      go_wp2
      generalize wr = wz at *
      go_loopw [45] (fun t45 wr => ∃ j : Nat, t45 = .int .i64 (j : Int) ∧ j ≤ 2 ∧ (0 < j → namesErr P.vars ≠ 7) ∧ (1 < j → namesErr P.names ≠ 7) ∧ Ext wB wr) (fun t45 _ => 2 - (intOf t45).toNat)
      case atStart => exact ⟨0, rfl, by omega, fun h => by omega, fun h => by omega, Hx.out⟩
      case round =>
        obtain ⟨j, rfl, hj, hq0, hq1, hy⟩ := hrel
        have Hy := hid hy
        have Hq0 := hid hq0
        have Hq1 := hid hq1
        have r0 := (Hg.out.ext (HxC.out.trans hy)).av 0 rfl
        have r1 := (Hg.out.ext (HxC.out.trans hy)).av 1 rfl
        simp only [qA0, qA1, qA2] at r0 r1
        clear hy hq0 hq1
        rcases (by omega : j = 0 ∨ j = 1 ∨ j = 2) with rfl | rfl | rfl
        · have HN := hid (names_any _ P.vars wr n0 ad (HE.out.ext (HW.out.trans (HxB.out.trans Hy.out))) (HP.out.ext (HW.out.trans (HxB.out.trans Hy.out))).vars hz1)
          go_wp2_with fail
          refine HN.out.mono ?_
          intro e w5 hx5
          obtain ⟨rfl, hx5⟩ := hx5
          have Hx5 := hid (Hy.out.trans hx5)
          clear HN hx5
          obtain ⟨z1, z2, z3, z4, z5, z6⟩ := eq_facts (HE.out.ext (HW.out.trans (HxB.out.trans Hx5.out)))
          rcases namesErr_cases P.vars with hd | hd | hd
          · rw [show errv (evOf ad) (namesErr P.vars) = .nilIface from by rw [hd]; rfl]
            have Hd := hid hd
            clear hd
            go_wp2
            go_roundw
            case rel => exact ⟨_, _, _, _, _, _, _, _, _, _, _, _, _, _, ⟨1, by go_num, by omega, fun h => by first | omega | exact Hq0.out (by omega) | (rw [Hd.out]; decide), fun h => by first | omega | (rw [Hd.out]; decide), Hx5.out⟩, rfl⟩
            case measure => simp [intOf]
          · rw [show errv (evOf ad) (namesErr P.vars) = .iface 262 (.pointer (some (ad 5))) from by rw [hd]; rfl]
            have Hd := hid hd
            clear hd
            go_wp2
            go_roundw
            case rel => exact ⟨_, _, _, _, _, _, _, _, _, _, _, _, _, _, ⟨1, by go_num, by omega, fun h => by first | omega | exact Hq0.out (by omega) | (rw [Hd.out]; decide), fun h => by first | omega | (rw [Hd.out]; decide), Hx5.out⟩, rfl⟩
            case measure => simp [intOf]
          · rw [show errv (evOf ad) (namesErr P.vars) = .iface 262 (.pointer (some (ad 7))) from by rw [hd]; rfl]
            have Hd := hid hd
            clear hd
            go_wp2
            go_ret
            have he : P.err1 = 7 := by unfold PP.err1; rw [HBig.out]; simp [Hd.out, Hp5.out.1, Hp5.out.2]
            exact ⟨_, rfl, .inl ⟨by rw [he]; decide, by rw [he]; rfl⟩, HW.out.trans (HxB.out.trans Hx5.out)⟩
        · have HN := hid (names_any _ P.names wr wA.heap.size ad (HE.out.ext (HW.out.trans (HxB.out.trans Hy.out))) (HS2.out.old ((HxC.out.trans Hy.out).old _)) hz2)
          go_wp2_with fail
          refine HN.out.mono ?_
          intro e w5 hx5
          obtain ⟨rfl, hx5⟩ := hx5
          have Hx5 := hid (Hy.out.trans hx5)
          clear HN hx5
          obtain ⟨z1, z2, z3, z4, z5, z6⟩ := eq_facts (HE.out.ext (HW.out.trans (HxB.out.trans Hx5.out)))
          rcases namesErr_cases P.names with hd | hd | hd
          · rw [show errv (evOf ad) (namesErr P.names) = .nilIface from by rw [hd]; rfl]
            have Hd := hid hd
            clear hd
            go_wp2
            go_roundw
            case rel => exact ⟨_, _, _, _, _, _, _, _, _, _, _, _, _, _, ⟨2, by go_num, by omega, fun h => by first | omega | exact Hq0.out (by omega) | (rw [Hd.out]; decide), fun h => by first | omega | (rw [Hd.out]; decide), Hx5.out⟩, rfl⟩
            case measure => simp [intOf]
          · rw [show errv (evOf ad) (namesErr P.names) = .iface 262 (.pointer (some (ad 5))) from by rw [hd]; rfl]
            have Hd := hid hd
            clear hd
            go_wp2
            go_roundw
            case rel => exact ⟨_, _, _, _, _, _, _, _, _, _, _, _, _, _, ⟨2, by go_num, by omega, fun h => by first | omega | exact Hq0.out (by omega) | (rw [Hd.out]; decide), fun h => by first | omega | (rw [Hd.out]; decide), Hx5.out⟩, rfl⟩
            case measure => simp [intOf]
          · rw [show errv (evOf ad) (namesErr P.names) = .iface 262 (.pointer (some (ad 7))) from by rw [hd]; rfl]
            have Hd := hid hd
            clear hd
            go_wp2
            go_ret
            have he : P.err1 = 7 := by unfold PP.err1; rw [HBig.out]; simp [Hd.out, Hp5.out.1, Hp5.out.2]
            exact ⟨_, rfl, .inl ⟨by rw [he]; decide, by rw [he]; rfl⟩, HW.out.trans (HxB.out.trans Hx5.out)⟩
        · go_wp2
          go_roundw
          case rel => exact ⟨2, by go_num, by omega, fun _ => Hp5.out, fun _ => ⟨Hq0.out (by omega), Hq1.out (by omega)⟩, Hy.out⟩
          case measure => simp [intOf]
    · have Hp5 := hid (hp5 (by omega))
      have Hp7 := hid (hp7 (by omega))
      have H1 := hid (show P.err1 = P.funsErr by unfold PP.err1; rw [HBig.out]; simp [Hp5.out.1, Hp5.out.2, Hp7.out.1, Hp7.out.2])
      have d0 := (HB.out.ext (HxB.out.trans Hx.out)).av 0 rfl
      have d1 := (HB.out.ext (HxB.out.trans Hx.out)).av 1 rfl
      have d2 := (HB.out.ext (HxB.out.trans Hx.out)).av 2 rfl
      simp only [pcells, qA0, qA1, qA2] at d0 d1 d2
      have HF := hid (pfuns_any a1 a2 a3 c1 c2 c3 P wr n0 ad (HE.out.ext (HW.out.trans (HxB.out.trans Hx.out))) (HP.out.ext (HW.out.trans (HxB.out.trans Hx.out))).funs)
      unfold pval at HF
      clear hp5 hp7 x0 x1
      go_wp2_with fail
      refine HF.out.mono ?_
      intro e w5 hx5
      obtain ⟨rfl, hx5⟩ := hx5
      have Hx5 := hid (HxB.out.trans (Hx.out.trans hx5))
      clear HF hx5 d0 d1 d2
      by_cases hf : P.funsErr = 0
      · rw [show errv (evOf ad) P.funsErr = .nilIface from by rw [hf]; rfl]
        have Hf := hid (show P.err1 = 0 by rw [H1.out, hf])
        have d0 := (HB.out.ext Hx5.out).av 0 rfl
        have d1 := (HB.out.ext Hx5.out).av 1 rfl
        have d2 := (HB.out.ext Hx5.out).av 2 rfl
        simp only [pcells, qA0, qA1, qA2] at d0 d1 d2
        clear hf Hx H1
        go_wp2
        clear d0 d1 d2
        generalize wr = wz at *
        have HxD := Hx5
        clear Hx5
        go_loopw [65] (fun t65 wr => ∃ k : Nat, t65 = .int .i64 (k : Int) ∧ k ≤ P.stmts.length ∧ (∀ j s, j < k → P.stmts[j]? = some s → P.stmtErr s = 0) ∧ Ext W wr) (fun t65 _ => P.stmts.length - (intOf t65).toNat)
        case atStart => exact ⟨0, rfl, Nat.zero_le _, fun j s h => by omega, HxD.out⟩
        case round =>
          obtain ⟨k, rfl, hk, hne, hx⟩ := hrel
          have Hne := hid hne
          have Hx := hid hx
          clear hne hx HxD
          by_cases hlt : k < P.stmts.length
          · obtain ⟨y, s, av, cv, rfl, hfk, e0, e1, e2, e3, hI⟩ := (HP.out.ext (HW.out.trans Hx.out)).stmts.at hlt
            have Hfk := hid hfk
            obtain ⟨W3, hW3⟩ : ∃ W3, W3 = wr.alloc (.cells #[.string s.kind, .int .i64 s.x, .int .i64 s.y, .slice av s.args.length cv] 73) := ⟨_, rfl⟩
            have hx3 : Ext wr W3 := by rw [hW3]; exact (Ext.refl _).alloc _
            have Hx3 := hid (Hx.out.trans hx3)
            have HS := hid (pstmt_any a1 a2 (some y) c1 c2 c3 P s av cv W3 n0 ad (HE.out.ext (HW.out.trans Hx3.out)) (hI.old (hx3.old n0)))
            unfold pval sval at HS
            have HW3 := hid hW3
            have q0 := (HB.out.ext Hx3.out).av 0 rfl
            have q1 := (HB.out.ext Hx3.out).av 1 rfl
            have q2 := (HB.out.ext Hx3.out).av 2 rfl
            simp only [pcells, qA0, qA1, qA2] at q0 q1 q2
            rw [hW3] at q0 q1 q2
            clear hfk hI hW3 hx3
            go_wp2_with fail
            rw [← HW3.out]
            refine HS.out.mono ?_
            intro e w4 hx4
            obtain ⟨rfl, hx4⟩ := hx4
            have Hx4 := hid (Hx3.out.trans hx4)
            clear HS hx4 q0 q1 q2
            by_cases hz : P.stmtErr s = 0
            · rw [show errv (evOf ad) (P.stmtErr s) = .nilIface from by rw [hz]; rfl]
              have Hz := hid hz
              clear hz
              go_wp2
              go_roundw
              case rel => exact ⟨k + 1, by go_num, by omega, fun j t hj ht => by
                by_cases hjk : j = k
                · subst hjk
                  obtain rfl := Option.some.inj (Hfk.out.symm.trans ht)
                  exact Hz.out
                · exact Hne.out j t (by omega) ht, Hx4.out⟩
              case measure => simp [intOf]; omega
            · rw [show errv (evOf ad) (P.stmtErr s) = .iface 262 (.pointer (some (ad (P.stmtErr s)))) from by unfold errv; rw [if_neg hz]; rfl]
              have Hr : Hid (ErrIs ad P (w4.alloc (.cells #[.int .i64 (k : Int), .iface 262 (.pointer (some (ad (P.stmtErr s))))] 138)) (.iface 134 (.pointer (some ⟨w4.heap.size, 0, none⟩)))) := hid (.inr (.inr ⟨Hf.out, k, s, _, ⟨Hfk.out, hz, Hne.out⟩, rfl, Blk.new _ _ _⟩))
              have HxE := hid (HW.out.trans (Hx4.out.alloc (.cells #[.int .i64 (k : Int), .iface 262 (.pointer (some (ad (P.stmtErr s))))] 138)))
              clear hz
              go_wp2
              go_ret
              exact ⟨_, rfl, Hr.out, HxE.out⟩
          · obtain rfl : k = P.stmts.length := by omega
            have Hr := hid (show ErrIs ad P wr .nilIface from .inr (.inl ⟨Hf.out, Hne.out, rfl⟩))
            have HxE := hid (HW.out.trans Hx.out)
            go_wp2
            go_ret
            exact ⟨_, rfl, Hr.out, HxE.out⟩
      · rw [show errv (evOf ad) P.funsErr = .iface 262 (.pointer (some (ad P.funsErr))) from by unfold errv; rw [if_neg hf]; rfl]
        have Hf := hid (show ErrIs ad P w5 (.iface 262 (.pointer (some (ad P.funsErr)))) from .inl ⟨by rw [H1.out]; exact hf, by rw [H1.out]; rfl⟩)
        clear hf
        go_wp2
        go_ret
        exact ⟨_, rfl, Hf.out, HW.out.trans Hx5.out⟩
inductive Vl where
  | none
  | var (n : Nat)
  | thing (n : Nat)
  | fn (n : Nat)
def Vl.kind : Vl → ByteArray
  | .none => ⟨#[110, 111, 110, 101]⟩
  | .var _ => ⟨#[118, 97, 114]⟩
  | .thing _ => ⟨#[116, 104, 105, 110, 103]⟩
  | .fn _ => ⟨#[102, 117, 110]⟩
def Vl.num : Vl → Nat
  | .none => 0
  | .var n => n
  | .thing n => n
  | .fn n => n
def Vl.cells (v : Vl) : List Value := [.string v.kind, .int .i64 (v.num : Int)]
theorem Vl.cells_len (v : Vl) : v.cells.length = 2 := rfl
def Vl.In (nv nt nf : Nat) : Vl → Prop
  | .none => True
  | .var n => n < nv
  | .thing n => n < nt
  | .fn n => n < nf
theorem Vl.In.mono {nv nt nf nt' : Nat} {v : Vl} (h : v.In nv nt nf) (hn : nt ≤ nt') : v.In nv nt' nf := by
  cases v <;> simp only [Vl.In] at h ⊢ <;> omega
structure Rn where
  vars : List Vl
  things : List Vl
  places : List Nat
def Rn.at (s : Rn) (n : Int) : Vl := s.vars.getD n.toNat .none
def Rn.get (s : Rn) : Vl → Vl
  | .var n => s.vars.getD n .none
  | .thing n => s.things.getD n .none
  | _ => .none
def Vl.isAddr : Vl → Bool
  | .var _ => true
  | .thing _ => true
  | _ => false
def Rn.set (s : Rn) (n : Int) (v : Vl) : Rn := { s with vars := s.vars.set n.toNat v }
def Rn.put (s : Rn) (c v : Vl) : Rn :=
  match c with
  | .var n => { s with vars := s.vars.set n v }
  | .thing n => { s with things := s.things.set n v }
  | _ => s
def kAddr : List UInt8 := [97, 100, 100, 114]
def kCopy : List UInt8 := [99, 111, 112, 121]
def kLoad : List UInt8 := [108, 111, 97, 100]
def kStore : List UInt8 := [115, 116, 111, 114, 101]
def Rn.give (s : Rn) : List Int → List Vl → Rn
  | p :: ps, v :: vs => (s.set p v).give ps vs
  | _, _ => s
def Rn.callF (s : Rn) (x : PS) (f : PF) : Rn :=
  if f.params.length = x.args.length then
    let s1 := s.give f.params (x.args.map s.at)
    s1.set x.x (s1.at f.ret)
  else s
def Rn.call (P : PP) (x : PS) (s : Rn) : Rn :=
  match s.at x.y with
  | .fn n => match P.funs[n]? with
    | some f => s.callF x f
    | none => s
  | _ => s
def Rn.stmt (P : PP) (k : Nat) (x : PS) (s : Rn) : Rn :=
  bif x.isK kAddr then s.set x.x (.var x.y.toNat) else
  bif x.isK kCopy then s.set x.x (s.at x.y) else
  bif x.isK kLoad then (bif (s.at x.y).isAddr then s.set x.x (s.get (s.at x.y)) else s) else
  bif x.isK kStore then s.put (s.at x.x) (s.at x.y) else
  bif x.isK kNew then { (s.set x.x (.thing s.things.length)) with things := s.things ++ [.none], places := s.places ++ [k] } else
  bif x.isK kFun then s.set x.x (.fn x.y.toNat) else
  bif x.isK kCall then s.call P x else s
def Rn.step (P : PP) (s : Rn) (k : Nat) : Rn :=
  match P.stmts[k]? with
  | some x => s.stmt P k x
  | none => s
def Rn.begin (P : PP) : Rn := ⟨List.replicate P.vars.length .none, [], []⟩
def Rn.run (P : PP) (l : List Nat) : Rn := l.foldl (Rn.step P) (Rn.begin P)
structure Rn.Ok (P : PP) (s : Rn) : Prop where
  lv : s.vars.length = P.vars.length
  rv : ∀ v ∈ s.vars, v.In P.vars.length s.things.length P.funs.length
  rt : ∀ v ∈ s.things, v.In P.vars.length s.things.length P.funs.length
  lp : s.places.length = s.things.length
structure PP.Good (P : PP) (x : PS) : Prop where
  gx : 0 ≤ x.x ∧ x.x < P.vars.length
  yf : x.isK kFun = true → 0 ≤ x.y ∧ x.y < P.funs.length
  yv : x.isK kFun = false → x.isK kNew = false → 0 ≤ x.y ∧ x.y < P.vars.length
  args : ∀ a ∈ x.args, 0 ≤ a ∧ a < P.vars.length
theorem PP.inV_iff {P : PP} {n : Int} (h : P.inV n = true) : 0 ≤ n ∧ n < P.vars.length := by
  unfold PP.inV at h
  simp at h
  omega
theorem PP.good {P : PP} {x : PS} (h : P.stmtErr x = 0) : P.Good x := by
  unfold PP.stmtErr at h
  cases h1 : memB x.kind kindsS with
  | false => rw [h1] at h; simp at h
  | true =>
  cases h2 : P.bound x with
  | false => rw [h1, h2] at h; simp at h
  | true =>
  unfold PP.bound at h2
  simp only [Bool.and_eq_true] at h2
  refine ⟨PP.inV_iff h2.1.1, fun hf => ?_, fun hf hn => ?_, fun a ha => ?_⟩
  · have := h2.1.2
    unfold PP.boundY at this
    rw [hf] at this
    simpa using this
  · have := h2.1.2
    unfold PP.boundY at this
    rw [hf, hn] at this
    exact PP.inV_iff this
  · have := h2.2
    unfold PP.allV at this
    exact PP.inV_iff (List.all_eq_true.1 this a ha)
structure PP.GoodF (P : PP) (f : PF) : Prop where
  params : ∀ a ∈ f.params, 0 ≤ a ∧ a < P.vars.length
  ret : 0 ≤ f.ret ∧ f.ret < P.vars.length
  few : f.params.length ≤ 3
theorem PP.goodF {P : PP} (h : P.funsErr = 0) {f : PF} (hf : f ∈ P.funs) : P.GoodF f := by
  unfold PP.funsErr at h
  cases h1 : P.funs.any bad9 with
  | true => rw [h1] at h; simp at h
  | false =>
  cases h2 : P.funs.any P.bad2 with
  | true => rw [h1, h2] at h; simp at h
  | false =>
  have g1 := List.any_eq_false.1 h1 f hf
  have g2 := List.any_eq_false.1 h2 f hf
  unfold bad9 at g1
  unfold PP.bad2 PP.allV at g2
  simp at g1 g2
  exact ⟨fun a ha => PP.inV_iff (g2.1 a ha), PP.inV_iff g2.2, g1⟩
theorem Rn.Ok.at {P : PP} {s : Rn} (h : s.Ok P) (n : Int) : (s.at n).In P.vars.length s.things.length P.funs.length := by
  unfold Rn.at
  rw [List.getD_eq_getElem?_getD]
  cases hx : s.vars[n.toNat]? with
  | none => exact trivial
  | some v => exact h.rv v (List.mem_of_getElem? hx)
theorem Rn.Ok.get {P : PP} {s : Rn} (h : s.Ok P) (c : Vl) : (s.get c).In P.vars.length s.things.length P.funs.length := by
  cases c with
  | none => exact trivial
  | fn n => exact trivial
  | var n =>
    simp only [Rn.get, List.getD_eq_getElem?_getD]
    cases hx : s.vars[n]? with
    | none => exact trivial
    | some v => exact h.rv v (List.mem_of_getElem? hx)
  | thing n =>
    simp only [Rn.get, List.getD_eq_getElem?_getD]
    cases hx : s.things[n]? with
    | none => exact trivial
    | some v => exact h.rt v (List.mem_of_getElem? hx)
theorem Rn.Ok.set {P : PP} {s : Rn} (h : s.Ok P) (n : Int) {v : Vl} (hv : v.In P.vars.length s.things.length P.funs.length) : (s.set n v).Ok P := by
  refine ⟨by simp [Rn.set, h.lv], fun u hu => ?_, h.rt, h.lp⟩
  rcases List.mem_or_eq_of_mem_set hu with hu | rfl
  · exact h.rv u hu
  · exact hv
theorem Rn.Ok.put {P : PP} {s : Rn} (h : s.Ok P) (c : Vl) {v : Vl} (hv : v.In P.vars.length s.things.length P.funs.length) : (s.put c v).Ok P := by
  cases c with
  | none => exact h
  | fn n => exact h
  | var n => exact h.set (n : Int) hv
  | thing n =>
    refine ⟨h.lv, fun u hu => ?_, fun u hu => ?_, ?_⟩
    · simp only [Rn.put, List.length_set]; exact h.rv u hu
    · simp only [Rn.put, List.length_set]
      rcases List.mem_or_eq_of_mem_set hu with hu | rfl
      · exact h.rt u hu
      · exact hv
    · simp only [Rn.put, List.length_set]; exact h.lp
theorem Rn.Ok.give {P : PP} : ∀ (ps : List Int) (vs : List Vl) {s : Rn}, s.Ok P → (∀ v ∈ vs, v.In P.vars.length s.things.length P.funs.length) → (s.give ps vs).Ok P
  | [], _, _, h, _ => h
  | _ :: _, [], _, h, _ => h
  | p :: ps, v :: vs, s, h, hv => Rn.Ok.give ps vs (h.set p (hv v (List.mem_cons_self ..))) fun u hu => hv u (List.mem_cons_of_mem _ hu)
theorem Rn.Ok.call {P : PP} {s : Rn} (h : s.Ok P) (x : PS) : (s.call P x).Ok P := by
  unfold Rn.call
  split
  · split
    · rename_i f _
      unfold Rn.callF
      split
      · have h1 : (s.give f.params (x.args.map s.at)).Ok P := h.give _ _ (fun v hv => by
          obtain ⟨a, _, rfl⟩ := List.mem_map.1 hv
          exact h.at a)
        exact h1.set _ (h1.at _)
      · exact h
    · exact h
  · exact h
theorem Rn.Ok.stmt {P : PP} {s : Rn} (h : s.Ok P) (k : Nat) {x : PS} (hg : P.Good x) : (s.stmt P k x).Ok P := by
  unfold Rn.stmt
  cases h1 : x.isK kAddr with
  | true =>
    have hf : x.isK kFun = false := by unfold PS.isK at h1 ⊢; rw [eq_of_beq h1]; rfl
    have hn : x.isK kNew = false := by unfold PS.isK at h1 ⊢; rw [eq_of_beq h1]; rfl
    have := hg.yv hf hn
    exact h.set _ (show Vl.In _ _ _ (.var _) by simp only [Vl.In]; omega)
  | false =>
  cases h2 : x.isK kCopy with
  | true => exact h.set _ (h.at _)
  | false =>
  cases h3 : x.isK kLoad with
  | true =>
    simp only [cond_true, cond_false]
    cases h4 : (s.at x.y).isAddr with
    | true => exact h.set _ (h.get _)
    | false => exact h
  | false =>
  cases h4 : x.isK kStore with
  | true => exact h.put _ (h.at _)
  | false =>
  cases h5 : x.isK kNew with
  | true =>
    simp only [cond_true, cond_false]
    refine ⟨by simp [Rn.set, h.lv], fun u hu => ?_, fun u hu => ?_, by simp [h.lp]⟩
    · rcases List.mem_or_eq_of_mem_set hu with hu | rfl
      · exact (h.rv u hu).mono (by simp)
      · simp only [Vl.In, List.length_append, List.length_singleton]; omega
    · rcases List.mem_append.1 hu with hu | hu
      · exact (h.rt u hu).mono (by simp)
      · rw [List.mem_singleton.1 hu]; exact trivial
  | false =>
  cases h6 : x.isK kFun with
  | true =>
    have := hg.yf h6
    exact h.set _ (show Vl.In _ _ _ (.fn _) by simp only [Vl.In]; omega)
  | false =>
  cases h7 : x.isK kCall with
  | true => exact h.call x
  | false => exact h
theorem Rn.Ok.begin (P : PP) : (Rn.begin P).Ok P :=
  ⟨by simp [Rn.begin], fun v hv => by rw [(List.mem_replicate.1 hv).2]; exact trivial, fun v hv => (by cases hv), rfl⟩
def Rn.pl (s : Rn) : List Int := s.places.map Int.ofNat
def store2 (w : World) (g i : Nat) (y : Vl) : World := (w.setCell ⟨g, i, none⟩ (.string y.kind)).setCell ⟨g, i + 1, none⟩ (.int .i64 (y.num : Int))
def Vl.ptr (vv tv : Value) : Vl → Value
  | .var n => .pointer (vv.ownBlock.map fun g => ⟨g, n * 2, Option.none⟩)
  | .thing n => .pointer (tv.ownBlock.map fun g => ⟨g, n * 2, Option.none⟩)
  | _ => .pointer Option.none
theorem isK_ne {x : PS} {k k' : List UInt8} (h : x.isK k = true) (hne : (k == k') = false) : x.isK k' = false := by
  unfold PS.isK at h ⊢
  rw [eq_of_beq h]
  exact hne
end Go.Proofs.YtihdpijgngooaaaGreatDoor
