/- Texts of one proof, put together: MP L1 LM L2 L3 L5 L6 L7 U8 U9. -/
import Derived.Test.YtnpnhbfbklibhaaGreatDoorZFO01
import Derived.Test.YtnpnhbfbklibhaaGreatDoorZFO03
import Derived.MapKept
import Derived.Maps.OwnSet
import Derived.Lib.SliceRun
import Derived.Carry
import Derived.Maps.AppendAt
import Derived.LaidEql

/- A map keyed by ints, its entries in the order in which they came: looked up, written, struck. -/
namespace Go.Proofs.YtnpnhbfbklibhaaGreatDoor
set_option linter.unusedSimpArgs false
set_option linter.unusedVariables false
open Go Go.RowKit Go.MapKept

/-- Block b is a map whose entries are m, in their order. -/
def MapAt (w : World) (b : Nat) (m : List (Int × Value)) : Prop := ∃ es clock, w.heap[b]? = some (.map es clock) ∧ es.toList.map (fun x => (x.key, x.val)) = m.map fun x => (Value.int .i64 x.1, x.2)
/-- The first entry at a key. -/
def mfind (m : List (Int × Value)) (k : Int) (i : Nat) : Option (Nat × Value) := match m with
  | [] => none
  | x :: r => if k == x.1 then some (i, x.2) else mfind r k (i + 1)
def mval (m : List (Int × Value)) (k : Int) : Option Value := (mfind m k 0).map (·.2)
theorem MapAt.ext {w w' : World} {b : Nat} {m : List (Int × Value)} (h : MapAt w b m) (x : Ext w w') : MapAt w' b m := by
  obtain ⟨es, c, hb, he⟩ := h
  exact ⟨es, c, Ext.get x hb, he⟩
theorem MapAt.keep {X : Nat → Prop} {w w' : World} {b : Nat} {m : List (Int × Value)} (h : MapAt w b m) (x : Keep X w w') (hx : ¬ X b) : MapAt w' b m := by
  obtain ⟨es, c, hb, he⟩ := h
  exact ⟨es, c, Keep.get x hb hx, he⟩
theorem MapAt.lt {w : World} {b : Nat} {m : List (Int × Value)} (h : MapAt w b m) : b < w.heap.size := by
  obtain ⟨es, c, hb, he⟩ := h
  exact (Array.getElem?_eq_some_iff.1 hb).1
theorem MapAt.ne {w : World} {b g : Nat} {m : List (Int × Value)} (h : MapAt w b m) {c : Array Value} {e : TypeId} (hb : Blk w g c e) : g ≠ b := by
  rintro rfl
  obtain ⟨es, c, h1, _⟩ := h
  have := h1.symm.trans hb
  cases this
theorem MapAt.new (w : World) : MapAt (w.alloc (.map #[] 0)) w.heap.size [] := ⟨#[], 0, heap_alloc_new w _, rfl⟩

theorem findNow_map (k : Int) : ∀ (l : List MapEntry) (m : List (Int × Value)) (i : Nat), l.map (fun x => (x.key, x.val)) = m.map (fun x => (Value.int .i64 x.1, x.2)) → Instr.findNow (.int .i64) (.int .i64 k) l i = some (mfind m k i)
  | [], [], i, _ => rfl
  | [], x :: m, i, h => by simp at h
  | e :: l, [], i, h => by simp at h
  | e :: l, x :: m, i, h => by
    simp only [List.map_cons, List.cons.injEq, Prod.mk.injEq] at h
    obtain ⟨⟨h1, h2⟩, h3⟩ := h
    have ih := findNow_map k l m (i + 1) h3
    unfold Instr.findNow mfind
    rw [h1, h2]
    simp only [Instr.sameNow, if_true]
    cases hk : (k == x.1) with
    | true => simp
    | false => simpa using ih
theorem mfind_get {m : List (Int × Value)} {k : Int} {i j : Nat} {v : Value} (h : mfind m k i = some (j, v)) : i ≤ j ∧ m[j - i]? = some (k, v) := by
  induction m generalizing i with
  | nil => cases h
  | cons x r ih =>
    unfold mfind at h
    split at h
    · rename_i hk
      obtain ⟨rfl, rfl⟩ := Prod.mk.inj (Option.some.inj h)
      have : k = x.1 := by simpa using hk
      simp [this]
    · obtain ⟨h1, h2⟩ := ih h
      refine ⟨by omega, ?_⟩
      rw [show j - i = j - (i + 1) + 1 by omega]
      simpa using h2

section
variable {P : Program} {w : World} {t kt et : TypeId} {b : Nat} {m : List (Int × Value)}
theorem run_map_lookup (ht : P.underlying t = some (.map kt et)) (hk : P.underlying kt = some (.int .i64)) (h : MapAt w b m) (k : Int) {z : Value} (hz : (zeroValue et).run P w = .ok z w) :
    (Instr.lookup t (.map (some b)) (.int .i64 k) true).run P w = .ok (.tuple #[(mval m k).getD z, .bool (mval m k).isSome]) w := by
  obtain ⟨es, c, hb, he⟩ := h
  have hf := run_findKey (P := P) (w := w) hk (findNow_map k es.toList m 0 he)
  unfold Instr.lookup
  cases hm : mfind m k 0 with
  | none =>
    rw [hm] at hf
    simp [run_underlying ht, Go.MapKept.run_getObj_map hb, run_checkKey (P := P) hk (k := .int .i64 k) (by simp [IsKey]), hf, hz, Result.andThen, mval, hm]
  | some x =>
    obtain ⟨j, v⟩ := x
    rw [hm] at hf
    simp [run_underlying ht, Go.MapKept.run_getObj_map hb, run_checkKey (P := P) hk (k := .int .i64 k) (by simp [IsKey]), hf, Result.andThen, mval, hm]
theorem map_setBlock {es : Array MapEntry} {c : Nat} (hb : w.heap[b]? = some (.map es c)) (o : Obj) : Keep (fun k => k = b) w { w with heap := w.heap.setIfInBounds b o } :=
  ⟨rfl, rfl, rfl, by simp, fun k hk hx => (heap_set (o' := o) hb).2 k hx⟩
theorem run_map_new (ht : P.underlying t = some (.map kt et)) (hk : P.underlying kt = some (.int .i64)) (h : MapAt w b m) (k : Int) (v : Value) (hn : mval m k = none) :
    ∃ w', (Instr.mapUpdate t (.map (some b)) (.int .i64 k) v).run P w = .ok () w' ∧ MapAt w' b (m ++ [(k, v)]) ∧ Keep (fun k => k = b) w w' := by
  obtain ⟨es, c, hb, he⟩ := h
  have hf := run_findKey (P := P) (w := w) hk (findNow_map k es.toList m 0 he)
  rw [show mfind m k 0 = none by simpa [mval] using hn] at hf
  refine ⟨_, ?_, ⟨es.push { key := .int .i64 k, val := v, born := c }, c + 1, (heap_set hb).1, ?_⟩, map_setBlock hb _⟩
  · unfold Instr.mapUpdate
    simp [run_underlying ht, Go.MapKept.run_getObj_map hb, run_checkKey (P := P) hk (k := .int .i64 k) (by simp [IsKey]), hf, Go.MapKept.run_setObj_map _ hb, Result.andThen]
  · simp [he]
theorem run_map_del (ht : P.underlying t = some (.map kt et)) (hk : P.underlying kt = some (.int .i64)) (h : MapAt w b m) (k : Int) (j : Nat) (v : Value) (hj : mfind m k 0 = some (j, v)) (ty : TypeId) :
    ∃ w', (Builtin.delete_ #[t, kt] ty #[.map (some b), .int .i64 k]).run P w = .ok (.tuple #[]) w' ∧ MapAt w' b (m.eraseIdx j) ∧ Keep (fun k => k = b) w w' := by
  obtain ⟨es, c, hb, he⟩ := h
  have hf := run_findKey (P := P) (w := w) hk (findNow_map k es.toList m 0 he)
  rw [hj] at hf
  refine ⟨_, ?_, ⟨es.eraseIdxIfInBounds j, c, (heap_set hb).1, ?_⟩, map_setBlock hb _⟩
  · unfold Builtin.delete_
    simp [run_underlying ht, Go.MapKept.run_getObj_map hb, run_checkKey (P := P) hk (k := .int .i64 k) (by simp [IsKey]), hf, Go.MapKept.run_setObj_map _ hb, Result.andThen]
  · simp only [Array.toList_eraseIdxIfInBounds, List.eraseIdx_eq_take_drop_succ, List.map_append, List.map_take, List.map_drop, he]
theorem run_map_len (ht : P.underlying t = some (.map kt et)) (h : MapAt w b m) (ty : TypeId) : (Builtin.len_ #[t] ty #[.map (some b)]).run P w = .ok (.int .i64 (m.length : Int)) w := by
  obtain ⟨es, c, hb, he⟩ := h
  have : es.size = m.length := by have := congrArg List.length he; simpa using this
  simp [Builtin.len_, run_underlying ht, Go.MapKept.run_getObj_map hb, goInt, Result.andThen, this]

variable {ops : Array Oper} {Q : Exit → Act → World → Prop} {rest : List Oper} {o : Oper} {a : Act}
theorem wpList_map_lookup (hg : o.guard = none) (mo x : Operand) (t kt et : TypeId) (hop : o.op = Op.lookup t mo x true) (ht : P.underlying t = some (.map kt et)) (hk : P.underlying kt = some (.int .i64)) {z : Value} (hz : (zeroValue et).run P w = .ok z w) (b : Nat) (m : List (Int × Value)) (h : MapAt w b m)
    (hm : a.eval mo = .map (some b)) (k : Int) (hx : a.eval x = .int .i64 k) {v : Value} {y : Bool} (hv : (mval m k).getD z = v) (hy : (mval m k).isSome = y) (hK : wpList P ops Q rest (a.put o.dst (.tuple #[v, .bool y])) w) : wpList P ops Q (o :: rest) a w := by
  refine wpList_plain hg fun K' hK' => ?_
  unfold Oper.wp
  simp [execOp, hop, hm, hx, run_map_lookup ht hk h k hz, Result.andThen, hv, hy]
  exact hK' _ _ hK
theorem wpList_map_new (hg : o.guard = none) (mo x vo : Operand) (t kt et : TypeId) (hop : o.op = Op.mapUpdate t mo x vo) (ht : P.underlying t = some (.map kt et)) (hk : P.underlying kt = some (.int .i64)) (b : Nat) (m : List (Int × Value)) (h : MapAt w b m)
    (hm : a.eval mo = .map (some b)) (k : Int) (hx : a.eval x = .int .i64 k) (v : Value) (hv : a.eval vo = v) (hn : mval m k = none)
    (hK : ∀ w', MapAt w' b (m ++ [(k, v)]) → Keep (fun k => k = b) w w' → wpList P ops Q rest (a.put o.dst undef) w') : wpList P ops Q (o :: rest) a w := by
  refine wpList_plain hg fun K' hK' => ?_
  obtain ⟨w', hrun, r1, r2⟩ := run_map_new ht hk h k v hn
  unfold Oper.wp
  simp [execOp, hop, hm, hx, hv, hrun, Result.andThen]
  exact hK' _ _ (hK w' r1 r2)
theorem wpList_map_del (hg : o.guard = none) (mo x : Operand) (t kt et : TypeId) (hop : o.op = Op.call { callee := Callee.builtin Builtin.delete, args := #[mo, x], argTypes := #[t, kt] }) (ht : P.underlying t = some (.map kt et)) (hk : P.underlying kt = some (.int .i64)) (b : Nat) (m : List (Int × Value)) (h : MapAt w b m)
    (hm : a.eval mo = .map (some b)) (k : Int) (hx : a.eval x = .int .i64 k) (j : Nat) (v : Value) (hj : mfind m k 0 = some (j, v))
    (hK : ∀ w', MapAt w' b (m.eraseIdx j) → Keep (fun k => k = b) w w' → wpList P ops Q rest (a.put o.dst (.tuple #[])) w') : wpList P ops Q (o :: rest) a w := by
  refine wpList_plain hg fun K' hK' => ?_
  obtain ⟨w', hrun, r1, r2⟩ := run_map_del ht hk h k j v hj o.type
  unfold Oper.wp
  simp [execOp, hop, resolve, invoke, builtin, hm, hx, hrun, Result.andThen]
  exact hK' _ _ (hK w' r1 r2)
theorem wpList_map_len (hg : o.guard = none) (mo : Operand) (t kt et : TypeId) (hop : o.op = Op.call { callee := Callee.builtin Builtin.len, args := #[mo], argTypes := #[t] }) (ht : P.underlying t = some (.map kt et)) (b : Nat) (m : List (Int × Value)) (h : MapAt w b m)
    (hm : a.eval mo = .map (some b)) (hK : wpList P ops Q rest (a.put o.dst (.int .i64 (m.length : Int))) w) : wpList P ops Q (o :: rest) a w := by
  refine wpList_plain hg fun K' hK' => ?_
  unfold Oper.wp
  simp [execOp, hop, resolve, invoke, builtin, hm, run_map_len ht h o.type, Result.andThen]
  exact hK' _ _ hK
end
end Go.Proofs.YtnpnhbfbklibhaaGreatDoor


/- Rows of elements of several cells, of one's own: read, written in place, cut; numbers that lie where nobody writes. -/
namespace Go.Proofs.YtnpnhbfbklibhaaGreatDoor
set_option linter.unusedSimpArgs false
set_option linter.unusedVariables false
open Go Go.RowKit

section
variable {w : World} {base : Nat} {e : TypeId} {size g n cap : Nat} {xs : List Value}
theorem own_blk (h : w.ownsRow base e size (.slice (some ⟨g, 0, none⟩) n cap) n xs) : ∃ cur, Blk w g cur e ∧ base ≤ g ∧ n ≤ cap ∧ cap ≤ maxLen ∧ cur.size = cap * size ∧ cur.toList.take (n * size) = xs := by
  rcases h.2 with ⟨h1, _⟩ | ⟨g', cap', cur, h1, h2, h3, h4, h5, h6, h7⟩
  · cases h1
  · simp only [Value.slice.injEq, Option.some.injEq, Addr.mk.injEq, and_true] at h1
    obtain ⟨rfl, _, rfl⟩ := h1
    exact ⟨cur, h3, h2, h4, h5, h6, h7⟩
theorem own_of_blk {cur : Array Value} (hb : Blk w g cur e) (h2 : base ≤ g) (h4 : n ≤ cap) (h5 : cap ≤ maxLen) (h6 : cur.size = cap * size) (h7 : cur.toList.take (n * size) = xs) : w.ownsRow base e size (.slice (some ⟨g, 0, none⟩) n cap) n xs := by
  refine ⟨?_, .inr ⟨g, cap, cur, rfl, h2, hb, h4, h5, h6, h7⟩⟩
  rw [← h7, List.length_take, Array.length_toList, h6]
  exact Nat.min_eq_left (Nat.mul_le_mul_right _ h4)
theorem own_get (h : w.ownsRow base e size (.slice (some ⟨g, 0, none⟩) n cap) n xs) (i : Nat) {u : Value} (hu : xs[i]? = some u) : w.cell? ⟨g, i, none⟩ = some u := by
  have := h.cells (g := g) rfl i u hu
  rwa [show (⟨g, 0, none⟩ : Addr).add i = ⟨g, i, none⟩ from by by_cases h0 : i = 0 <;> simp [Addr.add, h0]] at this
theorem own_free (h : w.ownsRow base e size (.slice (some ⟨g, 0, none⟩) n cap) n xs) (i : Nat) : w.frozen? ⟨g, i, none⟩ = false := by
  obtain ⟨cur, hb, _⟩ := own_blk h
  exact hb.free i
theorem own_set (h : w.ownsRow base e size (.slice (some ⟨g, 0, none⟩) n cap) n xs) (i : Nat) (hi : i < xs.length) (v : Value) : (w.setCell ⟨g, i, none⟩ v).ownsRow base e size (.slice (some ⟨g, 0, none⟩) n cap) n (xs.set i v) := by
  obtain ⟨cur, hb, h2, h4, h5, h6, h7⟩ := own_blk h
  refine own_of_blk (hb.set i v) h2 h4 h5 (by simpa using h6) ?_
  rw [Array.toList_setIfInBounds, List.take_set, h7]
theorem own_cut (h : w.ownsRow base e size (.slice (some ⟨g, 0, none⟩) n cap) n xs) (k : Nat) (hk : k ≤ n) : w.ownsRow base e size (.slice (some ⟨g, 0, none⟩) k cap) k (xs.take (k * size)) := by
  obtain ⟨cur, hb, h2, h4, h5, h6, h7⟩ := own_blk h
  refine own_of_blk hb h2 (by omega) h5 h6 ?_
  rw [← h7, List.take_take, Nat.min_eq_left (Nat.mul_le_mul_right _ hk)]
theorem row_form {v : Value} (h : w.ownsRow base e size v n xs) : ∃ a c, v = .slice a n c := by
  rcases h.2 with ⟨h2, h3⟩ | ⟨g, cap, cur, h2, _⟩
  · exact ⟨none, 0, by rw [h2, h3]⟩
  · exact ⟨_, _, h2⟩
theorem row_keep {w' : World} {v : Value} {X : Nat → Prop} (h : w.ownsRow base e size v n xs) (k : Keep X w w') (hx : ∀ i, v.ownBlock = some i → ¬ X i) : w'.ownsRow base e size v n xs := by
  obtain ⟨h1, h2⟩ := h
  refine ⟨h1, h2.imp id ?_⟩
  rintro ⟨g, cap, cur, rfl, hb, hg, h3⟩
  exact ⟨g, cap, cur, rfl, hb, Keep.get k hg (hx g rfl), h3⟩
theorem own_base {v : Value} {b2 : Nat} (h : w.ownsRow base e size v n xs) (hb : b2 ≤ base) : w.ownsRow b2 e size v n xs := by
  obtain ⟨h1, h2⟩ := h
  refine ⟨h1, h2.imp id ?_⟩
  rintro ⟨g, cap, cur, rfl, hg, h3⟩
  exact ⟨g, cap, cur, rfl, Nat.le_trans hb hg, h3⟩
theorem own_some {v : Value} (h : w.ownsRow base e size v n xs) (hn : 0 < n) : ∃ g cap, v = .slice (some ⟨g, 0, none⟩) n cap := by
  rcases h.2 with ⟨_, h1⟩ | ⟨g', cap', cur, h1, _⟩
  · omega
  · exact ⟨g', cap', h1⟩
theorem own_ty {v : Value} (h : w.ownsRow base e size v n xs) {k : Nat} (hk : v.ownBlock = some k) : ∃ c, Blk w k c e := by
  rcases h.2 with ⟨rfl, _⟩ | ⟨g, cap, cur, rfl, _, hg, _⟩
  · simp [Value.ownBlock] at hk
  · simp only [Value.ownBlock, Option.some.injEq] at hk
    subst hk
    exact ⟨cur, hg⟩
end
theorem Blk.inj {w : World} {b : Nat} {c c' : Array Value} {e e' : TypeId} (h : Blk w b c e) (h' : Blk w b c' e') : c = c' ∧ e = e' := by
  unfold Blk at h h'
  rw [h] at h'
  simp only [Option.some.injEq, Obj.cells.injEq, and_true] at h'
  exact h'
theorem Blk.ty_ne {w : World} {a b : Nat} {c c' : Array Value} {e e' : TypeId} (h : Blk w a c e) (h' : Blk w b c' e') (hne : e ≠ e') : a ≠ b := fun q => hne (by subst q; exact (h.inj h').2)

theorem fm_len {α : Type} (f : α → List Value) (m : Nat) (hf : ∀ x, (f x).length = m) (l : List α) : (l.flatMap f).length = l.length * m := by
  induction l with
  | nil => simp
  | cons x l ih => simp only [List.flatMap_cons, List.length_append, hf, ih, List.length_cons, Nat.add_mul]; omega
theorem fm_get {α : Type} (f : α → List Value) (m : Nat) (hf : ∀ x, (f x).length = m) : ∀ (l : List α) (i j : Nat) (x : α), l[i]? = some x → j < m → (l.flatMap f)[i * m + j]? = (f x)[j]?
  | [], i, j, x, h, _ => by simp at h
  | y :: l, 0, j, x, h, hj => by
    simp only [List.getElem?_cons_zero, Option.some.injEq] at h
    subst h
    rw [List.flatMap_cons, Nat.zero_mul, Nat.zero_add, List.getElem?_append_left (by rw [hf]; exact hj)]
  | y :: l, i + 1, j, x, h, hj => by
    have ih := fm_get f m hf l i j x (by simpa using h) hj
    rw [List.flatMap_cons, List.getElem?_append_right (by rw [hf, Nat.add_mul]; omega), hf, ← ih]
    congr 1
    rw [Nat.add_mul]; omega
theorem fm_take {α : Type} (f : α → List Value) (m : Nat) (hf : ∀ x, (f x).length = m) : ∀ (l : List α) (k : Nat), (l.flatMap f).take (k * m) = (l.take k).flatMap f
  | l, 0 => by simp
  | [], k + 1 => by simp
  | y :: l, k + 1 => by
    rw [List.take_succ_cons, List.flatMap_cons, List.flatMap_cons, List.take_append, hf, List.take_of_length_le (by rw [hf, Nat.add_mul]; omega), ← fm_take f m hf l k]
    congr 2
    rw [Nat.add_mul]; omega
theorem fm_drop {α : Type} (f : α → List Value) (m : Nat) (hf : ∀ x, (f x).length = m) : ∀ (l : List α) (k : Nat), (l.flatMap f).drop (k * m) = (l.drop k).flatMap f
  | l, 0 => by simp
  | [], k + 1 => by simp
  | y :: l, k + 1 => by
    rw [List.drop_succ_cons, List.flatMap_cons, List.drop_append, hf, List.drop_of_length_le (by rw [hf, Nat.add_mul]; omega), ← fm_drop f m hf l k, List.nil_append]
    congr 1
    rw [Nat.add_mul]; omega
/-- One element's cells, written anew all at once. -/
theorem fm_put {α : Type} (f : α → List Value) (m : Nat) (hf : ∀ x, (f x).length = m) (l : List α) (i : Nat) (y : α) (hi : i < l.length) : (l.flatMap f).take (i * m) ++ f y ++ (l.flatMap f).drop (i * m + m) = (l.set i y).flatMap f := by
  rw [fm_take f m hf, show i * m + m = (i + 1) * m by rw [Nat.add_mul]; omega, fm_drop f m hf, List.set_eq_take_append_cons_drop, if_pos hi]
  simp

/-- Block b holds numbers. -/
def IsInt (w : World) (b : Nat) : Prop := ∃ c z, w.heap[b]? = some (.cells c 3 z)
theorem IsInt.keep {X : Nat → Prop} {w w' : World} {b : Nat} (h : IsInt w b) (k : Keep X w w') (hx : ¬ X b) : IsInt w' b := by
  obtain ⟨c, z, h⟩ := h
  exact ⟨c, z, Keep.get k h hx⟩
theorem IsInt.not {w : World} {b : Nat} {c : Array Value} {e : TypeId} (h : Blk w b c e) (hne : e ≠ 3) : ¬ IsInt w b := by
  rintro ⟨c', z, h'⟩
  unfold Blk at h
  rw [h] at h'
  simp only [Option.some.injEq, Obj.cells.injEq] at h'
  exact hne h'.2.1

/-- A slice of numbers that lies where nobody writes: in what came in, or in a block of numbers that is not the one that is written. -/
structure NumsAt (w : World) (n0 : Nat) (t : Option Nat) (v : Value) (l : List Int) : Prop where
  form : ∃ a cap, v = .slice a l.length cap ∧ Ints w a l.length l ∧ ∀ x, a = some x → 0 < l.length → x.block < n0 ∨ (IsInt w x.block ∧ t ≠ some x.block)
/-- What may be written beside them. -/
def Wr (w : World) (n0 : Nat) (t : Option Nat) (X : Nat → Prop) : Prop := ∀ b, X b → b < w.heap.size → n0 ≤ b ∧ (IsInt w b → t = some b)
theorem Ints.keep {X : Nat → Prop} {w w' : World} {a : Option Addr} {len : Nat} {vs : List Int} (h : Ints w a len vs) (k : Keep X w w') (hx : ∀ x, a = some x → 0 < len → ¬ X x.block) : Ints w' a len vs :=
  ⟨h.ln, h.sm, fun y hy i hi => k.cellx (h.cl y hy i hi) (by rw [add_block]; exact hx y hy (by omega)), h.hi⟩
theorem Ints.blt {w : World} {a : Option Addr} {len : Nat} {vs : List Int} (h : Ints w a len vs) {x : Addr} (hx : a = some x) (hl : 0 < len) : x.block < w.heap.size := by
  have := cell_lt (h.cl x hx 0 hl)
  rwa [add_block] at this
section
variable {w w' : World} {n0 : Nat} {t : Option Nat} {v : Value} {l : List Int}
theorem NumsAt.keep {X : Nat → Prop} (h : NumsAt w n0 t v l) (k : Keep X w w') (hx : Wr w n0 t X) : NumsAt w' n0 t v l := by
  obtain ⟨a, cap, rfl, hi, hb⟩ := h
  have hne : ∀ x, a = some x → 0 < l.length → ¬ X x.block := fun x hx' hl hX => by
    obtain ⟨h1, h2⟩ := hx _ hX (hi.blt hx' hl)
    rcases hb x hx' hl with h3 | h3
    · omega
    · exact h3.2 (h2 h3.1)
  exact ⟨a, cap, rfl, hi.keep k hne, fun x hx' hl => (hb x hx' hl).imp id fun h => ⟨h.1.keep k (hne x hx' hl), h.2⟩⟩
theorem Wr.none {w : World} {n0 : Nat} {t : Option Nat} : Wr w n0 t fun _ => False := fun _ h => h.elim
theorem NumsAt.ext (h : NumsAt w n0 t v l) (x : Ext w w') : NumsAt w' n0 t v l := h.keep (x.keep fun _ => False) Wr.none
theorem NumsAt.turn (h : NumsAt w n0 t v l) {t' : Option Nat} (ht : ∀ b, t' = some b → t = some b ∨ w.heap.size ≤ b) : NumsAt w n0 t' v l := by
  obtain ⟨a, cap, rfl, hi, hb⟩ := h
  refine ⟨a, cap, rfl, hi, fun x hx hl => (hb x hx hl).imp id fun h => ⟨h.1, fun e => ?_⟩⟩
  rcases ht _ e with h1 | h1
  · exact h.2 h1
  · have := hi.blt hx hl; omega
theorem NumsAt.of_row {base : Nat} (h : IRow base w v l) (hi : ∀ i, l.getD i 0 ≤ 9223372036854775807) (ht : ∀ b, v.ownBlock = some b → t ≠ some b) : NumsAt w n0 t v l := by
  obtain ⟨a, cap, rfl⟩ := h.form
  refine ⟨a, cap, rfl, h.ints hi, fun x hx hl => .inr ⟨?_, ht _ (by subst hx; rfl)⟩⟩
  subst hx
  obtain ⟨c, hc⟩ := own_ty (show w.ownsRow base 3 1 _ l.length (icells l) from h) (k := x.block) rfl
  exact ⟨c, _, hc⟩
theorem NumsAt.hi (h : NumsAt w n0 t v l) : ∀ i, l.getD i 0 ≤ 9223372036854775807 := by
  obtain ⟨a, cap, rfl, hi, hb⟩ := h
  exact hi.hi
end

/-- A frame with the slice in which its numbers lie. -/
structure FV where
  f : Fr
  v : Value
def FV.cells (x : FV) : List Value := [.int .u8 (x.f.kind.toNat : Int), .int .i64 x.f.fr, .int .i64 x.f.to, .int .i64 x.f.seq, x.v]
def FV.val (x : FV) : Value := .agg #[.int .u8 (x.f.kind.toNat : Int), .int .i64 x.f.fr, .int .i64 x.f.to, .int .i64 x.f.seq, x.v]
def FV.At (w : World) (n0 : Nat) (t : Option Nat) (x : FV) : Prop := NumsAt w n0 t x.v x.f.nums
theorem FV.cells_len (x : FV) : x.cells.length = 5 := rfl
theorem FV.val_frv (f : Fr) (a : Option Addr) (cap : Nat) : (FV.mk f (.slice a f.nums.length cap)).val = frv f a cap := rfl
theorem FV.At.form {w : World} {n0 : Nat} {t : Option Nat} {x : FV} (h : x.At w n0 t) : ∃ a cap, x.val = frv x.f a cap ∧ x.v = .slice a x.f.nums.length cap ∧ Ints w a x.f.nums.length x.f.nums := by
  obtain ⟨a, cap, hv, hi, _⟩ := NumsAt.form h
  exact ⟨a, cap, by unfold FV.val frv; rw [hv], hv, hi⟩
/-- A row of frames of one's own. -/
structure FRow (w : World) (n0 : Nat) (t : Option Nat) (base : Nat) (e : TypeId) (v : Value) (fs : List FV) : Prop where
  row : w.ownsRow base e 5 v fs.length (fs.flatMap FV.cells)
  nums : ∀ x ∈ fs, x.At w n0 t
theorem FRow.nil (w : World) (n0 : Nat) (t : Option Nat) (base : Nat) (e : TypeId) : FRow w n0 t base e (.slice none 0 0) [] := ⟨World.ownsRow_nil _ _ _ _, fun _ h => by cases h⟩
theorem FRow.keep {w w' : World} {n0 : Nat} {t : Option Nat} {base : Nat} {e : TypeId} {v : Value} {fs : List FV} {X : Nat → Prop} (h : FRow w n0 t base e v fs) (k : Keep X w w') (hx : Wr w n0 t X) (hr : ∀ b, v.ownBlock = some b → ¬ X b) : FRow w' n0 t base e v fs :=
  ⟨row_keep h.row k hr, fun x hm => NumsAt.keep (h.nums x hm) k hx⟩
theorem FRow.ext {w w' : World} {n0 : Nat} {t : Option Nat} {base : Nat} {e : TypeId} {v : Value} {fs : List FV} (h : FRow w n0 t base e v fs) (x : Ext w w') : FRow w' n0 t base e v fs := h.keep (x.keep fun _ => False) Wr.none fun _ _ h => h
theorem FRow.form {w : World} {n0 : Nat} {t : Option Nat} {base : Nat} {e : TypeId} {v : Value} {fs : List FV} (h : FRow w n0 t base e v fs) : ∃ a cap, v = .slice a fs.length cap := row_form h.row
end Go.Proofs.YtnpnhbfbklibhaaGreatDoor


/- Links, plainly: a sender and a receiver. -/
namespace Go.Proofs.YtnpnhbfbklibhaaGreatDoor
set_option linter.unusedSimpArgs false
set_option linter.unusedVariables false

/-- A sender of a link: the frames that are kept, each with the tick at which it was sent last. -/
structure Snd where
  fr : Int
  to : Int
  next : Int
  now : Int
  l : List (Fr × Int)
namespace Snd
def new (fr to : Int) : Snd := ⟨fr, to, 0, 0, []⟩
def frame (s : Snd) (kind : UInt8) (nums : List Int) : Fr := ⟨kind, s.fr, s.to, s.next, nums⟩
/-- An error's number. -/
def err (s : Snd) (kind : UInt8) (nums : List Int) : Nat := if (s.frame kind nums).code ≠ 0 then (s.frame kind nums).code else if kind = 97 then 4 else if 200 ≤ s.l.length then 8 else 0
def sent (s : Snd) (kind : UInt8) (nums : List Int) : Snd := { s with next := s.next + 1, l := s.l ++ [(s.frame kind nums, s.now)] }
def send (s : Snd) (kind : UInt8) (nums : List Int) : Snd := if s.err kind nums = 0 then s.sent kind nums else s
/-- At the next tick: is it sent again? -/
def late (s : Snd) (k : Fr × Int) : Bool := decide (s.now + 1 - k.2 = 3)
def stamp (s : Snd) (k : Fr × Int) : Fr × Int := if s.late k then (k.1, s.now + 1) else k
def tick (s : Snd) : Snd := { s with now := s.now + 1, l := s.l.map s.stamp }
def again (s : Snd) : List Fr := (s.l.filter s.late).map (·.1)
def acked (s : Snd) (n : Int) : Snd := { s with l := s.l.filter fun k => decide (n ≤ k.1.seq) }
/-- What bounds it. -/
structure Ok (s : Snd) (m : Nat) : Prop where
  next : 0 ≤ s.next ∧ s.next ≤ m
  now : 0 ≤ s.now ∧ s.now ≤ m
  at_ : ∀ k ∈ s.l, 0 ≤ k.2 ∧ k.2 ≤ s.now
  len : s.l.length ≤ 200
theorem Ok.new (fr to : Int) : (new fr to).Ok 0 := ⟨by simp [Snd.new], by simp [Snd.new], by simp [Snd.new], by simp [Snd.new]⟩
theorem Ok.mono {s : Snd} {m k : Nat} (h : s.Ok m) (hk : m ≤ k) : s.Ok k := ⟨by have := h.next; omega, by have := h.now; omega, h.at_, h.len⟩
theorem err_zero {s : Snd} {kind : UInt8} {nums : List Int} (h : s.err kind nums = 0) : (s.frame kind nums).code = 0 ∧ kind ≠ 97 ∧ s.l.length < 200 := by
  unfold err at h
  split at h
  · contradiction
  rename_i h1
  split at h
  · contradiction
  rename_i h2
  split at h
  · contradiction
  rename_i h3
  exact ⟨by omega, h2, by omega⟩
theorem Ok.sent {s : Snd} {m : Nat} (h : s.Ok m) {kind : UInt8} {nums : List Int} (hl : s.l.length < 200) : (s.sent kind nums).Ok (m + 1) := by
  have h1 := h.next
  have h2 := h.now
  refine ⟨by simp only [Snd.sent]; omega, by simp only [Snd.sent]; omega, fun k hk => ?_, by simp only [Snd.sent, List.length_append, List.length_cons, List.length_nil]; omega⟩
  simp only [Snd.sent, List.mem_append, List.mem_singleton] at hk ⊢
  rcases hk with hk | rfl
  · exact h.at_ k hk
  · exact ⟨h2.1, Int.le_refl _⟩
theorem Ok.send {s : Snd} {m : Nat} (h : s.Ok m) (kind : UInt8) (nums : List Int) : (s.send kind nums).Ok (m + 1) := by
  unfold Snd.send
  split
  · rename_i he
    exact h.sent (err_zero he).2.2
  · exact h.mono (by omega)
theorem Ok.tick {s : Snd} {m : Nat} (h : s.Ok m) : s.tick.Ok (m + 1) := by
  have h1 := h.next
  have h2 := h.now
  refine ⟨by simp only [Snd.tick]; omega, by simp only [Snd.tick]; omega, fun k hk => ?_, by simpa [Snd.tick] using h.len⟩
  simp only [Snd.tick, List.mem_map] at hk ⊢
  obtain ⟨x, hx, rfl⟩ := hk
  have := h.at_ x hx
  unfold stamp
  split
  · simp only; omega
  · omega
theorem Ok.acked {s : Snd} {m : Nat} (h : s.Ok m) (n : Int) : (s.acked n).Ok m :=
  ⟨h.next, h.now, fun k hk => h.at_ k ((List.mem_filter.1 hk).1), Nat.le_trans (List.length_filter_le _ _) h.len⟩
end Snd

/-- A receiver of a link. -/
structure Rcv where
  fr : Int
  to : Int
  due : Int
  wait : List Fr
namespace Rcv
def new (fr to : Int) : Rcv := ⟨fr, to, 0, []⟩
def find (l : List Fr) (q : Int) : Option Nat := l.findIdx? fun f => decide (f.seq = q)
/-- What waits is told, as long as the next one waits. -/
def run : Nat → Rcv → List Fr → List Fr × Rcv
  | 0, r, out => (out, r)
  | n + 1, r, out => match find r.wait r.due with
    | none => (out, r)
    | some k => run n { r with due := r.due + 1, wait := r.wait.eraseIdx k } (out ++ (r.wait[k]?).toList)
def err (r : Rcv) (f : Fr) : Nat := if f.code ≠ 0 then f.code else if f.fr ≠ r.fr ∨ f.to ≠ r.to ∨ f.kind = 97 then 3 else 0
/-- A right frame is taken: what is told, and what then is. -/
def took (r : Rcv) (f : Fr) : List Fr × Rcv :=
  if f.seq < r.due ∨ (find r.wait f.seq).isSome then ([], r)
  else if r.due < f.seq then ([], if r.wait.length < 8 then { r with wait := r.wait ++ [f] } else r)
  else run (r.wait.length + 1) { r with due := r.due + 1 } [f]
def take (r : Rcv) (f : Fr) : List Fr × Rcv := if r.err f = 0 then r.took f else ([], r)
theorem find_get {l : List Fr} {q : Int} {k : Nat} (h : find l q = some k) : ∃ f, l[k]? = some f ∧ f.seq = q := by
  obtain ⟨hk, h1, _⟩ := List.findIdx?_eq_some_iff_getElem.1 h
  exact ⟨l[k], List.getElem?_eq_getElem hk, of_decide_eq_true h1⟩
theorem find_lt {l : List Fr} {q : Int} {k : Nat} (h : find l q = some k) : k < l.length := by
  obtain ⟨f, hf, _⟩ := find_get h
  rcases Nat.lt_or_ge k l.length with h1 | h1
  · exact h1
  · rw [List.getElem?_eq_none h1] at hf; cases hf
end Rcv
end Go.Proofs.YtnpnhbfbklibhaaGreatDoor


/- Links: a frame is copied; a sender and a receiver are made. -/
namespace Go.Proofs.YtnpnhbfbklibhaaGreatDoor
set_option linter.unusedSimpArgs false
set_option linter.unusedVariables false
open Go Go.RowKit

set_option maxRecDepth 100000 in
set_option maxHeartbeats 800000 in
theorem clone_any (a : Option Addr) (n cap : Nat) (vs : List Int) (w : World) (hr : Ints w a n vs) (hl : n ≤ 1000) :
    Calls Tryz.prog 37 #[.slice a n cap] w fun e w' => ∃ v, e = .returned v ∧ Ext w w' ∧ IRow w.heap.size w' v vs := by
  cases a with
  | none =>
    obtain rfl : n = 0 := by
      rcases Nat.eq_zero_or_pos n with h | h
      · exact h
      · obtain ⟨x, hx⟩ := hr.sm h; cases hx
    obtain rfl : vs = [] := List.eq_nil_of_length_eq_zero hr.ln
    have he := Lib.run_eql_slice_nil (P := Tryz.prog) w 27 3 none 0 cap 0 0 Tryz.underlying27
    clear hr
    go_enter Tryz.func37, Tryz.ntmps37
    go_wp2
    go_ret
    exact ⟨_, rfl, Ext.refl _, IRow.nil _ _⟩
  | some x =>
    have Hr := hid hr
    have hl2 : ([] : List Int).length + n ≤ 1000000 := by simp; omega
    have hnil : IRow w.heap.size (w.alloc (.cells #[] 3)) (.slice (some ⟨w.heap.size, 0, none⟩) 0 0) [] := World.ownsRow_made w #[] 0 (Nat.le_refl _) (by unfold maxLen; omega) rfl
    have Hnil := hid hnil
    have hb : w.heap.size ≤ (w.alloc (.cells #[] 3)).heap.size := by simp
    have he := Lib.run_eql_slice_nil (P := Tryz.prog) w 27 3 (some x) n cap 0 0 Tryz.underlying27
    clear hr hnil
    go_enter Tryz.func37, Tryz.ntmps37
    go_wp2_with (at_builtin; refine wpList_append_ints w.heap.size hb rfl _ _ rfl (.slice (some ⟨w.heap.size, 0, none⟩) 0 0) [] rfl Hnil.out (some x) n cap vs rfl (Hr.out.ext ((Ext.refl _).alloc _)) hl2 ?_; intro v' w' h1 h2; have h3 := Keep.new ((Ext.refl w).alloc _) (grown_keep h2) (fun k hk => by simp [Value.ownBlock] at hk; omega))
    go_ret
    exact ⟨_, rfl, h3, h1⟩

/-- Are the ends of a link so? -/
def endsCode (fr to : Int) : Nat := if fr < 0 ∨ 6 ≤ fr ∨ to < 0 ∨ 6 ≤ to then 2 else if fr = to then 3 else 0

def kcells (x : FV × Int) : List Value := x.1.cells ++ [.int .i64 x.2]
theorem kcells_len (x : FV × Int) : (kcells x).length = 6 := rfl
end Go.Proofs.YtnpnhbfbklibhaaGreatDoor


/- Links: a frame is sent. -/
namespace Go.Proofs.YtnpnhbfbklibhaaGreatDoor
set_option linter.unusedSimpArgs false
set_option linter.unusedVariables false
open Go Go.RowKit

section
variable {w : World} {n0 : Nat} {t : Option Nat}
theorem Wr.blk {b : Nat} {c : Array Value} {e : TypeId} (hb : Blk w b c e) (hne : e ≠ 3) (hl : n0 ≤ b) : Wr w n0 t fun k => k = b :=
  fun k hk _ => ⟨by omega, fun hi => absurd hi (by subst hk; exact IsInt.not hb hne)⟩
theorem Wr.or {X Y : Nat → Prop} (h1 : Wr w n0 t X) (h2 : Wr w n0 t Y) : Wr w n0 t fun b => X b ∨ Y b := fun b hb hl => hb.elim (fun h => h1 b h hl) fun h => h2 b h hl
theorem Wr.row {v : Value} {e : TypeId} {size n : Nat} {xs : List Value} (h : w.ownsRow n0 e size v n xs) (hne : e ≠ 3) : Wr w n0 t fun k => v.ownBlock = some k :=
  fun k hk _ => ⟨(World.ownsRow.lt h k hk).1, fun hi => by
    obtain ⟨c, hc⟩ := own_ty h hk
    exact absurd hi (IsInt.not hc hne)⟩
theorem Wr.sub {X Y : Nat → Prop} (h : Wr w n0 t Y) (hx : ∀ b, X b → b < w.heap.size → Y b) : Wr w n0 t X := fun b hb hl => h b (hx b hb hl) hl
end
theorem own_rebase {w : World} {base b2 : Nat} {e : TypeId} {size n : Nat} {v : Value} {xs : List Value} (h : w.ownsRow base e size v n xs) (hb : ∀ k, v.ownBlock = some k → b2 ≤ k) : w.ownsRow b2 e size v n xs := by
  obtain ⟨h1, h2⟩ := h
  refine ⟨h1, h2.imp id ?_⟩
  rintro ⟨g, cap, cur, rfl, hg, h3⟩
  exact ⟨g, cap, cur, rfl, hb g rfl, h3⟩
end Go.Proofs.YtnpnhbfbklibhaaGreatDoor


/- Links: what is answered is struck. -/
namespace Go.Proofs.YtnpnhbfbklibhaaGreatDoor
set_option linter.unusedSimpArgs false
set_option linter.unusedVariables false
open Go Go.RowKit

def kval (x : FV × Int) : Value := .agg #[.int .u8 (x.1.f.kind.toNat : Int), .int .i64 x.1.f.fr, .int .i64 x.1.f.to, .int .i64 x.1.f.seq, x.1.v, .int .i64 x.2]
theorem set_shift (l : List Value) (a0 a1 a2 a3 a4 a5 v : Value) (i : Nat) : (a0 :: a1 :: a2 :: a3 :: a4 :: a5 :: l).set (i + 6) v = a0 :: a1 :: a2 :: a3 :: a4 :: a5 :: l.set i v := rfl
theorem kset6 : ∀ (R : List (FV × Int)) (i : Nat) (y : FV × Int), i < R.length → ((((((R.flatMap kcells).set (i * 6) (.int .u8 (y.1.f.kind.toNat : Int))).set (i * 6 + 1) (.int .i64 y.1.f.fr)).set (i * 6 + 2) (.int .i64 y.1.f.to)).set (i * 6 + 3) (.int .i64 y.1.f.seq)).set (i * 6 + 4) y.1.v).set (i * 6 + 5) (.int .i64 y.2) = (R.set i y).flatMap kcells
  | [], i, y, h => by simp at h
  | x :: l, 0, y, h => by simp [kcells, FV.cells]
  | x :: l, i + 1, y, h => by
    have ih := kset6 l i y (by simpa using h)
    rw [List.set_cons_succ, List.flatMap_cons, List.flatMap_cons, ← ih]
    rw [show (i + 1) * 6 = i * 6 + 6 by omega, show i * 6 + 6 + 1 = i * 6 + 1 + 6 by omega, show i * 6 + 6 + 2 = i * 6 + 2 + 6 by omega, show i * 6 + 6 + 3 = i * 6 + 3 + 6 by omega, show i * 6 + 6 + 4 = i * 6 + 4 + 6 by omega, show i * 6 + 6 + 5 = i * 6 + 5 + 6 by omega]
    simp only [kcells, FV.cells, List.cons_append, List.nil_append, set_shift]
theorem kset5 (R : List (FV × Int)) (i : Nat) (x : FV × Int) (n : Int) (hx : R[i]? = some x) : (R.flatMap kcells).set (i * 6 + 5) (.int .i64 n) = (R.set i (x.1, n)).flatMap kcells := by
  have hi : i < R.length := by
    rcases Nat.lt_or_ge i R.length with h | h
    · exact h
    · rw [List.getElem?_eq_none h] at hx; cases hx
  rw [← kset6 R i (x.1, n) hi]
  have g : ∀ j v, (kcells x)[j]? = some v → j < 6 → (R.flatMap kcells)[i * 6 + j]? = some v := fun j v hv hj => (fm_get kcells 6 kcells_len R i j x hx hj).trans hv
  have s : ∀ (L : List Value) (k : Nat) (v : Value), L[k]? = some v → L.set k v = L := fun L k v h => by
    apply List.ext_getElem?
    intro j
    rw [List.getElem?_set]
    by_cases hkj : k = j
    · subst hkj
      rw [h]
      have : k < L.length := by
        rcases Nat.lt_or_ge k L.length with h1 | h1
        · exact h1
        · rw [List.getElem?_eq_none h1] at h; cases h
      simp [this]
    · simp [hkj]
  have g0 : (R.flatMap kcells)[i * 6]? = some (.int .u8 (x.1.f.kind.toNat : Int)) := g 0 _ rfl (by omega)
  simp only
  rw [s _ _ _ g0, s _ _ _ (g 1 _ rfl (by omega)), s _ _ _ (g 2 _ rfl (by omega)), s _ _ _ (g 3 _ rfl (by omega)), s _ _ _ (g 4 _ rfl (by omega))]

def store6 (w : World) (g i : Nat) (y : FV × Int) : World := (((((w.setCell ⟨g, i, none⟩ (.int .u8 (y.1.f.kind.toNat : Int))).setCell ⟨g, i + 1, none⟩ (.int .i64 y.1.f.fr)).setCell ⟨g, i + 2, none⟩ (.int .i64 y.1.f.to)).setCell ⟨g, i + 3, none⟩ (.int .i64 y.1.f.seq)).setCell ⟨g, i + 4, none⟩ y.1.v).setCell ⟨g, i + 5, none⟩ (.int .i64 y.2)
theorem store6_keep (w : World) (g i : Nat) (y : FV × Int) : Keep (fun b => b = g) w (store6 w g i y) :=
  have k : ∀ (u : World) j v, Keep (fun b => b = g) w u → Keep (fun b => b = g) w (u.setCell ⟨g, j, none⟩ v) := fun _ _ v h => h.set rfl v
  k _ _ _ (k _ _ _ (k _ _ _ (k _ _ _ (k _ _ _ (k _ _ _ (Keep.refl _ w))))))
theorem own_put6 {w : World} {base g n cap : Nat} {e : TypeId} {R : List (FV × Int)} (h : w.ownsRow base e 6 (.slice (some ⟨g, 0, none⟩) n cap) n (R.flatMap kcells)) (i : Nat) (hi : i < R.length) (y : FV × Int) : (store6 w g (i * 6) y).ownsRow base e 6 (.slice (some ⟨g, 0, none⟩) n cap) n ((R.set i y).flatMap kcells) := by
  have hl : (R.flatMap kcells).length = R.length * 6 := fm_len kcells 6 kcells_len R
  rw [← kset6 R i y hi]
  unfold store6
  exact own_set (own_set (own_set (own_set (own_set (own_set h _ (by omega) _) _ (by simp only [List.length_set]; omega) _) _ (by simp only [List.length_set]; omega) _) _ (by simp only [List.length_set]; omega) _) _ (by simp only [List.length_set]; omega) _) _ (by simp only [List.length_set]; omega) _
theorem own_k {w : World} {base g n cap : Nat} {e : TypeId} {R : List (FV × Int)} (h : w.ownsRow base e 6 (.slice (some ⟨g, 0, none⟩) n cap) n (R.flatMap kcells)) {i : Nat} {x : FV × Int} (hx : R[i]? = some x) :
    w.cell? ⟨g, i * 6, none⟩ = some (.int .u8 (x.1.f.kind.toNat : Int)) ∧ w.cell? ⟨g, i * 6 + 1, none⟩ = some (.int .i64 x.1.f.fr) ∧ w.cell? ⟨g, i * 6 + 2, none⟩ = some (.int .i64 x.1.f.to) ∧ w.cell? ⟨g, i * 6 + 3, none⟩ = some (.int .i64 x.1.f.seq) ∧ w.cell? ⟨g, i * 6 + 4, none⟩ = some x.1.v ∧ w.cell? ⟨g, i * 6 + 5, none⟩ = some (.int .i64 x.2) := by
  have c : ∀ j v, (kcells x)[j]? = some v → j < 6 → w.cell? ⟨g, i * 6 + j, none⟩ = some v := fun j v hv hj => own_get h _ ((fm_get kcells 6 kcells_len R i j x hx hj).trans hv)
  exact ⟨c 0 _ rfl (by omega), c 1 _ rfl (by omega), c 2 _ rfl (by omega), c 3 _ rfl (by omega), c 4 _ rfl (by omega), c 5 _ rfl (by omega)⟩

/-- What is not answered below n. -/
def keptB (n : Int) (x : FV × Int) : Bool := decide (n ≤ x.1.f.seq)
end Go.Proofs.YtnpnhbfbklibhaaGreatDoor


/- Links: what is answered is struck, in place. -/
namespace Go.Proofs.YtnpnhbfbklibhaaGreatDoor
set_option linter.unusedSimpArgs false
set_option linter.unusedVariables false
open Go Go.RowKit

theorem mem_zeroCells {z : Array Value} {n : Nat} {u : Value} (h : u ∈ (Builtin.zeroCells z n).toList) : u ∈ z.toList := by
  obtain ⟨i, hi, e⟩ := List.mem_iff_getElem.1 h
  simp only [Builtin.zeroCells] at e
  rw [← e]
  simp only [Array.getElem_toList, Array.getElem_map, Array.getElem_range]
  have hz : 0 < z.size := by
    rcases Nat.eq_zero_or_pos z.size with h0 | h0
    · rw [Array.length_toList, size_zeroCells, h0] at hi; simp at hi
    · exact h0
  have hlt := Nat.mod_lt i hz
  rw [getElem!_pos z _ hlt]
  simp
/-- clear of n elements in a row of one's own. -/
theorem run_clear_row {P : Program} (w : World) (t ty e : TypeId) (i : TypeInfo) (z : Value) (ht : P.underlying t = some (.slice e)) (hi : P.info? e = some i) (hz : i.zero = some z) (h1 : ∀ u ∈ z.cells.toList, u.oneCell' = true)
    (g off n cap : Nat) (hn : 0 < n) (c : Array Value) (hb : Blk w g c e) (hfit : off + n * z.cells.size ≤ c.size) :
    (Builtin.clear_ #[t] ty #[.slice (some ⟨g, off, none⟩) n cap]).run P w = .ok (.tuple #[]) (w.setRow g (c.toList.take off ++ (Builtin.zeroCells z.cells n).toList ++ c.toList.drop (off + n * z.cells.size)).toArray) := by
  obtain ⟨k, rfl⟩ : ∃ k, n = k + 1 := ⟨n - 1, by omega⟩
  have hl : (Builtin.zeroCells z.cells (k + 1)).toList.length = (k + 1) * z.cells.size := by rw [Array.length_toList, size_zeroCells]
  have hst := run_storeCells_at P g off e (Builtin.zeroCells z.cells (k + 1)).toList 0 c w hb (by rw [hl]; simpa using hfit) (fun u hu => h1 u (mem_zeroCells hu))
  rw [hl] at hst
  simp only [Nat.add_zero] at hst
  simp [Builtin.clear_, run_underlying ht, zeroValue, typeInfo, hi, hz, hst, Result.andThen]

theorem own_ne_lt {w : World} {base g n cap size : Nat} {e : TypeId} {xs : List Value} (h : w.ownsRow base e size (.slice (some ⟨g, 0, none⟩) n cap) n xs) : g < w.heap.size := (World.ownsRow.lt h g rfl).2
theorem take_set_succ {α : Type} (R : List α) (i : Nat) (x : α) (hi : i < R.length) : (R.set i x).take (i + 1) = R.take i ++ [x] := by
  apply List.ext_getElem?
  intro k
  rw [List.getElem?_take, List.getElem?_set]
  by_cases h1 : k < i
  · rw [if_pos (by omega), if_neg (by omega), List.getElem?_append_left (by rw [List.length_take]; omega), List.getElem?_take, if_pos h1]
  · by_cases h2 : k = i
    · subst h2
      rw [if_pos (by omega), if_pos rfl, if_pos hi, List.getElem?_append_right (by rw [List.length_take]; omega), List.length_take, Nat.min_eq_left (by omega)]
      simp
    · rw [if_neg (by omega), List.getElem?_eq_none (by simp; omega)]
def kz : Array Value := #[.int .u8 0, .int .i64 0, .int .i64 0, .int .i64 0, .slice none 0 0, .int .i64 0]
theorem store6_blk {w : World} {b : Nat} {a0 a1 a2 a3 a4 a5 : Value} {e : TypeId} (h : Blk w b #[a0, a1, a2, a3, a4, a5] e) (y : FV × Int) : Blk (store6 w b 0 y) b #[.int .u8 (y.1.f.kind.toNat : Int), .int .i64 y.1.f.fr, .int .i64 y.1.f.to, .int .i64 y.1.f.seq, y.1.v, .int .i64 y.2] e := by
  unfold store6
  have := (((((h.set 0 (.int .u8 (y.1.f.kind.toNat : Int))).set 1 (.int .i64 y.1.f.fr)).set 2 (.int .i64 y.1.f.to)).set 3 (.int .i64 y.1.f.seq)).set 4 y.1.v).set 5 (.int .i64 y.2)
  simpa using this
theorem filter_snoc (ks : List (FV × Int)) (n : Int) (j : Nat) (x : FV × Int) (hx : ks[j]? = some x) : (ks.take (j + 1)).filter (keptB n) = (ks.take j).filter (keptB n) ++ if keptB n x = true then [x] else [] := by
  rw [List.take_add_one, hx, List.filter_append]
  simp only [Option.toList, List.filter_cons, List.filter_nil]

end Go.Proofs.YtnpnhbfbklibhaaGreatDoor


/- Links: what is answered; frames are appended. -/
namespace Go.Proofs.YtnpnhbfbklibhaaGreatDoor
set_option linter.unusedSimpArgs false
set_option linter.unusedVariables false
open Go Go.RowKit

theorem Snd.acked_eq {s : Snd} {ks : List (FV × Int)} (h : s.l = ks.map fun x => (x.1.f, x.2)) (n : Int) : (s.acked n).l = (ks.filter (keptB n)).map fun x => (x.1.f, x.2) := by
  simp only [Snd.acked, h, List.filter_map]
  rfl

/-- append of one element of several cells to a row of one's own, in a sequence. -/
theorem wpList_append_el {ops : Array Oper} {Q : Exit → Act → World → Prop} {rest : List Oper} {o : Oper} {a : Act} {w : World} (base : Nat) (hbase : base ≤ w.heap.size) (t e : TypeId) (z : Value) (size bytes : Nat) (ht : Tryz.prog.underlying t = some (.slice e)) (hinf : (Tryz.prog.info? e).map (fun i => (i.zero, i.size, i.bytes)) = some (some z, size, bytes)) (hz1 : z.cells.size = size) (hsz : 0 < size)
    (hb8 : bytes ≤ 64) (hg : o.guard = none) (s x : Operand) (ho : o.op = .call { callee := .builtin .append, args := #[s, x], argTypes := #[t, t] })
    (v : Value) (n : Nat) (xs : List Value) (hs : a.eval s = v) (hown : w.ownsRow base e size v n xs) (g : Nat) (us : List Value) (hul : us.length = size) (hu : ∀ u ∈ us, u.oneCell' = true) (hx : a.eval x = .slice (some ⟨g, 0, none⟩) 1 1) (hb : Blk w g us.toArray e) (hl : n ≤ 1000000)
    (h : ∀ v' w', w'.ownsRow base e size v' (n + 1) (xs ++ us) → Keep (fun k => v.ownBlock = some k) w w' → (v'.ownBlock = v.ownBlock ∨ v'.ownBlock = some w.heap.size) → wpList Tryz.prog ops Q rest (a.put o.dst v') w') : wpList Tryz.prog ops Q (o :: rest) a w := by
  obtain ⟨ti, hi, hz0, hz, hz2⟩ := info_parts hinf
  obtain ⟨v', w', hr, h2, h3, _, h4⟩ := run_append_own_at (P := Tryz.prog) w base t o.type e ti z size bytes ht hi hz0 hz hz2 hz1 hsz v n xs hown ⟨g, 0, none⟩ 1 1 us (by rw [hul]; omega) (fun j q hq => by
    rw [show (⟨g, 0, none⟩ : Addr).add j = ⟨g, j, none⟩ from by by_cases h0 : j = 0 <;> simp [Addr.add, h0], hb.cell j]
    simpa using hq) hu (by simp only [maxLen]; omega) (by
      have : (n + 1) * bytes ≤ (n + 1) * 64 := Nat.mul_le_mul_left _ hb8
      omega) hbase
  refine wpList_plain hg fun K hK => ?_
  unfold Oper.wp
  rw [run_exec_append s x t ho hs hx hr]
  exact hK _ _ (h v' w' h2 (grown_keep h3) h4)
end Go.Proofs.YtnpnhbfbklibhaaGreatDoor


/- Programs: the functions' names. -/
namespace Go.Proofs.YtnpnhbfbklibhaaGreatDoor
set_option linter.unusedSimpArgs false
set_option linter.unusedVariables false
open Go Go.RowKit

theorem own_low {w : World} {base b2 : Nat} {e : TypeId} {size : Nat} {v : Value} {n : Nat} {xs : List Value} (h : w.ownsRow base e size v n xs) (hb : b2 ≤ base) : w.ownsRow b2 e size v n xs := by
  obtain ⟨h1, h2⟩ := h
  refine ⟨h1, h2.imp id ?_⟩
  rintro ⟨g, cap, cur, rfl, hg, h3⟩
  exact ⟨g, cap, cur, rfl, Nat.le_trans hb hg, h3⟩
theorem str_info : (Tryz.prog.info? 9).map (fun i => (i.zero, i.size, i.bytes)) = some (some (.string ⟨#[]⟩), 1, 16) := by kernel_rfl
/-- A row of one's own, as a slice that is read. -/
theorem ElR.own {w : World} {base n0 : Nat} {e : TypeId} {size : Nat} {v : Value} {n : Nat} {xs : List Value} {E : Nat → Addr → Prop} (h : w.ownsRow base e size v n xs) (h0 : w.heap.size ≤ n0) (hE : ∀ g, (∀ i u, xs[i]? = some u → w.cell? ((⟨g, 0, none⟩ : Addr).add i) = some u) → ∀ i, i < n → E i ⟨g, 0, none⟩) : ElR n0 v n E := by
  obtain ⟨hl, h2⟩ := id h
  rcases h2 with ⟨rfl, rfl⟩ | ⟨g, cap, cur, rfl, hb, hg, hn, hc, hs, _⟩
  · exact ⟨none, 0, rfl, Nat.le_refl _, by omega, fun h => by omega, fun y hy => by cases hy⟩
  · have hml : maxLen = 9223372036854775807 := by decide
    refine ⟨_, cap, rfl, hn, by omega, fun _ => ⟨_, rfl⟩, fun y hy hp => ?_⟩
    obtain rfl := Option.some.inj hy
    refine ⟨Nat.lt_of_lt_of_le (Array.getElem?_eq_some_iff.1 hg).1 h0, hE g fun i u hu => h.cells (g := g) rfl i u hu⟩
theorem StrsR.own {w : World} {base n0 : Nat} {e : TypeId} {v : Value} {l : List ByteArray} (h : w.ownsRow base e 1 v l.length (l.map .string)) (h0 : w.heap.size ≤ n0) : StrsR w n0 v l :=
  ElR.own h h0 fun g hc i hi s hs => hc i _ (by rw [List.getElem?_map, hs]; rfl)
theorem IntsR.own {w : World} {base n0 : Nat} {e : TypeId} {v : Value} {l : List Int} (h : w.ownsRow base e 1 v l.length (icells l)) (h0 : w.heap.size ≤ n0) : IntsR w n0 v l :=
  ElR.own h h0 fun g hc i hi s hs => hc i _ (by unfold icells; rw [List.getElem?_map, hs]; rfl)

set_option maxRecDepth 100000 in
set_option maxHeartbeats 3200000 in
theorem pfunnames_any (a1 a2 a3 : Option Addr) (c1 c2 c3 : Nat) (P : PP) (w : World) (n0 : Nat) (h : FunsR w n0 (.slice a2 P.funs.length c2) P.funs) (hl : P.funs.length ≤ 1000) :
    Calls Tryz.prog 26 #[pval a1 a2 a3 c1 c2 c3 P] w fun e w' => ∃ v, e = .returned v ∧ w'.ownsRow w.heap.size 9 1 v P.funs.length ((P.funs.map PF.name).map .string) ∧ Ext w w' := by
  have HF := hid h
  clear h
  obtain ⟨W, hW⟩ : ∃ W, W = w.alloc (.cells (pcells a1 a2 a3 c1 c2 c3 P) 26) := ⟨_, rfl⟩
  have HW : Hid (Ext w W) := hid (by rw [hW]; exact (Ext.refl _).alloc _)
  have HB : Hid (Blk W w.heap.size (pcells a1 a2 a3 c1 c2 c3 P) 26) := hid (by rw [hW]; exact Blk.new _ _ _)
  unfold pval
  unfold pcells at hW
  have HWe := hid hW
  clear hW
  go_enter Tryz.func26, Tryz.ntmps26
  go_wp2
  rw [← HWe.out]
  go_loopw [3, 9] (fun t3 t9 wr => ∃ (k : Nat), t9 = .int .i64 (k : Int) ∧ k ≤ P.funs.length ∧ wr.ownsRow W.heap.size 9 1 t3 k (((P.funs.take k).map PF.name).map .string) ∧ Ext W wr) (fun _ t9 _ => P.funs.length - (intOf t9).toNat)
  case atStart => exact ⟨0, rfl, Nat.zero_le _, World.ownsRow_nil _ _ _ _, Ext.refl _⟩
  case round =>
    obtain ⟨k, rfl, hk, hrow, hx⟩ := hrel
    obtain ⟨ao, co, rfl⟩ := row_form hrow
    have Hrow := hid hrow
    have Hx := hid hx
    clear hrow hx
    by_cases hlt : k < P.funs.length
    · obtain ⟨y, f, av, cv, rfl, hfk, e0, e1, e2, _⟩ := (HF.out.old ((HW.out.trans Hx.out).old n0)).at hlt
      have Hfk := hid hfk
      obtain ⟨W2, hW2⟩ : ∃ W2, W2 = (wr.alloc (.cells #[.string f.name, .slice av f.params.length cv, .int .i64 f.ret] 58)).alloc (.cells #[.string f.name] 9) := ⟨_, rfl⟩
      have hx2 : Ext wr W2 := by rw [hW2]; exact ((Ext.refl _).alloc _).alloc _
      have HB2 : Hid (Blk W2 (wr.heap.size + 1) #[.string f.name] 9) := hid (by
        rw [hW2]
        have := Blk.new (wr.alloc (.cells #[.string f.name, .slice av f.params.length cv, .int .i64 f.ret] 58)) #[.string f.name] 9
        rwa [heap_size_alloc] at this)
      have Hq := hid (row_keep Hrow.out (hx2.keep fun _ => False) (fun _ _ h => h))
      have Hxw := hid (Hx.out.trans hx2)
      have Hbs : Hid (W.heap.size ≤ W2.heap.size) := hid Hxw.out.size
      have Hol : Hid (k ≤ 1000000) := hid (by omega)
      have HW2 := hid hW2
      clear hW2 hx2 hfk
      go_wp2_with (at_builtin; rw [← HW2.out]; refine wpList_append_el W.heap.size Hbs.out 22 9 (.string ⟨#[]⟩) 1 16 Tryz.underlying22 str_info rfl (by omega) (by omega) rfl _ _ rfl (.slice ao k co) k (((P.funs.take k).map PF.name).map .string) rfl Hq.out (wr.heap.size + 1) [.string f.name] rfl (by simp [Value.oneCell']) rfl HB2.out Hol.out ?_; intro v6 w6 ho6 hk6 hl6)
      go_roundw
      case rel =>
        refine ⟨k + 1, by go_num, by omega, ?_, ?_⟩
        · rw [List.take_add_one, Hfk.out]
          simpa using ho6
        · exact Keep.new Hxw.out hk6 fun b hb => (World.ownsRow.lt Hq.out b hb).1
      case measure => simp [intOf]; omega
    · obtain rfl : k = P.funs.length := by omega
      have Hr := hid (show wr.ownsRow w.heap.size 9 1 (.slice ao P.funs.length co) P.funs.length ((P.funs.map PF.name).map .string) by
        have := Hrow.out
        rw [List.take_length] at this
        exact own_low this HW.out.size)
      clear Hrow
      go_wp2
      go_ret
      exact ⟨_, rfl, Hr.out, HW.out.trans Hx.out⟩
end Go.Proofs.YtnpnhbfbklibhaaGreatDoor


/- Programs: the check. -/
namespace Go.Proofs.YtnpnhbfbklibhaaGreatDoor
set_option linter.unusedSimpArgs false
set_option linter.unusedVariables false
open Go Go.RowKit

def PP.big (P : PP) : Bool := decide (40 < P.vars.length) || decide (6 < P.funs.length) || decide (80 < P.stmts.length)
def PP.names (P : PP) : List ByteArray := P.funs.map PF.name
/-- What is wrong ahead of the statements. -/
def PP.err1 (P : PP) : Nat := bif P.big then 8 else if namesErr P.vars = 5 ∨ namesErr P.names = 5 then 5 else if namesErr P.vars = 7 ∨ namesErr P.names = 7 then 7 else P.funsErr
/-- The first statement that is not well. -/
def PP.FirstBad (P : PP) (i : Nat) (s : PS) : Prop := P.stmts[i]? = some s ∧ P.stmtErr s ≠ 0 ∧ ∀ j t, j < i → P.stmts[j]? = some t → P.stmtErr t = 0
def PP.allWell (P : PP) : Prop := ∀ j t, j < P.stmts.length → P.stmts[j]? = some t → P.stmtErr t = 0
/-- What a check tells. -/
def ErrIs (ad : Nat → Addr) (P : PP) (w : World) (v : Value) : Prop :=
  (P.err1 ≠ 0 ∧ v = evOf ad P.err1) ∨ (P.err1 = 0 ∧ P.allWell ∧ v = .nilIface) ∨
  (P.err1 = 0 ∧ ∃ i s b, P.FirstBad i s ∧ v = .iface 66 (.pointer (some ⟨b, 0, none⟩)) ∧ Blk w b #[.int .i64 (i : Int), evOf ad (P.stmtErr s)] 68)

theorem epComp : (Tryz.prog.info? 217).map (·.comparable) = some true := by kernel_rfl
theorem epSize : (Tryz.prog.info? 238).map (·.size) = some 1 := by kernel_rfl
/-- Errors that are compared. -/
theorem eq_facts {w : World} {ad : Nat → Addr} (h : ErrsP w ad) :
    (binOp .eql 35 (.iface 217 (.pointer (some (ad 5)))) (.iface 217 (.pointer (some (ad 5))))).run Tryz.prog w = .ok (.bool true) w ∧
    (binOp .eql 35 (.iface 217 (.pointer (some (ad 7)))) (.iface 217 (.pointer (some (ad 7))))).run Tryz.prog w = .ok (.bool true) w ∧
    (binOp .eql 35 (.iface 217 (.pointer (some (ad 5)))) (.iface 217 (.pointer (some (ad 7))))).run Tryz.prog w = .ok (.bool false) w ∧
    (binOp .eql 35 (.iface 217 (.pointer (some (ad 7)))) (.iface 217 (.pointer (some (ad 5))))).run Tryz.prog w = .ok (.bool false) w ∧
    (binOp .eql 35 .nilIface (.iface 217 (.pointer (some (ad 5))))).run Tryz.prog w = .ok (.bool false) w ∧
    (binOp .eql 35 .nilIface (.iface 217 (.pointer (some (ad 7))))).run Tryz.prog w = .ok (.bool false) w := by
  obtain ⟨i, hi, hcmp⟩ := Option.map_eq_some_iff.1 epComp
  obtain ⟨j, hj, hjs⟩ := Option.map_eq_some_iff.1 epSize
  obtain ⟨c5, t5, r5⟩ := h.row5
  obtain ⟨c7, t7, r7⟩ := h.row7
  exact ⟨run_eql_iface_ptr_same w _ Tryz.underlying35 Tryz.underlying217 hi hcmp hj, run_eql_iface_ptr_same w _ Tryz.underlying35 Tryz.underlying217 hi hcmp hj,
    run_eql_iface_ptr_other w Tryz.underlying35 Tryz.underlying217 hi hcmp hj (by rw [hjs]; decide) h.ne57 r5 r7, run_eql_iface_ptr_other w Tryz.underlying35 Tryz.underlying217 hi hcmp hj (by rw [hjs]; decide) h.ne57.symm r7 r5,
    run_eql_iface_nil_left w _ _ Tryz.underlying35, run_eql_iface_nil_left w _ _ Tryz.underlying35⟩

theorem namesErr_cases (l : List ByteArray) : namesErr l = 0 ∨ namesErr l = 5 ∨ namesErr l = 7 := by
  unfold namesErr
  cases anyBad l <;> cases dupS l <;> simp

set_option maxRecDepth 100000 in
set_option maxHeartbeats 12800000 in
theorem pcheck_any (a1 a2 a3 : Option Addr) (c1 c2 c3 : Nat) (P : PP) (w : World) (n0 : Nat) (ad : Nat → Addr) (hE : ErrsP w ad) (h : ProgR w n0 (.slice a1 P.vars.length c1) (.slice a2 P.funs.length c2) (.slice a3 P.stmts.length c3) P)
    (hz1 : ∀ s ∈ P.vars, s.size ≤ 1000000) (hz2 : ∀ s ∈ P.names, s.size ≤ 1000000) (hml1 : (P.vars.length : Int) ≤ 9223372036854775807) :
    Calls Tryz.prog 11 #[pval a1 a2 a3 c1 c2 c3 P] w fun e w' => ∃ v, e = .returned v ∧ ErrIs ad P w' v ∧ Ext w w' := by
  have HP := hid h
  have HE := hid hE
  have hml2 := h.funs.len
  have hml3 := h.stmts.len
  clear h hE
  obtain ⟨W, hW⟩ : ∃ W, W = w.alloc (.cells (pcells a1 a2 a3 c1 c2 c3 P) 26) := ⟨_, rfl⟩
  have HW : Hid (Ext w W) := hid (by rw [hW]; exact (Ext.refl _).alloc _)
  have HB : Hid (Blk W w.heap.size (pcells a1 a2 a3 c1 c2 c3 P) 26) := hid (by rw [hW]; exact Blk.new _ _ _)
  unfold pval
  unfold pcells at hW
  have HWe := hid hW
  clear hW
  have d0 := HB.out.kc (X := fun _ => False) (fun e => e) 0 rfl
  have d1 := HB.out.kc (X := fun _ => False) (fun e => e) 1 rfl
  have d2 := HB.out.kc (X := fun _ => False) (fun e => e) 2 rfl
  simp only [pcells, List.getElem_toArray, List.getElem_cons_zero, List.getElem_cons_succ] at d0 d1 d2
  by_cases hbig : P.big = true
  · have he : P.err1 = 8 := by unfold PP.err1; rw [hbig]; rfl
    have He := hid (show ErrIs ad P W (evOf ad 8) from .inl ⟨by rw [he]; decide, by rw [he]⟩)
    unfold PP.big at hbig
    simp only [Bool.or_eq_true, decide_eq_true_eq] at hbig
    have k8 := (HE.out.ext HW.out).at8
    have HE8 := hid (show ErrIs ad P (w.alloc (.cells #[.slice a1 P.vars.length c1, .slice a2 P.funs.length c2, .slice a3 P.stmts.length c3] 26)) (.iface 217 (.pointer (some (ad 8)))) by rw [← HWe.out]; exact He.out)
    have HX8 := hid (show Ext w (w.alloc (.cells #[.slice a1 P.vars.length c1, .slice a2 P.funs.length c2, .slice a3 P.stmts.length c3] 26)) from (Ext.refl w).alloc _)
    unfold evOf at k8
    rw [HWe.out] at k8
    clear he d0 d1 d2
    go_enter Tryz.func11, Tryz.ntmps11
    by_cases b1 : 40 < P.vars.length
    · clear hbig
      go_wp2
      go_ret
      exact ⟨_, rfl, HE8.out, HX8.out⟩
    · by_cases b2 : 6 < P.funs.length
      · clear hbig
        go_wp2
        go_ret
        exact ⟨_, rfl, HE8.out, HX8.out⟩
      · have b3 : 80 < P.stmts.length := by omega
        clear hbig
        go_wp2
        go_ret
        exact ⟨_, rfl, HE8.out, HX8.out⟩
  have hbig' : P.big = false := by simpa using hbig
  have HBig := hid hbig'
  have hb := hbig'
  unfold PP.big at hb
  simp only [Bool.or_eq_false_iff, decide_eq_false_iff_not] at hb
  obtain ⟨⟨q1, q2⟩, q3⟩ := hb
  clear hbig hbig'
  have HFn := hid fun w1 (x : Ext w w1) => pfunnames_any a1 a2 a3 c1 c2 c3 P w1 n0 (HP.out.ext x).funs (by omega)
  unfold pval at HFn
  go_enter Tryz.func11, Tryz.ntmps11
  go_wp2
  rw [← HWe.out]
  refine wp_flowT (fun _ => False) (by kernel_rfl) (by kernel_rfl) ?_
  repeat (apply FlowT.d; (intro w1 hk; unfold does; go_simp; (try go_ints); (first | exact DetR.mk | (simp only [↓IntWalk.iteOmega, Oper.doesUpon_value]; exact DetR.mk) | (simp only [↓IntWalk.iteOmega]; go_simp; (try go_ints); exact DetR.mk))); simp only [Act.put, List.setIfInBounds_toArray, List.set_cons_zero, List.set_cons_succ])
  refine FlowT.s (fun v w' => w'.ownsRow W.heap.size 9 1 v P.funs.length (P.names.map .string) ∧ Ext W w') 3 rfl (by kernel_rfl) (fun _ _ _ ⟨h1, h2⟩ x => ⟨own_ext h1 x, h2.trans x⟩) (fun w1 hC hk => ?_) ?_
  · unfold does
    go_simp
    refine CallR.act ((HFn.out w1 (HW.out.trans hk.ext)).mono ?_)
    rintro e w2 ⟨v, rfl, hr, hx⟩
    exact ⟨v, rfl, (hk.ext.trans hx).keep _, own_low hr hk.size, hk.ext.trans hx⟩
  rintro v ⟨_, hI, _⟩
  obtain ⟨a4, c4, rfl⟩ := row_form hI
  clear hI
  simp only [Act.put, List.setIfInBounds_toArray, List.set_cons_zero, List.set_cons_succ]
  refine FlowT.s (fun v w' => ∃ g, v = .slice (some ⟨g, 0, none⟩) 2 2 ∧ Blk w' g #[.slice a1 P.vars.length c1, .slice a4 P.funs.length c4] 22 ∧ w'.ownsRow W.heap.size 9 1 (.slice a4 P.funs.length c4) P.funs.length (P.names.map .string) ∧ Ext W w') 4 rfl (by kernel_rfl) (fun _ _ _ ⟨g, h1, h2, h3, h4⟩ x => ⟨g, h1, h2.ext x, own_ext h3 x, h4.trans x⟩) (fun w1 hC hk => ?_) ?_
  · unfold does
    go_simp
    exact ⟨hk.alloc _, _, rfl, Blk.new _ _ _, own_ext hC.1 ((Ext.refl _).alloc _), hC.2.alloc _⟩
  rintro _ ⟨_, g, rfl, _, _⟩
  simp only [Act.put, List.setIfInBounds_toArray, List.set_cons_zero, List.set_cons_succ]
  repeat (apply FlowT.d; (intro w1 hk; unfold does; go_simp; (try go_ints); (first | exact DetR.mk | (simp only [↓IntWalk.iteOmega, Oper.doesUpon_value]; exact DetR.mk) | (simp only [↓IntWalk.iteOmega]; go_simp; (try go_ints); exact DetR.mk))); simp only [Act.put, List.setIfInBounds_toArray, List.set_cons_zero, List.set_cons_succ])
  refine FlowT.fin fun wA hC hk => ?_
  obtain ⟨g', e, hg, hrow, hxA⟩ := hC
  obtain rfl : g = g' := by simpa using e
  have Hg := hid hg
  have HS2 := hid (StrsR.own (n0 := wA.heap.size) (l := P.names) (by simpa [PP.names] using hrow) (Nat.le_refl _))
  have HxA := hid hxA
  clear hg hrow hxA e hk
  have k5 := (HE.out.ext (HW.out.trans HxA.out)).at5
  have k7 := (HE.out.ext (HW.out.trans HxA.out)).at7
  unfold evOf at k5 k7
  obtain ⟨wB, hwB⟩ : ∃ wB, wB = wA.alloc (.cells #[.iface 217 (.pointer (some (ad 5))), .iface 217 (.pointer (some (ad 7)))] 35) := ⟨_, rfl⟩
  have HxC : Hid (Ext wA wB) := hid (by rw [hwB]; exact (Ext.refl _).alloc _)
  have HxB := hid (HxA.out.trans HxC.out)
  have HB9 : Hid (Blk wB wA.heap.size #[.iface 217 (.pointer (some (ad 5))), .iface 217 (.pointer (some (ad 7)))] 35) := hid (by rw [hwB]; exact Blk.new _ _ _)
  have hne1 : ¬ ad 5 = ad 7 := HE.out.ne57
  have hne2 : ¬ ad 7 = ad 5 := fun h => hne1 h.symm
  have HwB := hid hwB
  clear hwB d0 d1 d2
  go_wp2
  rw [← HwB.out]
  clear k5 k7
  go_loopw [39] (fun t39 wr => ∃ k : Nat, t39 = .int .i64 (k : Int) ∧ k ≤ 2 ∧ (0 < k → namesErr P.vars ≠ 5 ∧ namesErr P.names ≠ 5) ∧ (1 < k → namesErr P.vars ≠ 7 ∧ namesErr P.names ≠ 7) ∧ Ext wB wr) (fun t39 _ => 2 - (intOf t39).toNat)
  case atStart => exact ⟨0, rfl, by omega, fun h => by omega, fun h => by omega, Ext.refl _⟩
  case round =>
    obtain ⟨k, rfl, hk, hp5, hp7, hx⟩ := hrel
    have Hx := hid hx
    have x0 := (HB9.out.ext hx).av 0 rfl
    have x1 := (HB9.out.ext hx).av 1 rfl
    simp only [List.getElem_toArray, List.getElem_cons_zero, List.getElem_cons_succ] at x0 x1
    clear hx
    rcases (by omega : k = 0 ∨ k = 1 ∨ k = 2) with rfl | rfl | rfl
    · clear hp5 hp7
      go_wp2
      generalize wr = wz at *
      go_loopw [45] (fun t45 wr => ∃ j : Nat, t45 = .int .i64 (j : Int) ∧ j ≤ 2 ∧ (0 < j → namesErr P.vars ≠ 5) ∧ (1 < j → namesErr P.names ≠ 5) ∧ Ext wB wr) (fun t45 _ => 2 - (intOf t45).toNat)
      case atStart => exact ⟨0, rfl, by omega, fun h => by omega, fun h => by omega, Hx.out⟩
      case round =>
        obtain ⟨j, rfl, hj, hq0, hq1, hy⟩ := hrel
        have Hy := hid hy
        have Hq0 := hid hq0
        have Hq1 := hid hq1
        have r0 := (Hg.out.ext (HxC.out.trans hy)).av 0 rfl
        have r1 := (Hg.out.ext (HxC.out.trans hy)).av 1 rfl
        simp only [List.getElem_toArray, List.getElem_cons_zero, List.getElem_cons_succ] at r0 r1
        clear hy hq0 hq1
        rcases (by omega : j = 0 ∨ j = 1 ∨ j = 2) with rfl | rfl | rfl
        · have HN := hid (names_any _ P.vars wr n0 ad (HE.out.ext (HW.out.trans (HxB.out.trans Hy.out))) (HP.out.ext (HW.out.trans (HxB.out.trans Hy.out))).vars hz1)
          go_wp2_with fail
          refine HN.out.mono ?_
          intro e w5 hx5
          obtain ⟨rfl, hx5⟩ := hx5
          have Hx5 := hid (Hy.out.trans hx5)
          clear HN hx5
          obtain ⟨z1, z2, z3, z4, z5, z6⟩ := eq_facts (HE.out.ext (HW.out.trans (HxB.out.trans Hx5.out)))
          rcases namesErr_cases P.vars with hd | hd | hd
          · rw [show errv (evOf ad) (namesErr P.vars) = .nilIface from by rw [hd]; rfl]
            have Hd := hid hd
            clear hd
            go_wp2
            go_roundw
            case rel => exact ⟨_, _, _, _, _, _, _, _, _, _, _, _, _, _, ⟨1, by go_num, by omega, fun h => by first | omega | exact Hq0.out (by omega) | (rw [Hd.out]; decide), fun h => by first | omega | (rw [Hd.out]; decide), Hx5.out⟩, rfl⟩
            case measure => simp [intOf]
          · rw [show errv (evOf ad) (namesErr P.vars) = .iface 217 (.pointer (some (ad 5))) from by rw [hd]; rfl]
            have Hd := hid hd
            clear hd
            go_wp2
            go_ret
            have he : P.err1 = 5 := by unfold PP.err1; rw [HBig.out]; simp [Hd.out]
            exact ⟨_, rfl, .inl ⟨by rw [he]; decide, by rw [he]; rfl⟩, HW.out.trans (HxB.out.trans Hx5.out)⟩
          · rw [show errv (evOf ad) (namesErr P.vars) = .iface 217 (.pointer (some (ad 7))) from by rw [hd]; rfl]
            have Hd := hid hd
            clear hd
            go_wp2
            go_roundw
            case rel => exact ⟨_, _, _, _, _, _, _, _, _, _, _, _, _, _, ⟨1, by go_num, by omega, fun h => by first | omega | exact Hq0.out (by omega) | (rw [Hd.out]; decide), fun h => by first | omega | (rw [Hd.out]; decide), Hx5.out⟩, rfl⟩
            case measure => simp [intOf]
        · have HN := hid (names_any _ P.names wr wA.heap.size ad (HE.out.ext (HW.out.trans (HxB.out.trans Hy.out))) (HS2.out.old ((HxC.out.trans Hy.out).old _)) hz2)
          go_wp2_with fail
          refine HN.out.mono ?_
          intro e w5 hx5
          obtain ⟨rfl, hx5⟩ := hx5
          have Hx5 := hid (Hy.out.trans hx5)
          clear HN hx5
          obtain ⟨z1, z2, z3, z4, z5, z6⟩ := eq_facts (HE.out.ext (HW.out.trans (HxB.out.trans Hx5.out)))
          rcases namesErr_cases P.names with hd | hd | hd
          · rw [show errv (evOf ad) (namesErr P.names) = .nilIface from by rw [hd]; rfl]
            have Hd := hid hd
            clear hd
            go_wp2
            go_roundw
            case rel => exact ⟨_, _, _, _, _, _, _, _, _, _, _, _, _, _, ⟨2, by go_num, by omega, fun h => by first | omega | exact Hq0.out (by omega) | (rw [Hd.out]; decide), fun h => by first | omega | (rw [Hd.out]; decide), Hx5.out⟩, rfl⟩
            case measure => simp [intOf]
          · rw [show errv (evOf ad) (namesErr P.names) = .iface 217 (.pointer (some (ad 5))) from by rw [hd]; rfl]
            have Hd := hid hd
            clear hd
            go_wp2
            go_ret
            have he : P.err1 = 5 := by unfold PP.err1; rw [HBig.out]; simp [Hd.out]
            exact ⟨_, rfl, .inl ⟨by rw [he]; decide, by rw [he]; rfl⟩, HW.out.trans (HxB.out.trans Hx5.out)⟩
          · rw [show errv (evOf ad) (namesErr P.names) = .iface 217 (.pointer (some (ad 7))) from by rw [hd]; rfl]
            have Hd := hid hd
            clear hd
            go_wp2
            go_roundw
            case rel => exact ⟨_, _, _, _, _, _, _, _, _, _, _, _, _, _, ⟨2, by go_num, by omega, fun h => by first | omega | exact Hq0.out (by omega) | (rw [Hd.out]; decide), fun h => by first | omega | (rw [Hd.out]; decide), Hx5.out⟩, rfl⟩
            case measure => simp [intOf]
        · go_wp2
          go_roundw
          case rel => exact ⟨1, by go_num, by omega, fun _ => ⟨Hq0.out (by omega), Hq1.out (by omega)⟩, fun h => by omega, Hy.out⟩
          case measure => simp [intOf]
    · have Hp5 := hid (hp5 (by omega))
      clear hp5 hp7
      go_wp2
      generalize wr = wz at *
      go_loopw [45] (fun t45 wr => ∃ j : Nat, t45 = .int .i64 (j : Int) ∧ j ≤ 2 ∧ (0 < j → namesErr P.vars ≠ 7) ∧ (1 < j → namesErr P.names ≠ 7) ∧ Ext wB wr) (fun t45 _ => 2 - (intOf t45).toNat)
      case atStart => exact ⟨0, rfl, by omega, fun h => by omega, fun h => by omega, Hx.out⟩
      case round =>
        obtain ⟨j, rfl, hj, hq0, hq1, hy⟩ := hrel
        have Hy := hid hy
        have Hq0 := hid hq0
        have Hq1 := hid hq1
        have r0 := (Hg.out.ext (HxC.out.trans hy)).av 0 rfl
        have r1 := (Hg.out.ext (HxC.out.trans hy)).av 1 rfl
        simp only [List.getElem_toArray, List.getElem_cons_zero, List.getElem_cons_succ] at r0 r1
        clear hy hq0 hq1
        rcases (by omega : j = 0 ∨ j = 1 ∨ j = 2) with rfl | rfl | rfl
        · have HN := hid (names_any _ P.vars wr n0 ad (HE.out.ext (HW.out.trans (HxB.out.trans Hy.out))) (HP.out.ext (HW.out.trans (HxB.out.trans Hy.out))).vars hz1)
          go_wp2_with fail
          refine HN.out.mono ?_
          intro e w5 hx5
          obtain ⟨rfl, hx5⟩ := hx5
          have Hx5 := hid (Hy.out.trans hx5)
          clear HN hx5
          obtain ⟨z1, z2, z3, z4, z5, z6⟩ := eq_facts (HE.out.ext (HW.out.trans (HxB.out.trans Hx5.out)))
          rcases namesErr_cases P.vars with hd | hd | hd
          · rw [show errv (evOf ad) (namesErr P.vars) = .nilIface from by rw [hd]; rfl]
            have Hd := hid hd
            clear hd
            go_wp2
            go_roundw
            case rel => exact ⟨_, _, _, _, _, _, _, _, _, _, _, _, _, _, ⟨1, by go_num, by omega, fun h => by first | omega | exact Hq0.out (by omega) | (rw [Hd.out]; decide), fun h => by first | omega | (rw [Hd.out]; decide), Hx5.out⟩, rfl⟩
            case measure => simp [intOf]
          · rw [show errv (evOf ad) (namesErr P.vars) = .iface 217 (.pointer (some (ad 5))) from by rw [hd]; rfl]
            have Hd := hid hd
            clear hd
            go_wp2
            go_roundw
            case rel => exact ⟨_, _, _, _, _, _, _, _, _, _, _, _, _, _, ⟨1, by go_num, by omega, fun h => by first | omega | exact Hq0.out (by omega) | (rw [Hd.out]; decide), fun h => by first | omega | (rw [Hd.out]; decide), Hx5.out⟩, rfl⟩
            case measure => simp [intOf]
          · rw [show errv (evOf ad) (namesErr P.vars) = .iface 217 (.pointer (some (ad 7))) from by rw [hd]; rfl]
            have Hd := hid hd
            clear hd
            go_wp2
            go_ret
            have he : P.err1 = 7 := by unfold PP.err1; rw [HBig.out]; simp [Hd.out, Hp5.out.1, Hp5.out.2]
            exact ⟨_, rfl, .inl ⟨by rw [he]; decide, by rw [he]; rfl⟩, HW.out.trans (HxB.out.trans Hx5.out)⟩
        · have HN := hid (names_any _ P.names wr wA.heap.size ad (HE.out.ext (HW.out.trans (HxB.out.trans Hy.out))) (HS2.out.old ((HxC.out.trans Hy.out).old _)) hz2)
          go_wp2_with fail
          refine HN.out.mono ?_
          intro e w5 hx5
          obtain ⟨rfl, hx5⟩ := hx5
          have Hx5 := hid (Hy.out.trans hx5)
          clear HN hx5
          obtain ⟨z1, z2, z3, z4, z5, z6⟩ := eq_facts (HE.out.ext (HW.out.trans (HxB.out.trans Hx5.out)))
          rcases namesErr_cases P.names with hd | hd | hd
          · rw [show errv (evOf ad) (namesErr P.names) = .nilIface from by rw [hd]; rfl]
            have Hd := hid hd
            clear hd
            go_wp2
            go_roundw
            case rel => exact ⟨_, _, _, _, _, _, _, _, _, _, _, _, _, _, ⟨2, by go_num, by omega, fun h => by first | omega | exact Hq0.out (by omega) | (rw [Hd.out]; decide), fun h => by first | omega | (rw [Hd.out]; decide), Hx5.out⟩, rfl⟩
            case measure => simp [intOf]
          · rw [show errv (evOf ad) (namesErr P.names) = .iface 217 (.pointer (some (ad 5))) from by rw [hd]; rfl]
            have Hd := hid hd
            clear hd
            go_wp2
            go_roundw
            case rel => exact ⟨_, _, _, _, _, _, _, _, _, _, _, _, _, _, ⟨2, by go_num, by omega, fun h => by first | omega | exact Hq0.out (by omega) | (rw [Hd.out]; decide), fun h => by first | omega | (rw [Hd.out]; decide), Hx5.out⟩, rfl⟩
            case measure => simp [intOf]
          · rw [show errv (evOf ad) (namesErr P.names) = .iface 217 (.pointer (some (ad 7))) from by rw [hd]; rfl]
            have Hd := hid hd
            clear hd
            go_wp2
            go_ret
            have he : P.err1 = 7 := by unfold PP.err1; rw [HBig.out]; simp [Hd.out, Hp5.out.1, Hp5.out.2]
            exact ⟨_, rfl, .inl ⟨by rw [he]; decide, by rw [he]; rfl⟩, HW.out.trans (HxB.out.trans Hx5.out)⟩
        · go_wp2
          go_roundw
          case rel => exact ⟨2, by go_num, by omega, fun _ => Hp5.out, fun _ => ⟨Hq0.out (by omega), Hq1.out (by omega)⟩, Hy.out⟩
          case measure => simp [intOf]
    · have Hp5 := hid (hp5 (by omega))
      have Hp7 := hid (hp7 (by omega))
      have H1 := hid (show P.err1 = P.funsErr by unfold PP.err1; rw [HBig.out]; simp [Hp5.out.1, Hp5.out.2, Hp7.out.1, Hp7.out.2])
      have d0 := (HB.out.ext (HxB.out.trans Hx.out)).av 0 rfl
      have d1 := (HB.out.ext (HxB.out.trans Hx.out)).av 1 rfl
      have d2 := (HB.out.ext (HxB.out.trans Hx.out)).av 2 rfl
      simp only [pcells, List.getElem_toArray, List.getElem_cons_zero, List.getElem_cons_succ] at d0 d1 d2
      have HF := hid (pfuns_any a1 a2 a3 c1 c2 c3 P wr n0 ad (HE.out.ext (HW.out.trans (HxB.out.trans Hx.out))) (HP.out.ext (HW.out.trans (HxB.out.trans Hx.out))).funs)
      unfold pval at HF
      clear hp5 hp7 x0 x1
      go_wp2_with fail
      refine HF.out.mono ?_
      intro e w5 hx5
      obtain ⟨rfl, hx5⟩ := hx5
      have Hx5 := hid (HxB.out.trans (Hx.out.trans hx5))
      clear HF hx5 d0 d1 d2
      by_cases hf : P.funsErr = 0
      · rw [show errv (evOf ad) P.funsErr = .nilIface from by rw [hf]; rfl]
        have Hf := hid (show P.err1 = 0 by rw [H1.out, hf])
        have d0 := (HB.out.ext Hx5.out).av 0 rfl
        have d1 := (HB.out.ext Hx5.out).av 1 rfl
        have d2 := (HB.out.ext Hx5.out).av 2 rfl
        simp only [pcells, List.getElem_toArray, List.getElem_cons_zero, List.getElem_cons_succ] at d0 d1 d2
        clear hf Hx H1
        go_wp2
        clear d0 d1 d2
        generalize wr = wz at *
        have HxD := Hx5
        clear Hx5
        go_loopw [65] (fun t65 wr => ∃ k : Nat, t65 = .int .i64 (k : Int) ∧ k ≤ P.stmts.length ∧ (∀ j s, j < k → P.stmts[j]? = some s → P.stmtErr s = 0) ∧ Ext W wr) (fun t65 _ => P.stmts.length - (intOf t65).toNat)
        case atStart => exact ⟨0, rfl, Nat.zero_le _, fun j s h => by omega, HxD.out⟩
        case round =>
          obtain ⟨k, rfl, hk, hne, hx⟩ := hrel
          have Hne := hid hne
          have Hx := hid hx
          clear hne hx HxD
          by_cases hlt : k < P.stmts.length
          · obtain ⟨y, s, av, cv, rfl, hfk, e0, e1, e2, e3, hI⟩ := (HP.out.ext (HW.out.trans Hx.out)).stmts.at hlt
            have Hfk := hid hfk
            obtain ⟨W3, hW3⟩ : ∃ W3, W3 = wr.alloc (.cells #[.string s.kind, .int .i64 s.x, .int .i64 s.y, .slice av s.args.length cv] 29) := ⟨_, rfl⟩
            have hx3 : Ext wr W3 := by rw [hW3]; exact (Ext.refl _).alloc _
            have Hx3 := hid (Hx.out.trans hx3)
            have HS := hid (pstmt_any a1 a2 (some y) c1 c2 c3 P s av cv W3 n0 ad (HE.out.ext (HW.out.trans Hx3.out)) (hI.old (hx3.old n0)))
            unfold pval sval at HS
            have HW3 := hid hW3
            have q0 := (HB.out.ext Hx3.out).av 0 rfl
            have q1 := (HB.out.ext Hx3.out).av 1 rfl
            have q2 := (HB.out.ext Hx3.out).av 2 rfl
            simp only [pcells, List.getElem_toArray, List.getElem_cons_zero, List.getElem_cons_succ] at q0 q1 q2
            rw [hW3] at q0 q1 q2
            clear hfk hI hW3 hx3
            go_wp2_with fail
            rw [← HW3.out]
            refine HS.out.mono ?_
            intro e w4 hx4
            obtain ⟨rfl, hx4⟩ := hx4
            have Hx4 := hid (Hx3.out.trans hx4)
            clear HS hx4 q0 q1 q2
            by_cases hz : P.stmtErr s = 0
            · rw [show errv (evOf ad) (P.stmtErr s) = .nilIface from by rw [hz]; rfl]
              have Hz := hid hz
              clear hz
              go_wp2
              go_roundw
              case rel => exact ⟨k + 1, by go_num, by omega, fun j t hj ht => by
                by_cases hjk : j = k
                · subst hjk
                  obtain rfl := Option.some.inj (Hfk.out.symm.trans ht)
                  exact Hz.out
                · exact Hne.out j t (by omega) ht, Hx4.out⟩
              case measure => simp [intOf]; omega
            · rw [show errv (evOf ad) (P.stmtErr s) = .iface 217 (.pointer (some (ad (P.stmtErr s)))) from by unfold errv; rw [if_neg hz]; rfl]
              have Hr : Hid (ErrIs ad P (w4.alloc (.cells #[.int .i64 (k : Int), .iface 217 (.pointer (some (ad (P.stmtErr s))))] 68)) (.iface 66 (.pointer (some ⟨w4.heap.size, 0, none⟩)))) := hid (.inr (.inr ⟨Hf.out, k, s, _, ⟨Hfk.out, hz, Hne.out⟩, rfl, Blk.new _ _ _⟩))
              have HxE := hid (HW.out.trans (Hx4.out.alloc (.cells #[.int .i64 (k : Int), .iface 217 (.pointer (some (ad (P.stmtErr s))))] 68)))
              clear hz
              go_wp2
              go_ret
              exact ⟨_, rfl, Hr.out, HxE.out⟩
          · obtain rfl : k = P.stmts.length := by omega
            have Hr := hid (show ErrIs ad P wr .nilIface from .inr (.inl ⟨Hf.out, Hne.out, rfl⟩))
            have HxE := hid (HW.out.trans Hx.out)
            go_wp2
            go_ret
            exact ⟨_, rfl, Hr.out, HxE.out⟩
      · rw [show errv (evOf ad) P.funsErr = .iface 217 (.pointer (some (ad P.funsErr))) from by unfold errv; rw [if_neg hf]; rfl]
        have Hf := hid (show ErrIs ad P w5 (.iface 217 (.pointer (some (ad P.funsErr)))) from .inl ⟨by rw [H1.out]; exact hf, by rw [H1.out]; rfl⟩)
        clear hf
        go_wp2
        go_ret
        exact ⟨_, rfl, Hf.out, HW.out.trans Hx5.out⟩
end Go.Proofs.YtnpnhbfbklibhaaGreatDoor
