
/- Rows of elements of several cells, of one's own: read, written in place, cut; numbers that lie where nobody writes. -/
import Derived.Test.YtcfopaopcbjkeaaDoorFB
import Derived.Test.YtcfopaopcbjkeaaDoorMP
namespace Go.Proofs.YtcfopaopcbjkeaaDoor
set_option linter.unusedSimpArgs false
set_option linter.unusedVariables false
open Go Go.RowKit

section
variable {w : World} {base : Nat} {e : TypeId} {size g n cap : Nat} {xs : List Value}
theorem own_blk (h : w.ownsRow base e size (.slice (some ⟨g, 0, none⟩) n cap) n xs) : ∃ cur, Blk w g cur e ∧ base ≤ g ∧ n ≤ cap ∧ cap ≤ maxLen ∧ cur.size = cap * size ∧ cur.toList.take (n * size) = xs := by
  rcases h.2 with ⟨h1, _⟩ | ⟨g', cap', cur, h1, h2, h3, h4, h5, h6, h7⟩
  · cases h1
  · simp only [Value.slice.injEq, Option.some.injEq, Addr.mk.injEq, and_true] at h1
    obtain ⟨rfl, _, rfl⟩ := h1
    exact ⟨cur, h3, h2, h4, h5, h6, h7⟩
theorem own_of_blk {cur : Array Value} (hb : Blk w g cur e) (h2 : base ≤ g) (h4 : n ≤ cap) (h5 : cap ≤ maxLen) (h6 : cur.size = cap * size) (h7 : cur.toList.take (n * size) = xs) : w.ownsRow base e size (.slice (some ⟨g, 0, none⟩) n cap) n xs := by
  refine ⟨?_, .inr ⟨g, cap, cur, rfl, h2, hb, h4, h5, h6, h7⟩⟩
  rw [← h7, List.length_take, Array.length_toList, h6]
  exact Nat.min_eq_left (Nat.mul_le_mul_right _ h4)
theorem own_get (h : w.ownsRow base e size (.slice (some ⟨g, 0, none⟩) n cap) n xs) (i : Nat) {u : Value} (hu : xs[i]? = some u) : w.cell? ⟨g, i, none⟩ = some u := by
  have := h.cells (g := g) rfl i u hu
  rwa [show (⟨g, 0, none⟩ : Addr).add i = ⟨g, i, none⟩ from by by_cases h0 : i = 0 <;> simp [Addr.add, h0]] at this
theorem own_free (h : w.ownsRow base e size (.slice (some ⟨g, 0, none⟩) n cap) n xs) (i : Nat) : w.frozen? ⟨g, i, none⟩ = false := by
  obtain ⟨cur, hb, _⟩ := own_blk h
  exact hb.free i
theorem own_set (h : w.ownsRow base e size (.slice (some ⟨g, 0, none⟩) n cap) n xs) (i : Nat) (hi : i < xs.length) (v : Value) : (w.setCell ⟨g, i, none⟩ v).ownsRow base e size (.slice (some ⟨g, 0, none⟩) n cap) n (xs.set i v) := by
  obtain ⟨cur, hb, h2, h4, h5, h6, h7⟩ := own_blk h
  refine own_of_blk (hb.set i v) h2 h4 h5 (by simpa using h6) ?_
  rw [Array.toList_setIfInBounds, List.take_set, h7]
theorem own_cut (h : w.ownsRow base e size (.slice (some ⟨g, 0, none⟩) n cap) n xs) (k : Nat) (hk : k ≤ n) : w.ownsRow base e size (.slice (some ⟨g, 0, none⟩) k cap) k (xs.take (k * size)) := by
  obtain ⟨cur, hb, h2, h4, h5, h6, h7⟩ := own_blk h
  refine own_of_blk hb h2 (by omega) h5 h6 ?_
  rw [← h7, List.take_take, Nat.min_eq_left (Nat.mul_le_mul_right _ hk)]
theorem row_form {v : Value} (h : w.ownsRow base e size v n xs) : ∃ a c, v = .slice a n c := by
  rcases h.2 with ⟨h2, h3⟩ | ⟨g, cap, cur, h2, _⟩
  · exact ⟨none, 0, by rw [h2, h3]⟩
  · exact ⟨_, _, h2⟩
theorem row_keep {w' : World} {v : Value} {X : Nat → Prop} (h : w.ownsRow base e size v n xs) (k : Keep X w w') (hx : ∀ i, v.ownBlock = some i → ¬ X i) : w'.ownsRow base e size v n xs := by
  obtain ⟨h1, h2⟩ := h
  refine ⟨h1, h2.imp id ?_⟩
  rintro ⟨g, cap, cur, rfl, hb, hg, h3⟩
  exact ⟨g, cap, cur, rfl, hb, Keep.get k hg (hx g rfl), h3⟩
theorem own_base {v : Value} {b2 : Nat} (h : w.ownsRow base e size v n xs) (hb : b2 ≤ base) : w.ownsRow b2 e size v n xs := by
  obtain ⟨h1, h2⟩ := h
  refine ⟨h1, h2.imp id ?_⟩
  rintro ⟨g, cap, cur, rfl, hg, h3⟩
  exact ⟨g, cap, cur, rfl, Nat.le_trans hb hg, h3⟩
theorem own_some {v : Value} (h : w.ownsRow base e size v n xs) (hn : 0 < n) : ∃ g cap, v = .slice (some ⟨g, 0, none⟩) n cap := by
  rcases h.2 with ⟨_, h1⟩ | ⟨g', cap', cur, h1, _⟩
  · omega
  · exact ⟨g', cap', h1⟩
theorem own_ty {v : Value} (h : w.ownsRow base e size v n xs) {k : Nat} (hk : v.ownBlock = some k) : ∃ c, Blk w k c e := by
  rcases h.2 with ⟨rfl, _⟩ | ⟨g, cap, cur, rfl, _, hg, _⟩
  · simp [Value.ownBlock] at hk
  · simp only [Value.ownBlock, Option.some.injEq] at hk
    subst hk
    exact ⟨cur, hg⟩
end
theorem Blk.inj {w : World} {b : Nat} {c c' : Array Value} {e e' : TypeId} (h : Blk w b c e) (h' : Blk w b c' e') : c = c' ∧ e = e' := by
  unfold Blk at h h'
  rw [h] at h'
  simp only [Option.some.injEq, Obj.cells.injEq, and_true] at h'
  exact h'
theorem Blk.ty_ne {w : World} {a b : Nat} {c c' : Array Value} {e e' : TypeId} (h : Blk w a c e) (h' : Blk w b c' e') (hne : e ≠ e') : a ≠ b := fun q => hne (by subst q; exact (h.inj h').2)

theorem fm_len {α : Type} (f : α → List Value) (m : Nat) (hf : ∀ x, (f x).length = m) (l : List α) : (l.flatMap f).length = l.length * m := by
  induction l with
  | nil => simp
  | cons x l ih => simp only [List.flatMap_cons, List.length_append, hf, ih, List.length_cons, Nat.add_mul]; omega
theorem fm_get {α : Type} (f : α → List Value) (m : Nat) (hf : ∀ x, (f x).length = m) : ∀ (l : List α) (i j : Nat) (x : α), l[i]? = some x → j < m → (l.flatMap f)[i * m + j]? = (f x)[j]?
  | [], i, j, x, h, _ => by simp at h
  | y :: l, 0, j, x, h, hj => by
    simp only [List.getElem?_cons_zero, Option.some.injEq] at h
    subst h
    rw [List.flatMap_cons, Nat.zero_mul, Nat.zero_add, List.getElem?_append_left (by rw [hf]; exact hj)]
  | y :: l, i + 1, j, x, h, hj => by
    have ih := fm_get f m hf l i j x (by simpa using h) hj
    rw [List.flatMap_cons, List.getElem?_append_right (by rw [hf, Nat.add_mul]; omega), hf, ← ih]
    congr 1
    rw [Nat.add_mul]; omega
theorem fm_take {α : Type} (f : α → List Value) (m : Nat) (hf : ∀ x, (f x).length = m) : ∀ (l : List α) (k : Nat), (l.flatMap f).take (k * m) = (l.take k).flatMap f
  | l, 0 => by simp
  | [], k + 1 => by simp
  | y :: l, k + 1 => by
    rw [List.take_succ_cons, List.flatMap_cons, List.flatMap_cons, List.take_append, hf, List.take_of_length_le (by rw [hf, Nat.add_mul]; omega), ← fm_take f m hf l k]
    congr 2
    rw [Nat.add_mul]; omega
theorem fm_drop {α : Type} (f : α → List Value) (m : Nat) (hf : ∀ x, (f x).length = m) : ∀ (l : List α) (k : Nat), (l.flatMap f).drop (k * m) = (l.drop k).flatMap f
  | l, 0 => by simp
  | [], k + 1 => by simp
  | y :: l, k + 1 => by
    rw [List.drop_succ_cons, List.flatMap_cons, List.drop_append, hf, List.drop_of_length_le (by rw [hf, Nat.add_mul]; omega), ← fm_drop f m hf l k, List.nil_append]
    congr 1
    rw [Nat.add_mul]; omega
/-- One element's cells, written anew all at once. -/
theorem fm_put {α : Type} (f : α → List Value) (m : Nat) (hf : ∀ x, (f x).length = m) (l : List α) (i : Nat) (y : α) (hi : i < l.length) : (l.flatMap f).take (i * m) ++ f y ++ (l.flatMap f).drop (i * m + m) = (l.set i y).flatMap f := by
  rw [fm_take f m hf, show i * m + m = (i + 1) * m by rw [Nat.add_mul]; omega, fm_drop f m hf, List.set_eq_take_append_cons_drop, if_pos hi]
  simp

/-- Block b holds numbers. -/
def IsInt (w : World) (b : Nat) : Prop := ∃ c z, w.heap[b]? = some (.cells c 3 z)
theorem IsInt.keep {X : Nat → Prop} {w w' : World} {b : Nat} (h : IsInt w b) (k : Keep X w w') (hx : ¬ X b) : IsInt w' b := by
  obtain ⟨c, z, h⟩ := h
  exact ⟨c, z, Keep.get k h hx⟩
theorem IsInt.not {w : World} {b : Nat} {c : Array Value} {e : TypeId} (h : Blk w b c e) (hne : e ≠ 3) : ¬ IsInt w b := by
  rintro ⟨c', z, h'⟩
  unfold Blk at h
  rw [h] at h'
  simp only [Option.some.injEq, Obj.cells.injEq] at h'
  exact hne h'.2.1

/-- A slice of numbers that lies where nobody writes: in what came in, or in a block of numbers that is not the one that is written. -/
structure NumsAt (w : World) (n0 : Nat) (t : Option Nat) (v : Value) (l : List Int) : Prop where
  form : ∃ a cap, v = .slice a l.length cap ∧ Ints w a l.length l ∧ ∀ x, a = some x → 0 < l.length → x.block < n0 ∨ (IsInt w x.block ∧ t ≠ some x.block)
/-- What may be written beside them. -/
def Wr (w : World) (n0 : Nat) (t : Option Nat) (X : Nat → Prop) : Prop := ∀ b, X b → b < w.heap.size → n0 ≤ b ∧ (IsInt w b → t = some b)
theorem Ints.keep {X : Nat → Prop} {w w' : World} {a : Option Addr} {len : Nat} {vs : List Int} (h : Ints w a len vs) (k : Keep X w w') (hx : ∀ x, a = some x → 0 < len → ¬ X x.block) : Ints w' a len vs :=
  ⟨h.ln, h.sm, fun y hy i hi => k.cellx (h.cl y hy i hi) (by rw [add_block]; exact hx y hy (by omega)), h.hi⟩
theorem Ints.blt {w : World} {a : Option Addr} {len : Nat} {vs : List Int} (h : Ints w a len vs) {x : Addr} (hx : a = some x) (hl : 0 < len) : x.block < w.heap.size := by
  have := cell_lt (h.cl x hx 0 hl)
  rwa [add_block] at this
section
variable {w w' : World} {n0 : Nat} {t : Option Nat} {v : Value} {l : List Int}
theorem NumsAt.keep {X : Nat → Prop} (h : NumsAt w n0 t v l) (k : Keep X w w') (hx : Wr w n0 t X) : NumsAt w' n0 t v l := by
  obtain ⟨a, cap, rfl, hi, hb⟩ := h
  have hne : ∀ x, a = some x → 0 < l.length → ¬ X x.block := fun x hx' hl hX => by
    obtain ⟨h1, h2⟩ := hx _ hX (hi.blt hx' hl)
    rcases hb x hx' hl with h3 | h3
    · omega
    · exact h3.2 (h2 h3.1)
  exact ⟨a, cap, rfl, hi.keep k hne, fun x hx' hl => (hb x hx' hl).imp id fun h => ⟨h.1.keep k (hne x hx' hl), h.2⟩⟩
theorem Wr.none {w : World} {n0 : Nat} {t : Option Nat} : Wr w n0 t fun _ => False := fun _ h => h.elim
theorem NumsAt.ext (h : NumsAt w n0 t v l) (x : Ext w w') : NumsAt w' n0 t v l := h.keep (x.keep fun _ => False) Wr.none
theorem NumsAt.turn (h : NumsAt w n0 t v l) {t' : Option Nat} (ht : ∀ b, t' = some b → t = some b ∨ w.heap.size ≤ b) : NumsAt w n0 t' v l := by
  obtain ⟨a, cap, rfl, hi, hb⟩ := h
  refine ⟨a, cap, rfl, hi, fun x hx hl => (hb x hx hl).imp id fun h => ⟨h.1, fun e => ?_⟩⟩
  rcases ht _ e with h1 | h1
  · exact h.2 h1
  · have := hi.blt hx hl; omega
theorem NumsAt.of_row {base : Nat} (h : IRow base w v l) (hi : ∀ i, l.getD i 0 ≤ 9223372036854775807) (ht : ∀ b, v.ownBlock = some b → t ≠ some b) : NumsAt w n0 t v l := by
  obtain ⟨a, cap, rfl⟩ := h.form
  refine ⟨a, cap, rfl, h.ints hi, fun x hx hl => .inr ⟨?_, ht _ (by subst hx; rfl)⟩⟩
  subst hx
  obtain ⟨c, hc⟩ := own_ty (show w.ownsRow base 3 1 _ l.length (icells l) from h) (k := x.block) rfl
  exact ⟨c, _, hc⟩
theorem NumsAt.hi (h : NumsAt w n0 t v l) : ∀ i, l.getD i 0 ≤ 9223372036854775807 := by
  obtain ⟨a, cap, rfl, hi, hb⟩ := h
  exact hi.hi
end

/-- A frame with the slice in which its numbers lie. -/
structure FV where
  f : Fr
  v : Value
def FV.cells (x : FV) : List Value := [.int .u8 (x.f.kind.toNat : Int), .int .i64 x.f.fr, .int .i64 x.f.to, .int .i64 x.f.seq, x.v]
def FV.val (x : FV) : Value := .agg #[.int .u8 (x.f.kind.toNat : Int), .int .i64 x.f.fr, .int .i64 x.f.to, .int .i64 x.f.seq, x.v]
def FV.At (w : World) (n0 : Nat) (t : Option Nat) (x : FV) : Prop := NumsAt w n0 t x.v x.f.nums
theorem FV.cells_len (x : FV) : x.cells.length = 5 := rfl
theorem FV.val_frv (f : Fr) (a : Option Addr) (cap : Nat) : (FV.mk f (.slice a f.nums.length cap)).val = frv f a cap := rfl
theorem FV.At.form {w : World} {n0 : Nat} {t : Option Nat} {x : FV} (h : x.At w n0 t) : ∃ a cap, x.val = frv x.f a cap ∧ x.v = .slice a x.f.nums.length cap ∧ Ints w a x.f.nums.length x.f.nums := by
  obtain ⟨a, cap, hv, hi, _⟩ := NumsAt.form h
  exact ⟨a, cap, by unfold FV.val frv; rw [hv], hv, hi⟩
/-- A row of frames of one's own. -/
structure FRow (w : World) (n0 : Nat) (t : Option Nat) (base : Nat) (e : TypeId) (v : Value) (fs : List FV) : Prop where
  row : w.ownsRow base e 5 v fs.length (fs.flatMap FV.cells)
  nums : ∀ x ∈ fs, x.At w n0 t
theorem FRow.nil (w : World) (n0 : Nat) (t : Option Nat) (base : Nat) (e : TypeId) : FRow w n0 t base e (.slice none 0 0) [] := ⟨World.ownsRow_nil _ _ _ _, fun _ h => by cases h⟩
theorem FRow.keep {w w' : World} {n0 : Nat} {t : Option Nat} {base : Nat} {e : TypeId} {v : Value} {fs : List FV} {X : Nat → Prop} (h : FRow w n0 t base e v fs) (k : Keep X w w') (hx : Wr w n0 t X) (hr : ∀ b, v.ownBlock = some b → ¬ X b) : FRow w' n0 t base e v fs :=
  ⟨row_keep h.row k hr, fun x hm => NumsAt.keep (h.nums x hm) k hx⟩
theorem FRow.ext {w w' : World} {n0 : Nat} {t : Option Nat} {base : Nat} {e : TypeId} {v : Value} {fs : List FV} (h : FRow w n0 t base e v fs) (x : Ext w w') : FRow w' n0 t base e v fs := h.keep (x.keep fun _ => False) Wr.none fun _ _ h => h
theorem FRow.form {w : World} {n0 : Nat} {t : Option Nat} {base : Nat} {e : TypeId} {v : Value} {fs : List FV} (h : FRow w n0 t base e v fs) : ∃ a cap, v = .slice a fs.length cap := row_form h.row
end Go.Proofs.YtcfopaopcbjkeaaDoor
