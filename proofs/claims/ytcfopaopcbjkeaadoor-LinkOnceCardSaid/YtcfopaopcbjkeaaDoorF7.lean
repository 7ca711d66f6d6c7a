
/- The frame: a right one is written. -/
import Derived.Test.YtcfopaopcbjkeaaDoorFP
import Derived.Test.YtcfopaopcbjkeaaDoorOw2
import Derived.Test.YtcfopaopcbjkeaaDoorPar
namespace Go.Proofs.YtcfopaopcbjkeaaDoor
set_option linter.unusedSimpArgs false
set_option linter.unusedVariables false
open Go Go.RowKit

/-- A row of bytes of the call's own. -/
def BRow (w0 w : World) (v : Value) (l : List UInt8) : Prop := w.ownsRow w0.heap.size 5 1 v l.length (bcells l)
theorem bcells_len (l : List UInt8) : (bcells l).length = l.length := by simp [bcells]
theorem bcells_append (l m : List UInt8) : bcells (l ++ m) = bcells l ++ bcells m := by simp [bcells]
theorem bcells_one {l : List UInt8} : ∀ u ∈ bcells l, u.oneCell' = true := by
  intro u hu
  simp only [bcells, List.mem_map] at hu
  obtain ⟨b, _, rfl⟩ := hu
  rfl
theorem own_ext {w w' : World} {base : Nat} {e : TypeId} {size : Nat} {v : Value} {n : Nat} {xs : List Value} (h : w.ownsRow base e size v n xs) (x : Ext w w') : w'.ownsRow base e size v n xs := by
  obtain ⟨h1, h2⟩ := h
  refine ⟨h1, h2.imp id ?_⟩
  rintro ⟨g, cap, cur, rfl, hb, hg, h3⟩
  exact ⟨g, cap, cur, rfl, hb, x.get hg, h3⟩
theorem BRow.ext {w0 w w' : World} {v : Value} {l : List UInt8} (h : BRow w0 w v l) (x : Ext w w') : BRow w0 w' v l := own_ext h x
theorem BRow.made (w0 w : World) (h : w0.heap.size ≤ w.heap.size) (l : List UInt8) (hl : l.length ≤ 1000) : BRow w0 (w.alloc (.cells (bcells l).toArray 5)) (.slice (some ⟨w.heap.size, 0, none⟩) l.length l.length) l :=
  ⟨by simp [bcells], .inr ⟨w.heap.size, l.length, _, rfl, h, heap_alloc_new w _, Nat.le_refl _, by simp only [maxLen]; omega, by simp [bcells], by simp [bcells, List.take_of_length_le]⟩⟩

/-- The region's two makers. -/
def HighR (n : Nat) : Value → World → Prop := fun v w => ∃ g, v = .slice (some ⟨g, 0, none⟩) 4 4 ∧ Blk w g (bcells (high4 n)).toArray 5
/-- append of bytes that fill a block. -/
theorem does_bytes {ops : Array Oper} {o : Oper} {a : Act} {w0 w : World} {R : Value → World → Prop} (hx0 : Ext w0 w) (hg : o.guard = none) (s x : Operand)
    (ho : o.op = .call { callee := .builtin .append, args := #[s, x], argTypes := #[146, 146] })
    (v : Value) (l : List UInt8) (hs : a.eval s = v) (hown : BRow w0 w v l) (g c : Nat) (m : List UInt8) (hx : a.eval x = .slice (some ⟨g, 0, none⟩) m.length c) (hb : Blk w g (bcells m).toArray 5)
    (hl : l.length + m.length ≤ 1000000) (h : ∀ v' w', BRow w0 w' v' (l ++ m) → Ext w0 w' → R v' w') : does Tryd.prog ops o a w R := by
  obtain ⟨ti, hi, hz0, hz1, hz2⟩ := info_parts bytes_info
  refine does_append0 hx0 hg s x 146 ho 5 ti (.int .u8 0) 1 1 Tryd.underlying146 hi hz0 hz1 hz2 rfl (by omega) v l.length (bcells l) hs hown ⟨g, 0, none⟩ m.length c (bcells m) hx (by simp [bcells]) (fun j u hu => ?_) bcells_one (by simp only [maxLen]; omega) (by omega) (fun v' w' h1 h2 => h v' w' ?_ h2)
  · rw [show (⟨g, 0, none⟩ : Addr).add j = ⟨g, j, none⟩ from by by_cases h0 : j = 0 <;> simp [Addr.add, h0], hb.cell j]
    simpa using hu
  · unfold BRow
    rw [List.length_append, bcells_append]
    exact h1

theorem Blk.av {w : World} {b : Nat} {c : Array Value} {e : TypeId} (h : Blk w b c e) (i : Nat) {v : Value} (hv : c[i]? = some v) : w.cell? ⟨b, i, none⟩ = some v := (h.cell i).trans hv
theorem byte_val (k : Nat) (h : k < 256) : Value.int .u8 ((UInt8.ofNat k).toNat : Int) = Value.int .u8 (k : Int) := by
  rw [byte_cell]; congr 1; omega
theorem BRow.text {w0 w : World} {v : Value} {l : List UInt8} (h : BRow w0 w v l) (hl : l ≠ []) : ∃ g cap cur, v = .slice (some ⟨g, 0, none⟩) l.length cap ∧ Blk w g cur 5 ∧ ∀ j, j < l.length → cur[j]? = (bcells l)[j]? := by
  rcases h.2 with ⟨_, h0⟩ | ⟨g, cap, cur, hv, _, hg, hnc, _, hcs, htake⟩
  · exact absurd (List.length_eq_zero_iff.1 h0) hl
  · refine ⟨g, cap, cur, hv, hg, fun j hj => ?_⟩
    rw [← htake, List.getElem?_take, if_pos (by omega)]
    simp

/-- append of bytes in a sequence. -/
theorem wpList_bytes {ops : Array Oper} {Q : Exit → Act → World → Prop} {rest : List Oper} {o : Oper} {a : Act} {w0 w : World} (hx0 : Ext w0 w) (hg : o.guard = none) (s x : Operand)
    (ho : o.op = .call { callee := .builtin .append, args := #[s, x], argTypes := #[146, 146] })
    (v : Value) (l : List UInt8) (hs : a.eval s = v) (hown : BRow w0 w v l) (g n c : Nat) (m : List UInt8) (hn : n = m.length) (hx : a.eval x = .slice (some ⟨g, 0, none⟩) n c) (cs : Array Value) (hcs : cs = (bcells m).toArray) (hb : Blk w g cs 5)
    (hl : l.length + m.length ≤ 1000000) (h : ∀ v' w', BRow w0 w' v' (l ++ m) → Ext w0 w' → wpList Tryd.prog ops Q rest (a.put o.dst v') w') : wpList Tryd.prog ops Q (o :: rest) a w := by
  subst hcs hn
  obtain ⟨ti, hi, hz0, hz1, hz2⟩ := info_parts bytes_info
  obtain ⟨v', w', hr, h2, h3, h4⟩ := run_append_own (P := Tryd.prog) w w0.heap.size 146 o.type 5 ti (.int .u8 0) 1 1 Tryd.underlying146 hi hz0 hz1 hz2 rfl (by omega) v l.length (bcells l) hown ⟨g, 0, none⟩ m.length c (bcells m) (by simp [bcells]) (fun j u hu => by
    rw [show (⟨g, 0, none⟩ : Addr).add j = ⟨g, j, none⟩ from by by_cases h0 : j = 0 <;> simp [Addr.add, h0], hb.cell j]
    simpa using hu) bcells_one (by simp only [maxLen]; omega) (by omega) hx0.size
  refine wpList_plain hg fun K hK => ?_
  unfold Oper.wp
  rw [run_exec_append s x 146 ho hs hx hr]
  refine hK _ _ (h v' w' ?_ (grown_ext hx0 hown h3))
  unfold BRow
  rw [List.length_append, bcells_append]
  exact h2

theorem flat_take_succ (nums : List Int) (k : Nat) (h : k < nums.length) : ((nums.take (k + 1)).flatMap fun n => high4 n.toNat) = ((nums.take k).flatMap fun n => high4 n.toNat) ++ high4 (nums.getD k 0).toNat := by
  rw [List.take_succ_eq_append_getElem h, List.flatMap_append, List.getD_eq_getElem?_getD, List.getElem?_eq_getElem h]
  simp


end Go.Proofs.YtcfopaopcbjkeaaDoor
