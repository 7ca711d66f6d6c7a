/- Texts of one proof, put together: Par F7 F8 UP U1 US SE U2 U3. -/
import Derived.Test.YtkabgmohgjljkaaDoorMB01
import Derived.Test.YtkabgmohgjljkaaDoorMB02
import Derived.Test.YtkabgmohgjljkaaDoorMB03
import Derived.Test.YtkabgmohgjljkaaDoorProg
import Derived.Shelf.Strings.SlTrimAscii
import Derived.Stop.LaidErr
import Derived.Stop.ErrReads
import Derived.Stop.Joined
import Derived.MakeChecks
import Derived.LaidSub

/- Operations that make memory and wait for none of each other: any order, one end. -/
namespace Go.Proofs.YtkabgmohgjljkaaDoor
set_option linter.unusedSimpArgs false
set_option linter.unusedVariables false
open Go Go.RowKit
section
variable {P : Program} {ops : Array Oper} {X : Nat → Prop} {w0 : World} {Q : Act → World → Prop} {L : List Nat}

def GenR (w : World) (R : Value → World → Prop) : Value → World → Prop := fun v w' => Ext w w' ∧ R v w'
theorem does_mono {o : Oper} {a : Act} {w : World} {R R' : Value → World → Prop} (h : does P ops o a w R) (hr : ∀ v w', R v w' → R' v w') : does P ops o a w R' := by
  unfold does at *
  split
  · rename_i hw
    rw [if_pos hw] at h
    generalize (execOp a.eval o).run P w = r at *
    cases r with
    | ok n w' =>
      cases n <;> simp only [Oper.doesUpon] at h ⊢
      case enter f args => exact h.mono fun e w'' ⟨v, he, hv⟩ => ⟨v, he, hr _ _ hv⟩
      all_goals exact hr _ _ h
    | halt x w' => simp only [Oper.doesUpon] at h
  · rename_i hw
    rw [if_neg hw] at h
    exact hr _ _ h
theorem CallR.gen {f : FuncId} {args : Array Value} {w : World} {R : Value → World → Prop} (h : Calls P f args w fun e w' => ∃ v, e = .returned v ∧ Ext w w' ∧ R v w') : Calls P f args w (CallR (GenR w R)) := h

/-- One alone. -/
theorem Flow.one {listed : Array Bool} {C : World → Prop} {a : Act} (i : Nat) (o : Oper) (ho : ops[i]? = some o) (hr : (Region.ready .any ops listed == [i]) = true) (R : Value → World → Prop)
    (hR : ∀ v w w', R v w → Ext w w' → R v w') (h : ∀ w, C w → Keep X w0 w → does P ops o a w (ActR X w0 R))
    (k : ∀ v, (∃ w, R v w) → Flow P ops w0 Q X L (listed.setIfInBounds i true) (R v) (a.put o.dst v)) : Flow P ops w0 Q X L listed C a :=
  Flow.acts [i] hr (by simp) (fun _ => o) (fun _ => R) (fun _ => hR) (fun j hj => by obtain rfl : j = i := by simpa using hj
                                                                                     exact ⟨ho, h⟩) (fun j hj => by obtain rfl : j = i := by simpa using hj
                                                                                                                    exact k)
/-- i beside j. -/
theorem Flow.par2 {listed : Array Bool} {C : World → Prop} {a : Act} (i j : Nat) (oi oj : Oper) (hoi : ops[i]? = some oi) (hoj : ops[j]? = some oj) (hij : i ≠ j)
    (hsi : ∀ cs b, oi.op ≠ .select cs b) (hsj : ∀ cs b, oj.op ≠ .select cs b) (hap : oi.apart ops oj = true)
    (r0 : (Region.ready .any ops listed == [i, j]) = true) (r1 : (Region.ready .any ops (listed.setIfInBounds i true) == [j]) = true) (r2 : (Region.ready .any ops (listed.setIfInBounds j true) == [i]) = true)
    (A B : Value → World → Prop) (hC : ∀ w w', C w → Ext w w' → C w') (hA : ∀ v w w', A v w → Ext w w' → A v w') (hB : ∀ v w w', B v w → Ext w w' → B v w')
    (hi : ∀ w, C w → Keep X w0 w → does P ops oi a w (GenR w A)) (hj : ∀ w, C w → Keep X w0 w → does P ops oj a w (GenR w B))
    (k : ∀ vi vj, (∃ w, A vi w) → (∃ w, B vj w) → Flow P ops w0 Q X L ((listed.setIfInBounds i true).setIfInBounds j true) (fun w => C w ∧ A vi w ∧ B vj w) ((a.put oi.dst vi).put oj.dst vj)) :
    Flow P ops w0 Q X L listed C a := by
  have hs := Oper.apart_spec hap
  refine Flow.acts [i, j] r0 (by simp) (fun n => if n = i then oi else oj) (fun n v w => C w ∧ if n = i then A v w else B v w) ?_ ?_ ?_
  · intro n v w w' ⟨h1, h2⟩ hx
    refine ⟨hC _ _ h1 hx, ?_⟩
    split
    · rename_i e; rw [if_pos e] at h2; exact hA _ _ _ h2 hx
    · rename_i e; rw [if_neg e] at h2; exact hB _ _ _ h2 hx
  · intro n hn
    rcases (by simpa using hn : n = i ∨ n = j) with rfl | rfl
    · refine ⟨by simpa using hoi, fun w h1 h2 => ?_⟩
      simp only [if_true]
      exact does_mono (hi w h1 h2) fun v w' ⟨hx, hv⟩ => ⟨h2.ext_r hx, hC _ _ h1 hx, by simpa using hv⟩
    · refine ⟨by simpa [Ne.symm hij] using hoj, fun w h1 h2 => ?_⟩
      simp only [Ne.symm hij, if_false]
      exact does_mono (hj w h1 h2) fun v w' ⟨hx, hv⟩ => ⟨h2.ext_r hx, hC _ _ h1 hx, by simpa [Ne.symm hij] using hv⟩
  · intro n hn v hv
    rcases (by simpa using hn : n = i ∨ n = j) with rfl | rfl
    · simp only [if_true] at hv ⊢
      obtain ⟨w1, _, hv1⟩ := hv
      refine Flow.acts [j] r1 (by simp) (fun _ => oj) (fun _ u w => C w ∧ A v w ∧ B u w) (fun _ u w w' ⟨h1, h2, h3⟩ hx => ⟨hC _ _ h1 hx, hA _ _ _ h2 hx, hB _ _ _ h3 hx⟩) ?_ ?_
      · intro m hm
        obtain rfl : m = j := by simpa using hm
        refine ⟨hoj, fun w ⟨h1, h2⟩ h3 => ?_⟩
        rw [does_put hsj hs.1]
        exact does_mono (hj w h1 h3) fun u w' ⟨hx, hu⟩ => ⟨h3.ext_r hx, hC _ _ h1 hx, hA _ _ _ h2 hx, hu⟩
      · intro m hm u ⟨w2, _, _, hu⟩
        obtain rfl : m = j := by simpa using hm
        exact k v u ⟨w1, hv1⟩ ⟨w2, hu⟩
    · simp only [Ne.symm hij, if_false] at hv ⊢
      obtain ⟨w1, _, hv1⟩ := hv
      refine Flow.acts [i] r2 (by simp) (fun _ => oi) (fun _ u w => C w ∧ A u w ∧ B v w) (fun _ u w w' ⟨h1, h2, h3⟩ hx => ⟨hC _ _ h1 hx, hA _ _ _ h2 hx, hB _ _ _ h3 hx⟩) ?_ ?_
      · intro m hm
        obtain rfl : m = i := by simpa using hm
        refine ⟨hoi, fun w ⟨h1, h2⟩ h3 => ?_⟩
        rw [does_put hsi hs.2.2]
        exact does_mono (hi w h1 h3) fun u w' ⟨hx, hu⟩ => ⟨h3.ext_r hx, hC _ _ h1 hx, hu, hB _ _ _ h2 hx⟩
      · intro m hm u ⟨w2, _, hu, _⟩
        obtain rfl : m = i := by simpa using hm
        have := k u v ⟨w2, hu⟩ ⟨w1, hv1⟩
        rw [Array.setIfInBounds_comm _ _ hij, Act.put_comm a u v hs.2.1] at this
        exact this

/-- i beside j and, behind it, k. -/
theorem Flow.par3 {listed : Array Bool} {C : World → Prop} {a : Act} (i j m : Nat) (oi oj om : Oper) (hoi : ops[i]? = some oi) (hoj : ops[j]? = some oj) (hom : ops[m]? = some om) (hij : i ≠ j) (him : i ≠ m)
    (hsi : ∀ cs b, oi.op ≠ .select cs b) (hsj : ∀ cs b, oj.op ≠ .select cs b) (hsm : ∀ cs b, om.op ≠ .select cs b) (hap : oi.apart ops oj = true) (hap2 : oi.apart ops om = true)
    (r0 : (Region.ready .any ops listed == [i, j]) = true) (r1 : (Region.ready .any ops (listed.setIfInBounds i true) == [j]) = true) (r2 : (Region.ready .any ops ((listed.setIfInBounds i true).setIfInBounds j true) == [m]) = true)
    (r3 : (Region.ready .any ops (listed.setIfInBounds j true) == [i, m]) = true) (r4 : (Region.ready .any ops ((listed.setIfInBounds j true).setIfInBounds m true) == [i]) = true) 
    (A B : Value → World → Prop) (D : Value → Value → World → Prop) (hC : ∀ w w', C w → Ext w w' → C w') (hA : ∀ v w w', A v w → Ext w w' → A v w') (hB : ∀ v w w', B v w → Ext w w' → B v w') (hD : ∀ u v w w', D u v w → Ext w w' → D u v w')
    (hi : ∀ w, C w → Keep X w0 w → does P ops oi a w (GenR w A)) (hj : ∀ w, C w → Keep X w0 w → does P ops oj a w (GenR w B))
    (hm : ∀ vj w, C w → B vj w → Keep X w0 w → does P ops om (a.put oj.dst vj) w (GenR w (D vj)))
    (k : ∀ vi vj vm, (∃ w, A vi w) → (∃ w, B vj w) → (∃ w, D vj vm w) → Flow P ops w0 Q X L (((listed.setIfInBounds i true).setIfInBounds j true).setIfInBounds m true) (fun w => C w ∧ A vi w ∧ B vj w ∧ D vj vm w) (((a.put oi.dst vi).put oj.dst vj).put om.dst vm)) :
    Flow P ops w0 Q X L listed C a := by
  have hs := Oper.apart_spec hap
  have hs2 := Oper.apart_spec hap2
  -- both done, then m
  have both : ∀ vi vj, (∃ w, A vi w) → (∃ w, B vj w) → Flow P ops w0 Q X L ((listed.setIfInBounds i true).setIfInBounds j true) (fun w => C w ∧ A vi w ∧ B vj w) ((a.put oi.dst vi).put oj.dst vj) := by
    intro vi vj h1 h2
    refine Flow.acts [m] r2 (by simp) (fun _ => om) (fun _ u w => C w ∧ A vi w ∧ B vj w ∧ D vj u w) (fun _ u w w' ⟨h1, h2, h3, h4⟩ hx => ⟨hC _ _ h1 hx, hA _ _ _ h2 hx, hB _ _ _ h3 hx, hD _ _ _ _ h4 hx⟩) ?_ ?_
    · intro n hn
      obtain rfl : n = m := by simpa using hn
      refine ⟨hom, fun w ⟨h1, h2, h3⟩ h4 => ?_⟩
      rw [Act.put_comm a vi vj hs.2.1, does_put hsm hs2.1]
      exact does_mono (hm vj w h1 h3 h4) fun u w' ⟨hx, hu⟩ => ⟨h4.ext_r hx, hC _ _ h1 hx, hA _ _ _ h2 hx, hB _ _ _ h3 hx, hu⟩
    · intro n hn u ⟨w2, _, _, _, hu⟩
      obtain rfl : n = m := by simpa using hn
      exact k vi vj u h1 h2 ⟨w2, hu⟩
  refine Flow.acts [i, j] r0 (by simp) (fun n => if n = i then oi else oj) (fun n v w => C w ∧ if n = i then A v w else B v w) ?_ ?_ ?_
  · intro n v w w' ⟨h1, h2⟩ hx
    refine ⟨hC _ _ h1 hx, ?_⟩
    split
    · rename_i e; rw [if_pos e] at h2; exact hA _ _ _ h2 hx
    · rename_i e; rw [if_neg e] at h2; exact hB _ _ _ h2 hx
  · intro n hn
    rcases (by simpa using hn : n = i ∨ n = j) with rfl | rfl
    · refine ⟨by simpa using hoi, fun w h1 h2 => ?_⟩
      simp only [if_true]
      exact does_mono (hi w h1 h2) fun v w' ⟨hx, hv⟩ => ⟨h2.ext_r hx, hC _ _ h1 hx, by simpa using hv⟩
    · refine ⟨by simpa [Ne.symm hij] using hoj, fun w h1 h2 => ?_⟩
      simp only [Ne.symm hij, if_false]
      exact does_mono (hj w h1 h2) fun v w' ⟨hx, hv⟩ => ⟨h2.ext_r hx, hC _ _ h1 hx, by simpa [Ne.symm hij] using hv⟩
  · intro n hn v hv
    rcases (by simpa using hn : n = i ∨ n = j) with rfl | rfl
    · simp only [if_true] at hv ⊢
      obtain ⟨w1, _, hv1⟩ := hv
      refine Flow.acts [j] r1 (by simp) (fun _ => oj) (fun _ u w => C w ∧ A v w ∧ B u w) (fun _ u w w' ⟨h1, h2, h3⟩ hx => ⟨hC _ _ h1 hx, hA _ _ _ h2 hx, hB _ _ _ h3 hx⟩) ?_ ?_
      · intro m hm
        obtain rfl : m = j := by simpa using hm
        refine ⟨hoj, fun w ⟨h1, h2⟩ h3 => ?_⟩
        rw [does_put hsj hs.1]
        exact does_mono (hj w h1 h3) fun u w' ⟨hx, hu⟩ => ⟨h3.ext_r hx, hC _ _ h1 hx, hA _ _ _ h2 hx, hu⟩
      · intro m hm u ⟨w2, _, _, hu⟩
        obtain rfl : m = j := by simpa using hm
        exact both v u ⟨w1, hv1⟩ ⟨w2, hu⟩
    · simp only [Ne.symm hij, if_false] at hv ⊢
      obtain ⟨w1, _, hv1⟩ := hv
      refine Flow.acts [i, m] r3 (by simp) (fun q => if q = i then oi else om) (fun q u w => C w ∧ B v w ∧ if q = i then A u w else D v u w) ?_ ?_ ?_
      · intro q u w w' ⟨h1, h2, h3⟩ hx
        refine ⟨hC _ _ h1 hx, hB _ _ _ h2 hx, ?_⟩
        split
        · rename_i e; rw [if_pos e] at h3; exact hA _ _ _ h3 hx
        · rename_i e; rw [if_neg e] at h3; exact hD _ _ _ _ h3 hx
      · intro q hq
        rcases (by simpa using hq : q = i ∨ q = m) with rfl | rfl
        · refine ⟨by simpa using hoi, fun w ⟨h1, h2⟩ h3 => ?_⟩
          simp only [if_true]
          rw [does_put hsi hs.2.2]
          exact does_mono (hi w h1 h3) fun u w' ⟨hx, hu⟩ => ⟨h3.ext_r hx, hC _ _ h1 hx, hB _ _ _ h2 hx, by simpa using hu⟩
        · refine ⟨by simpa [Ne.symm him] using hom, fun w ⟨h1, h2⟩ h3 => ?_⟩
          simp only [Ne.symm him, if_false]
          exact does_mono (hm v w h1 h2 h3) fun u w' ⟨hx, hu⟩ => ⟨h3.ext_r hx, hC _ _ h1 hx, hB _ _ _ h2 hx, by simpa [Ne.symm him] using hu⟩
      · intro q hq u hu
        rcases (by simpa using hq : q = i ∨ q = m) with rfl | rfl
        · simp only [if_true] at hu ⊢
          obtain ⟨w2, _, _, hu2⟩ := hu
          have := both u v ⟨w2, hu2⟩ ⟨w1, hv1⟩
          rw [Array.setIfInBounds_comm _ _ hij, Act.put_comm a u v hs.2.1] at this
          exact Flow.mono this fun w ⟨h1, h2, h3⟩ => ⟨h1, h3, h2⟩
        · simp only [Ne.symm him, if_false] at hu ⊢
          obtain ⟨w2, _, _, hu2⟩ := hu
          refine Flow.acts [i] r4 (by simp) (fun _ => oi) (fun _ x w => C w ∧ A x w ∧ B v w ∧ D v u w) (fun _ x w w' ⟨h1, h2, h3, h4⟩ hx => ⟨hC _ _ h1 hx, hA _ _ _ h2 hx, hB _ _ _ h3 hx, hD _ _ _ _ h4 hx⟩) ?_ ?_
          · intro q hq
            obtain rfl : q = i := by simpa using hq
            refine ⟨hoi, fun w ⟨h1, h2, h3⟩ h4 => ?_⟩
            rw [does_put hsi hs2.2.2, does_put hsi hs.2.2]
            exact does_mono (hi w h1 h4) fun x w' ⟨hx, hv⟩ => ⟨h4.ext_r hx, hC _ _ h1 hx, hv, hB _ _ _ h2 hx, hD _ _ _ _ h3 hx⟩
          · intro q hq x ⟨w3, _, hx, _, _⟩
            obtain rfl : q = i := by simpa using hq
            have := k x v u ⟨w3, hx⟩ ⟨w1, hv1⟩ ⟨w2, hu2⟩
            rw [Array.setIfInBounds_comm _ _ hij, Array.setIfInBounds_comm _ _ him, Act.put_comm a x v hs.2.1, Act.put_comm _ x u hs2.2.1] at this
            exact this
end
end Go.Proofs.YtkabgmohgjljkaaDoor


/- The frame: a right one is written. -/
namespace Go.Proofs.YtkabgmohgjljkaaDoor
set_option linter.unusedSimpArgs false
set_option linter.unusedVariables false
open Go Go.RowKit

/-- A row of bytes of the call's own. -/
def BRow (w0 w : World) (v : Value) (l : List UInt8) : Prop := w.ownsRow w0.heap.size 5 1 v l.length (bcells l)
theorem bcells_len (l : List UInt8) : (bcells l).length = l.length := by simp [bcells]
theorem bcells_append (l m : List UInt8) : bcells (l ++ m) = bcells l ++ bcells m := by simp [bcells]
theorem bcells_one {l : List UInt8} : ∀ u ∈ bcells l, u.oneCell' = true := by
  intro u hu
  simp only [bcells, List.mem_map] at hu
  obtain ⟨b, _, rfl⟩ := hu
  rfl
theorem own_ext {w w' : World} {base : Nat} {e : TypeId} {size : Nat} {v : Value} {n : Nat} {xs : List Value} (h : w.ownsRow base e size v n xs) (x : Ext w w') : w'.ownsRow base e size v n xs := by
  obtain ⟨h1, h2⟩ := h
  refine ⟨h1, h2.imp id ?_⟩
  rintro ⟨g, cap, cur, rfl, hb, hg, h3⟩
  exact ⟨g, cap, cur, rfl, hb, x.get hg, h3⟩
theorem BRow.ext {w0 w w' : World} {v : Value} {l : List UInt8} (h : BRow w0 w v l) (x : Ext w w') : BRow w0 w' v l := own_ext h x
theorem BRow.made (w0 w : World) (h : w0.heap.size ≤ w.heap.size) (l : List UInt8) (hl : l.length ≤ 1000) : BRow w0 (w.alloc (.cells (bcells l).toArray 5)) (.slice (some ⟨w.heap.size, 0, none⟩) l.length l.length) l :=
  ⟨by simp [bcells], .inr ⟨w.heap.size, l.length, _, rfl, h, heap_alloc_new w _, Nat.le_refl _, by simp only [maxLen]; omega, by simp [bcells], by simp [bcells, List.take_of_length_le]⟩⟩

/-- The region's two makers. -/
def HighR (n : Nat) : Value → World → Prop := fun v w => ∃ g, v = .slice (some ⟨g, 0, none⟩) 4 4 ∧ Blk w g (bcells (high4 n)).toArray 5
/-- append of bytes that fill a block. -/
theorem does_bytes {ops : Array Oper} {o : Oper} {a : Act} {w0 w : World} {R : Value → World → Prop} (hx0 : Ext w0 w) (hg : o.guard = none) (s x : Operand)
    (ho : o.op = .call { callee := .builtin .append, args := #[s, x], argTypes := #[126, 126] })
    (v : Value) (l : List UInt8) (hs : a.eval s = v) (hown : BRow w0 w v l) (g c : Nat) (m : List UInt8) (hx : a.eval x = .slice (some ⟨g, 0, none⟩) m.length c) (hb : Blk w g (bcells m).toArray 5)
    (hl : l.length + m.length ≤ 1000000) (h : ∀ v' w', BRow w0 w' v' (l ++ m) → Ext w0 w' → R v' w') : does Tryd.prog ops o a w R := by
  obtain ⟨ti, hi, hz0, hz1, hz2⟩ := info_parts bytes_info
  refine does_append0 hx0 hg s x 126 ho 5 ti (.int .u8 0) 1 1 Tryd.underlying126 hi hz0 hz1 hz2 rfl (by omega) v l.length (bcells l) hs hown ⟨g, 0, none⟩ m.length c (bcells m) hx (by simp [bcells]) (fun j u hu => ?_) bcells_one (by simp only [maxLen]; omega) (by omega) (fun v' w' h1 h2 => h v' w' ?_ h2)
  · rw [show (⟨g, 0, none⟩ : Addr).add j = ⟨g, j, none⟩ from by by_cases h0 : j = 0 <;> simp [Addr.add, h0], hb.cell j]
    simpa using hu
  · unfold BRow
    rw [List.length_append, bcells_append]
    exact h1

theorem Blk.av {w : World} {b : Nat} {c : Array Value} {e : TypeId} (h : Blk w b c e) (i : Nat) {v : Value} (hv : c[i]? = some v) : w.cell? ⟨b, i, none⟩ = some v := (h.cell i).trans hv
theorem byte_val (k : Nat) (h : k < 256) : Value.int .u8 ((UInt8.ofNat k).toNat : Int) = Value.int .u8 (k : Int) := by
  rw [byte_cell]; congr 1; omega
theorem BRow.text {w0 w : World} {v : Value} {l : List UInt8} (h : BRow w0 w v l) (hl : l ≠ []) : ∃ g cap cur, v = .slice (some ⟨g, 0, none⟩) l.length cap ∧ Blk w g cur 5 ∧ ∀ j, j < l.length → cur[j]? = (bcells l)[j]? := by
  rcases h.2 with ⟨_, h0⟩ | ⟨g, cap, cur, hv, _, hg, hnc, _, hcs, htake⟩
  · exact absurd (List.length_eq_zero_iff.1 h0) hl
  · refine ⟨g, cap, cur, hv, hg, fun j hj => ?_⟩
    rw [← htake, List.getElem?_take, if_pos (by omega)]
    simp

/-- append of bytes in a sequence. -/
theorem wpList_bytes {ops : Array Oper} {Q : Exit → Act → World → Prop} {rest : List Oper} {o : Oper} {a : Act} {w0 w : World} (hx0 : Ext w0 w) (hg : o.guard = none) (s x : Operand)
    (ho : o.op = .call { callee := .builtin .append, args := #[s, x], argTypes := #[126, 126] })
    (v : Value) (l : List UInt8) (hs : a.eval s = v) (hown : BRow w0 w v l) (g n c : Nat) (m : List UInt8) (hn : n = m.length) (hx : a.eval x = .slice (some ⟨g, 0, none⟩) n c) (cs : Array Value) (hcs : cs = (bcells m).toArray) (hb : Blk w g cs 5)
    (hl : l.length + m.length ≤ 1000000) (h : ∀ v' w', BRow w0 w' v' (l ++ m) → Ext w0 w' → wpList Tryd.prog ops Q rest (a.put o.dst v') w') : wpList Tryd.prog ops Q (o :: rest) a w := by
  subst hcs hn
  obtain ⟨ti, hi, hz0, hz1, hz2⟩ := info_parts bytes_info
  obtain ⟨v', w', hr, h2, h3, h4⟩ := run_append_own (P := Tryd.prog) w w0.heap.size 126 o.type 5 ti (.int .u8 0) 1 1 Tryd.underlying126 hi hz0 hz1 hz2 rfl (by omega) v l.length (bcells l) hown ⟨g, 0, none⟩ m.length c (bcells m) (by simp [bcells]) (fun j u hu => by
    rw [show (⟨g, 0, none⟩ : Addr).add j = ⟨g, j, none⟩ from by by_cases h0 : j = 0 <;> simp [Addr.add, h0], hb.cell j]
    simpa using hu) bcells_one (by simp only [maxLen]; omega) (by omega) hx0.size
  refine wpList_plain hg fun K hK => ?_
  unfold Oper.wp
  rw [run_exec_append s x 126 ho hs hx hr]
  refine hK _ _ (h v' w' ?_ (grown_ext hx0 hown h3))
  unfold BRow
  rw [List.length_append, bcells_append]
  exact h2

theorem flat_take_succ (nums : List Int) (k : Nat) (h : k < nums.length) : ((nums.take (k + 1)).flatMap fun n => high4 n.toNat) = ((nums.take k).flatMap fun n => high4 n.toNat) ++ high4 (nums.getD k 0).toNat := by
  rw [List.take_succ_eq_append_getElem h, List.flatMap_append, List.getD_eq_getElem?_getD, List.getElem?_eq_getElem h]
  simp


end Go.Proofs.YtkabgmohgjljkaaDoor


/- The frame: it is read. -/
namespace Go.Proofs.YtkabgmohgjljkaaDoor
set_option linter.unusedSimpArgs false
set_option linter.unusedVariables false
open Go Go.RowKit

def fr0 : Value := .agg #[.int .u8 0, .int .i64 0, .int .i64 0, .int .i64 0, .slice none 0 0]

def frz : Array Value := #[.int .u8 0, .int .i64 0, .int .i64 0, .int .i64 0, .slice none 0 0]
theorem Keep.cellx {X : Nat → Prop} {w w' : World} (h : Keep X w w') {x : Addr} {v : Value} (hc : w.cell? x = some v) (hx : ¬ X x.block) : w'.cell? x = some v := by
  have hb := h.block x.block (cell_lt hc) hx
  unfold World.cell? at *
  rw [hb]
  exact hc
theorem store5 {w : World} {n : Nat} {a0 a1 a2 a3 a4 b0 b1 b2 b3 b4 : Value} {e : TypeId} (h : Blk w n #[a0, a1, a2, a3, a4] e) :
    Blk (((((w.setCell ⟨n, 0, none⟩ b0).setCell ⟨n, 1, none⟩ b1).setCell ⟨n, 2, none⟩ b2).setCell ⟨n, 3, none⟩ b3).setCell ⟨n, 4, none⟩ b4) n #[b0, b1, b2, b3, b4] e := by
  have := ((((h.set 0 b0).set 1 b1).set 2 b2).set 3 b3).set 4 b4
  simpa using this
theorem store5_keep (w : World) (n : Nat) (b0 b1 b2 b3 b4 : Value) : Keep (fun b => b = n) w (((((w.setCell ⟨n, 0, none⟩ b0).setCell ⟨n, 1, none⟩ b1).setCell ⟨n, 2, none⟩ b2).setCell ⟨n, 3, none⟩ b3).setCell ⟨n, 4, none⟩ b4) :=
  have k : ∀ (u : World) i v, Keep (fun b => b = n) w u → Keep (fun b => b = n) w (u.setCell ⟨n, i, none⟩ v) := fun _ _ v h => h.set rfl v
  k _ _ _ (k _ _ _ (k _ _ _ (k _ _ _ (k _ _ _ (Keep.refl _ w)))))

theorem Keep.tr {X Y : Nat → Prop} {a b c : World} (h : Keep X a b) (k : Keep Y b c) (hx : ∀ n, Y n → a.heap.size ≤ n ∨ X n) : Keep X a c :=
  ⟨k.os.trans h.os, k.tape.trans h.tape, k.output.trans h.output, Nat.le_trans h.size k.size, fun i hi hX => (k.block i (Nat.lt_of_lt_of_le hi h.size) fun hY => (hx i hY).elim (fun h => by omega) hX).trans (h.block i hi hX)⟩
theorem Errs.at_ {w : World} {ev : Nat → Value} (h : Errs w ev) {W : World} (x : Ext w W) (i c : Nat) (hc : w.cell? ⟨i, 0, none⟩ = some (ev c)) : ∀ w1, Keep (fun b => b = w.heap.size) W w1 → w1.cell? ⟨i, 0, none⟩ = some (ev c) :=
  fun _ hk => hk.cellx (x.cellx hc) (fun e => by have := cell_lt hc; simp only at e this; omega)


end Go.Proofs.YtkabgmohgjljkaaDoor


/- Programs: what they are, plainly, and how they lie in memory. -/
namespace Go.Proofs.YtkabgmohgjljkaaDoor
set_option linter.unusedSimpArgs false
set_option linter.unusedVariables false
open Go Go.RowKit

theorem Keep.get? {X : Nat → Prop} {w w' : World} (h : Keep X w w') {x : Addr} {v : Value} (hc : w.cell? x = some v) (hx : ¬ X x.block) : w'.cell? x = some v := h.cellx hc hx

structure PF where
  name : ByteArray
  params : List Int
  ret : Int
structure PS where
  kind : ByteArray
  x : Int
  y : Int
  args : List Int
structure PP where
  vars : List ByteArray
  funs : List PF
  stmts : List PS

/-- A slice of so many elements, wherever it lies below n0; what its elements are (by number and address). -/
structure ElR (n0 : Nat) (v : Value) (n : Nat) (E : Nat → Addr → Prop) : Prop where
  form : ∃ a cap, v = .slice a n cap ∧ n ≤ cap ∧ (cap : Int) ≤ 9223372036854775807 ∧ (0 < n → ∃ y, a = some y) ∧ ∀ y, a = some y → 0 < n → y.block < n0 ∧ ∀ i, i < n → E i y
theorem ElR.mono {n0 n1 n : Nat} {v : Value} {E F : Nat → Addr → Prop} (h : ElR n0 v n E) (hn : n0 ≤ n1) (hE : ∀ i y, i < n → y.block < n0 → E i y → F i y) : ElR n1 v n F := by
  obtain ⟨a, cap, h1, h2, h3, h4, h5⟩ := h
  refine ⟨a, cap, h1, h2, h3, h4, fun y hy h0 => ⟨Nat.lt_of_lt_of_le (h5 y hy h0).1 hn, fun i hi => hE i y hi (h5 y hy h0).1 ((h5 y hy h0).2 i hi)⟩⟩

/-- Strings. -/
def StrsR (w : World) (n0 : Nat) (v : Value) (l : List ByteArray) : Prop := ElR n0 v l.length fun i y => ∀ s, l[i]? = some s → w.cell? (y.add i) = some (.string s)
/-- Numbers. -/
def IntsR (w : World) (n0 : Nat) (v : Value) (l : List Int) : Prop := ElR n0 v l.length fun i y => ∀ s, l[i]? = some s → w.cell? (y.add i) = some (.int .i64 s)
def FunsR (w : World) (n0 : Nat) (v : Value) (l : List PF) : Prop := ElR n0 v l.length fun i y => ∀ f, l[i]? = some f → ∃ pv, w.cell? (y.add (i * 3)) = some (.string f.name) ∧ w.cell? ((y.add (i * 3)).add 1) = some pv ∧ w.cell? ((y.add (i * 3)).add 2) = some (.int .i64 f.ret) ∧ IntsR w n0 pv f.params
def StmtsR (w : World) (n0 : Nat) (v : Value) (l : List PS) : Prop := ElR n0 v l.length fun i y => ∀ s, l[i]? = some s → ∃ av, w.cell? (y.add (i * 4)) = some (.string s.kind) ∧ w.cell? ((y.add (i * 4)).add 1) = some (.int .i64 s.x) ∧ w.cell? ((y.add (i * 4)).add 2) = some (.int .i64 s.y) ∧ w.cell? ((y.add (i * 4)).add 3) = some av ∧ IntsR w n0 av s.args
/-- A program. -/
structure ProgR (w : World) (n0 : Nat) (v1 v2 v3 : Value) (P : PP) : Prop where
  vars : StrsR w n0 v1 P.vars
  funs : FunsR w n0 v2 P.funs
  stmts : StmtsR w n0 v3 P.stmts

/-- Nothing below n0 is written. -/
def Old (n0 : Nat) (w w' : World) : Prop := Keep (fun b => n0 ≤ b) w w'
theorem Old.refl (n0 : Nat) (w : World) : Old n0 w w := Keep.refl _ _
theorem Old.trans {n0 : Nat} {a b c : World} (h : Old n0 a b) (k : Old n0 b c) : Old n0 a c := Keep.trans h k
theorem Ext.old {w w' : World} (h : Ext w w') (n0 : Nat) : Old n0 w w' := h.keep _
theorem Old.cellx {n0 : Nat} {w w' : World} (h : Old n0 w w') {x : Addr} {v : Value} (hc : w.cell? x = some v) (hx : x.block < n0) : w'.cell? x = some v := Keep.cellx h hc (by omega)
theorem StrsR.old {w w' : World} {n0 : Nat} {v : Value} {l : List ByteArray} (h : StrsR w n0 v l) (k : Old n0 w w') : StrsR w' n0 v l :=
  ElR.mono h (Nat.le_refl _) fun i y _ hy hE s hs => k.cellx (hE s hs) (by rw [add_block]; exact hy)
theorem IntsR.old {w w' : World} {n0 : Nat} {v : Value} {l : List Int} (h : IntsR w n0 v l) (k : Old n0 w w') : IntsR w' n0 v l :=
  ElR.mono h (Nat.le_refl _) fun i y _ hy hE s hs => k.cellx (hE s hs) (by rw [add_block]; exact hy)
theorem FunsR.old {w w' : World} {n0 : Nat} {v : Value} {l : List PF} (h : FunsR w n0 v l) (k : Old n0 w w') : FunsR w' n0 v l :=
  ElR.mono h (Nat.le_refl _) fun i y _ hy hE s hs => by
    obtain ⟨pv, h1, h2, h3, h4⟩ := hE s hs
    exact ⟨pv, k.cellx h1 (by rw [add_block]; exact hy), k.cellx h2 (by rw [add_block, add_block]; exact hy), k.cellx h3 (by rw [add_block, add_block]; exact hy), h4.old k⟩
theorem StmtsR.old {w w' : World} {n0 : Nat} {v : Value} {l : List PS} (h : StmtsR w n0 v l) (k : Old n0 w w') : StmtsR w' n0 v l :=
  ElR.mono h (Nat.le_refl _) fun i y _ hy hE s hs => by
    obtain ⟨pv, h1, h2, h3, h4, h5⟩ := hE s hs
    exact ⟨pv, k.cellx h1 (by rw [add_block]; exact hy), k.cellx h2 (by rw [add_block, add_block]; exact hy), k.cellx h3 (by rw [add_block, add_block]; exact hy), k.cellx h4 (by rw [add_block, add_block]; exact hy), h5.old k⟩
theorem ProgR.old {w w' : World} {n0 : Nat} {v1 v2 v3 : Value} {P : PP} (h : ProgR w n0 v1 v2 v3 P) (k : Old n0 w w') : ProgR w' n0 v1 v2 v3 P := ⟨h.vars.old k, h.funs.old k, h.stmts.old k⟩
theorem ProgR.ext {w w' : World} {n0 : Nat} {v1 v2 v3 : Value} {P : PP} (h : ProgR w n0 v1 v2 v3 P) (k : Ext w w') : ProgR w' n0 v1 v2 v3 P := h.old (k.old _)
theorem IntsR.ints {w : World} {n0 : Nat} {a : Option Addr} {n cap : Nat} {l : List Int} (h : IntsR w n0 (.slice a n cap) l) (hi : ∀ i, l.getD i 0 ≤ 9223372036854775807) : Ints w a l.length l := by
  obtain ⟨a', cap', h1, h2, h3, h4, h5⟩ := h
  obtain ⟨rfl, rfl, rfl⟩ : a = a' ∧ n = l.length ∧ cap = cap' := by simpa using h1
  refine ⟨rfl, h4, fun x hx i hi => ?_, hi⟩
  rw [(h5 x hx (by omega)).2 i hi (l[i]'hi) (List.getElem?_eq_getElem hi)]
  simp [List.getD_eq_getElem?_getD, hi]

/-- Is a string one of these? -/
def eqB (s t : ByteArray) : Bool := s.toList == t.toList
def memB (s : ByteArray) (l : List ByteArray) : Bool := l.any fun t => eqB s t
/-- Is one there ahead of its place? -/
def dupS (l : List ByteArray) : Bool := (List.range l.length).any fun i => memB (l.getD i ⟨#[]⟩) (l.take i)
def dupI (l : List Int) : Bool := (List.range l.length).any fun i => decide (l.getD i 0 ∈ l.take i)
def letters : List UInt8 := [97, 98, 99, 100, 101, 102, 103, 104, 105, 106, 107, 108, 109, 110, 111, 112, 113, 114, 115, 116, 117, 118, 119, 120, 121, 122, 48, 49, 50, 51, 52, 53, 54, 55, 56, 57]
def PP.inV (P : PP) (n : Int) : Bool := !(decide (n < 0) || decide ((P.vars.length : Int) ≤ n))
def PP.allV (P : PP) (l : List Int) : Bool := l.all P.inV
end Go.Proofs.YtkabgmohgjljkaaDoor


/- Programs: what is one of a list; what is there twice. -/
namespace Go.Proofs.YtkabgmohgjljkaaDoor
set_option linter.unusedSimpArgs false
set_option linter.unusedVariables false
open Go Go.RowKit

set_option maxRecDepth 100000 in
set_option maxHeartbeats 800000 in
theorem indexs_any (v : Value) (l : List ByteArray) (s : ByteArray) (w : World) (n0 : Nat) (h : StrsR w n0 v l) : Calls Tryd.prog 81 #[v, .string s] w fun e w' => ∃ r : Int, e = .returned (.int .i64 r) ∧ IdxR (memB s l = true) r ∧ w = w' := by
  obtain ⟨a, cap, rfl, h2, h3, h4, h5⟩ := h
  have H4 := hid h4
  have H5 := hid h5
  have hml : (l.length : Int) ≤ 9223372036854775807 := by omega
  clear h2 h3 h4 h5
  go_enter Tryd.func81, Tryd.ntmps81
  go_wp2
  go_loop [8] (fun t8 => ∃ k : Nat, t8 = .int .i64 (k : Int) ∧ k ≤ l.length ∧ ∀ j t, j < k → l[j]? = some t → eqB s t = false) (fun t8 => l.length - (intOf t8).toNat)
  case atStart => exact ⟨0, rfl, Nat.zero_le _, fun j t h => by omega⟩
  case round =>
    obtain ⟨k, rfl, hk, hne⟩ := hrel
    have Hne := hid hne
    clear hne
    by_cases hlt : k < l.length
    · obtain ⟨y, rfl⟩ := H4.out (by omega)
      have hxk : l[k]? = some (l[k]'hlt) := List.getElem?_eq_getElem hlt
      obtain ⟨t, ht⟩ : ∃ t, t = l[k]'hlt := ⟨_, rfl⟩
      rw [← ht] at hxk
      have hc := (H5.out y rfl (by omega)).2 k hlt t hxk
      have Hxk := hid hxk
      clear hxk ht
      cases he : eqB s t with
      | true =>
        have Hin := hid (IdxR.yes (k := k) (show memB s l = true from List.any_eq_true.2 ⟨t, List.mem_of_getElem? Hxk.out, he⟩) (by omega))
        unfold eqB at he
        go_wp2
        go_ret
        exact ⟨(k : Int), rfl, Hin.out, rfl⟩
      | false =>
        have Hf := hid he
        unfold eqB at he
        go_wp2
        refine ⟨⟨k + 1, by go_num, by omega, fun j u hj hu => ?_⟩, by simp [intOf]; omega⟩
        by_cases hjk : j = k
        · subst hjk
          obtain rfl := Option.some.inj (Hxk.out.symm.trans hu)
          exact Hf.out
        · exact Hne.out j u (by omega) hu
    · obtain rfl : k = l.length := by omega
      have Hnot := hid (IdxR.no (show ¬ memB s l = true from fun hm => by
        obtain ⟨t, ht, e⟩ := List.any_eq_true.1 hm
        obtain ⟨j, hj, e2⟩ := List.mem_iff_getElem.1 ht
        rw [Hne.out j t hj (by rw [List.getElem?_eq_getElem hj, e2])] at e
        cases e))
      go_wp2
      go_ret
      exact ⟨(-1 : Int), rfl, Hnot.out, rfl⟩

set_option maxRecDepth 100000 in
set_option maxHeartbeats 800000 in
theorem containss_any (v : Value) (l : List ByteArray) (s : ByteArray) (w : World) (n0 : Nat) (h : StrsR w n0 v l) : Calls Tryd.prog 73 #[v, .string s] w fun e w' => e = .returned (.bool (memB s l)) ∧ w = w' := by
  have H := hid (indexs_any v l s w n0 h)
  obtain ⟨a, cap, rfl, _⟩ := h
  go_enter Tryd.func73, Tryd.ntmps73
  go_wp2_with fail
  refine H.out.mono ?_
  intro e w1 hx
  obtain ⟨r, rfl, hiff, rfl⟩ := hx
  have hr := hiff.1
  have Hiff := hid hiff.2
  clear hiff H
  go_wp2
  go_ret
  refine ⟨congrArg (fun n => Ending.returned (Value.bool n)) ?_, rfl⟩
  have h1 := Hiff.out
  cases hv : memB s l with
  | true => rw [hv] at h1; simpa using h1
  | false => rw [hv] at h1; simpa using h1

set_option maxRecDepth 100000 in
set_option maxHeartbeats 800000 in
theorem indexi_any (v : Value) (l : List Int) (s : Int) (w : World) (n0 : Nat) (h : IntsR w n0 v l) : Calls Tryd.prog 91 #[v, .int .i64 s] w fun e w' => ∃ r : Int, e = .returned (.int .i64 r) ∧ IdxR (s ∈ l) r ∧ w = w' := by
  obtain ⟨a, cap, rfl, h2, h3, h4, h5⟩ := h
  have H4 := hid h4
  have H5 := hid h5
  have hml : (l.length : Int) ≤ 9223372036854775807 := by omega
  clear h2 h3 h4 h5
  go_enter Tryd.func91, Tryd.ntmps91
  go_wp2
  go_loop [8] (fun t8 => ∃ k : Nat, t8 = .int .i64 (k : Int) ∧ k ≤ l.length ∧ ∀ j t, j < k → l[j]? = some t → s ≠ t) (fun t8 => l.length - (intOf t8).toNat)
  case atStart => exact ⟨0, rfl, Nat.zero_le _, fun j t h => by omega⟩
  case round =>
    obtain ⟨k, rfl, hk, hne⟩ := hrel
    have Hne := hid hne
    clear hne
    by_cases hlt : k < l.length
    · obtain ⟨y, rfl⟩ := H4.out (by omega)
      have hxk : l[k]? = some (l[k]'hlt) := List.getElem?_eq_getElem hlt
      obtain ⟨t, ht⟩ : ∃ t, t = l[k]'hlt := ⟨_, rfl⟩
      rw [← ht] at hxk
      have hc := (H5.out y rfl (by omega)).2 k hlt t hxk
      have Hxk := hid hxk
      clear hxk ht
      by_cases he : s = t
      · subst he
        have Hin := hid (IdxR.yes (k := k) (List.mem_of_getElem? Hxk.out) (by omega))
        go_wp2
        go_ret
        exact ⟨(k : Int), rfl, Hin.out, rfl⟩
      · have Hf := hid he
        go_wp2
        refine ⟨⟨k + 1, by go_num, by omega, fun j u hj hu => ?_⟩, by simp [intOf]; omega⟩
        by_cases hjk : j = k
        · subst hjk
          obtain rfl := Option.some.inj (Hxk.out.symm.trans hu)
          exact Hf.out
        · exact Hne.out j u (by omega) hu
    · obtain rfl : k = l.length := by omega
      have Hnot := hid (IdxR.no (show ¬ s ∈ l from fun ht => by
        obtain ⟨j, hj, e2⟩ := List.mem_iff_getElem.1 ht
        exact Hne.out j s hj (by rw [List.getElem?_eq_getElem hj, e2]) rfl))
      go_wp2
      go_ret
      exact ⟨(-1 : Int), rfl, Hnot.out, rfl⟩
set_option maxRecDepth 100000 in
set_option maxHeartbeats 800000 in
theorem containsi_any (v : Value) (l : List Int) (s : Int) (w : World) (n0 : Nat) (h : IntsR w n0 v l) : Calls Tryd.prog 83 #[v, .int .i64 s] w fun e w' => e = .returned (.bool (decide (s ∈ l))) ∧ w = w' := by
  have H := hid (indexi_any v l s w n0 h)
  obtain ⟨a, cap, rfl, _⟩ := h
  go_enter Tryd.func83, Tryd.ntmps83
  go_wp2_with fail
  refine H.out.mono ?_
  intro e w1 hx
  obtain ⟨r, rfl, hiff, rfl⟩ := hx
  have hr := hiff.1
  have Hiff := hid hiff.2
  clear hiff H
  go_wp2
  go_ret
  refine ⟨?_, rfl⟩
  exact congrArg (fun n => Ending.returned (Value.bool n)) (decide_eq_decide.2 Hiff.out)

theorem IntsR.take {w : World} {n0 : Nat} {a : Option Addr} {n cap : Nat} {l : List Int} (h : IntsR w n0 (.slice a n cap) l) (i : Nat) (hi : i ≤ l.length) : IntsR w n0 (.slice a i cap) (l.take i) := by
  obtain ⟨a', cap', h1, h2, h3, h4, h5⟩ := h
  obtain ⟨rfl, rfl, rfl⟩ : a = a' ∧ n = l.length ∧ cap = cap' := by simpa using h1
  have hl : (l.take i).length = i := by simp; omega
  unfold IntsR
  rw [hl]
  refine ⟨a, cap, rfl, by omega, h3, fun h0 => h4 (by omega), fun y hy h0 => ⟨(h5 y hy (by omega)).1, fun j hj s hs => (h5 y hy (by omega)).2 j (by omega) s ?_⟩⟩
  rwa [List.getElem?_take, if_pos hj] at hs
theorem StrsR.take {w : World} {n0 : Nat} {a : Option Addr} {n cap : Nat} {l : List ByteArray} (h : StrsR w n0 (.slice a n cap) l) (i : Nat) (hi : i ≤ l.length) : StrsR w n0 (.slice a i cap) (l.take i) := by
  obtain ⟨a', cap', h1, h2, h3, h4, h5⟩ := h
  obtain ⟨rfl, rfl, rfl⟩ : a = a' ∧ n = l.length ∧ cap = cap' := by simpa using h1
  have hl : (l.take i).length = i := by simp; omega
  unfold StrsR
  rw [hl]
  refine ⟨a, cap, rfl, by omega, h3, fun h0 => h4 (by omega), fun y hy h0 => ⟨(h5 y hy (by omega)).1, fun j hj s hs => (h5 y hy (by omega)).2 j (by omega) s ?_⟩⟩
  rwa [List.getElem?_take, if_pos hj] at hs

set_option maxRecDepth 100000 in
set_option maxHeartbeats 800000 in
theorem twice_any (v : Value) (l : List Int) (w : World) (n0 : Nat) (h : IntsR w n0 v l) : Calls Tryd.prog 75 #[v] w fun e w' => e = .returned (.bool (dupI l)) ∧ w = w' := by
  have HI := hid h
  obtain ⟨a, cap, rfl, h2, h3, h4, h5⟩ := h
  have H4 := hid h4
  have H5 := hid h5
  have hml : (l.length : Int) ≤ 9223372036854775807 := by omega
  clear h4 h5
  go_enter Tryd.func75, Tryd.ntmps75
  go_wp2
  go_loop [7] (fun t7 => ∃ k : Nat, t7 = .int .i64 (k : Int) ∧ k ≤ l.length ∧ ∀ j, j < k → ¬ l.getD j 0 ∈ l.take j) (fun t7 => l.length - (intOf t7).toNat)
  case atStart => exact ⟨0, rfl, Nat.zero_le _, fun j h => by omega⟩
  case round =>
    obtain ⟨k, rfl, hk, hne⟩ := hrel
    have Hne := hid hne
    clear hne
    by_cases hlt : k < l.length
    · obtain ⟨y, rfl⟩ := H4.out (by omega)
      have hxk : l[k]? = some (l.getD k 0) := by simp [List.getD_eq_getElem?_getD, hlt]
      have hc := (H5.out y rfl (by omega)).2 k hlt _ hxk
      have HC := hid (containsi_any _ _ (l.getD k 0) w n0 (HI.out.take k hk))
      obtain ⟨t, ht⟩ : ∃ t, t = l.getD k 0 := ⟨_, rfl⟩
      rw [← ht] at hc HC
      have Ht := hid ht
      clear ht hxk
      go_wp2_with fail
      refine HC.out.mono ?_
      intro e w1 hx
      obtain ⟨rfl, rfl⟩ := hx
      clear HC
      by_cases he : t ∈ l.take k
      · have Hin : Hid (dupI l = true) := hid (List.any_eq_true.2 ⟨k, List.mem_range.2 hlt, by simp only [decide_eq_true_eq]; rw [← Ht.out]; exact he⟩)
        rw [decide_eq_true he]
        go_wp2
        go_ret
        exact ⟨by rw [Hin.out]; rfl, rfl⟩
      · have Hf := hid he
        rw [decide_eq_false he]
        clear he
        go_wp2
        refine ⟨⟨k + 1, by go_num, by omega, fun j hj => ?_⟩, by simp [intOf]; omega⟩
        by_cases hjk : j = k
        · subst hjk; rw [← Ht.out]; exact Hf.out
        · exact Hne.out j (by omega)
    · obtain rfl : k = l.length := by omega
      have Hnot : Hid (dupI l = false) := hid (List.any_eq_false.2 fun j hj => by simp only [decide_eq_true_eq]; exact Hne.out j (List.mem_range.1 hj))
      go_wp2
      go_ret
      exact ⟨by rw [Hnot.out]; rfl, rfl⟩
end Go.Proofs.YtkabgmohgjljkaaDoor


/- The contract of strings.Trim, laid at the numbers of this seat (written by the shelf's tool). -/
namespace Go.Proofs
open Go.Shelf
def Tryd.lays160_ren : Go.Shelf.Ren := ⟨fun | 160 => 80 | 232 => 85 | 231 => 84 | 227 => 86 | 234 => 88 | 233 => 87 | 236 => 90 | 235 => 89 | 228 => 92 | 271 => 95 | 151 => 94 | 197 => 93 | 120 => 98 | 152 => 97 | 260 => 96 | 137 => 99 | 119 => 100 | 224 => 101 | 225 => 102 | 217 => 103 | 266 => 104 | n => n, fun | 9 => 9 | 4 => 4 | 3 => 3 | 5 => 5 | 117 => 180 | 116 => 179 | 0 => 0 | 124 => 183 | 21 => 21 | 105 => 186 | 46 => 127 | 119 => 190 | 139 => 193 | 138 => 192 | n => n, fun | 3 => 12 | 4 => 13 | n => n⟩
theorem Tryd.lays160 : Go.Proofs.Lays.n160 Tryd.prog Tryd.lays160_ren := {
  mixed := by kernel_rfl
  f119 := Tryd.func100.trans (congrArg some (by kernel_rfl))
  f120 := Tryd.func98.trans (congrArg some (by kernel_rfl))
  f137 := Tryd.func99.trans (congrArg some (by kernel_rfl))
  f151 := Tryd.func94.trans (congrArg some (by kernel_rfl))
  f152 := Tryd.func97.trans (congrArg some (by kernel_rfl))
  f160 := Tryd.func80.trans (congrArg some (by kernel_rfl))
  f197 := Tryd.func93.trans (congrArg some (by kernel_rfl))
  f217 := Tryd.func103.trans (congrArg some (by kernel_rfl))
  f224 := Tryd.func101.trans (congrArg some (by kernel_rfl))
  f225 := Tryd.func102.trans (congrArg some (by kernel_rfl))
  f227 := Tryd.func86.trans (congrArg some (by kernel_rfl))
  f228 := Tryd.func92.trans (congrArg some (by kernel_rfl))
  f231 := Tryd.func84.trans (congrArg some (by kernel_rfl))
  f232 := Tryd.func85.trans (congrArg some (by kernel_rfl))
  f233 := Tryd.func87.trans (congrArg some (by kernel_rfl))
  f234 := Tryd.func88.trans (congrArg some (by kernel_rfl))
  f235 := Tryd.func89.trans (congrArg some (by kernel_rfl))
  f236 := Tryd.func90.trans (congrArg some (by kernel_rfl))
  f260 := Tryd.func96.trans (congrArg some (by kernel_rfl))
  f266 := Tryd.func104.trans (congrArg some (by kernel_rfl))
  f271 := Tryd.func95.trans (congrArg some (by kernel_rfl))
  t0 := Tryd.underlying0
  a0 := Tryd.isAgg0
  z0 := Tryd.sizeOf0
  v0 := Tryd.zeroValue0
  t3 := Tryd.underlying3
  a3 := Tryd.isAgg3
  z3 := Tryd.sizeOf3
  v3 := Tryd.zeroValue3
  t4 := Tryd.underlying4
  a4 := Tryd.isAgg4
  z4 := Tryd.sizeOf4
  v4 := Tryd.zeroValue4
  t5 := Tryd.underlying5
  a5 := Tryd.isAgg5
  z5 := Tryd.sizeOf5
  v5 := Tryd.zeroValue5
  t9 := Tryd.underlying9
  a9 := Tryd.isAgg9
  z9 := Tryd.sizeOf9
  v9 := Tryd.zeroValue9
  t21 := Tryd.underlying21
  a21 := Tryd.isAgg21
  z21 := Tryd.sizeOf21
  v21 := Tryd.zeroValue21
  t46 := Tryd.underlying127
  a46 := Tryd.isAgg127
  z46 := Tryd.sizeOf127
  v46 := Tryd.zeroValue127
  t105 := Tryd.underlying186
  a105 := Tryd.isAgg186
  z105 := Tryd.sizeOf186
  v105 := Tryd.zeroValue186
  t116 := Tryd.underlying179
  a116 := Tryd.isAgg179
  z116 := Tryd.sizeOf179
  t117 := Tryd.underlying180
  a117 := Tryd.isAgg180
  z117 := Tryd.sizeOf180
  v117 := Tryd.zeroValue180
  t119 := Tryd.underlying190
  a119 := Tryd.isAgg190
  z119 := Tryd.sizeOf190
  t124 := Tryd.underlying183
  a124 := Tryd.isAgg183
  z124 := Tryd.sizeOf183
  v124 := Tryd.zeroValue183
  t138 := Tryd.underlying192
  a138 := Tryd.isAgg192
  z138 := Tryd.sizeOf192
  v138 := Tryd.zeroValue192
  t139 := Tryd.underlying193
  a139 := Tryd.isAgg193
  z139 := Tryd.sizeOf193
  v139 := Tryd.zeroValue193
  g3 := by kernel_rfl
  g4 := by kernel_rfl }
end Go.Proofs


/- The errors that lie listed: each a pointer of its own to a text. -/
namespace Go.Proofs.YtkabgmohgjljkaaDoor
set_option linter.unusedSimpArgs false
set_option linter.unusedVariables false
open Go Go.RowKit Go.ChangeShapes

theorem errStar : "*" ++ "errors.errorString" = "*errors.errorString" := by decide
theorem errRow (u : TypeId) (h : Tryd.prog.typeName? 3 u = some "*errors.errorString") : u = 197 :=
  typeName_ptr_named (nm := "errors.errorString") (by rw [errStar]; kernel_rfl) (by kernel_rfl) (by decide) u (by rw [errStar]; exact h)
theorem errCells : Tryd.prog.cellsOf 218 = 1 := by kernel_rfl
theorem strCells : Tryd.prog.cellsOf 9 = 1 := by kernel_rfl

/-- The variable g holds an error whose text lies at a. -/
structure SentAt (W : World) (g : Nat) (a : Addr) : Prop where
  var : W.cell? ⟨g, 0, none⟩ = some (.iface 197 (.pointer (some a)))
  row : ∃ c t, W.heap[a.block]? = some (.cells c t (0, 0))
  text : ∃ s, W.cell? a = some (.string s)
def sentD (t : List UInt8) : DataW Unit := .iface "*errors.errorString" (.ptr (.agg [.lit (.string t)]))

set_option maxRecDepth 100000 in
theorem sents_of {W : World} : ∀ (l : List (String × Nat × List UInt8)) (ps : List MemPlace), DataW.LaidVars Tryd.prog W (l.map fun x => (x.1, sentD x.2.2)) ps → ps.Nodup →
    (∀ b off, MemPlace.cell b off ∈ ps → (∃ c t, W.heap[b]? = some (.cells c t (0, 0))) ∧ ∀ u v, W.cell? ⟨b, off, none⟩ = some (.iface u v) → Value.okWide Tryd.prog W .any 0 u v) →
    (∀ x ∈ l, Tryd.prog.globalNamed x.1 = some x.2.1 ∧ (Tryd.prog.globals[x.2.1]?).map (·.type) = some 27) →
    ∃ pa : List Addr, pa.length = l.length ∧ (∀ (i : Nat) (x : String × Nat × List UInt8) (a : Addr), l[i]? = some x → pa[i]? = some a → SentAt W x.2.1 a) ∧ pa.Nodup ∧ ∀ a ∈ pa, MemPlace.cell a.block a.off ∈ ps
  | [], ps, _, _, _, _ => ⟨[], rfl, fun i x a h => by simp at h, List.nodup_nil, fun a h => by simp at h⟩
  | (n, k, tx) :: r, ps, h, hnd, hrows, hg => by
    obtain ⟨g, t, cs, fuel, p, q, hg0, ht0, hv0, hd0, hq, rfl⟩ := h
    obtain ⟨hk1, hk2⟩ := hg (n, k, tx) (by simp)
    obtain rfl := Option.some.inj (hk1.symm.trans hg0)
    obtain rfl := Option.some.inj (hk2.symm.trans ht0)
    obtain ⟨l0⟩ := cs
    have ok0 : ∀ u v, l0 = [.iface u v] → Value.okWide Tryd.prog W .any 0 u v := fun u v e => by
      subst e
      exact (hrows k 0 (by simp [MemPlace.row])).2 u v (by simpa using World.var?_cell hk1 hv0 0)
    obtain ⟨a0, s0, rfl, hc0, hs0, hz0, rfl⟩ := errorString_of_trod Tryd.underlying27 errRow Tryd.underlying197 Tryd.underlying218 rfl rfl Tryd.underlying9 errCells strCells hd0 ok0
    have hnd' := hnd
    rw [List.append_assoc] at hnd'
    have hq' : q.Nodup := (List.nodup_append.1 (List.nodup_append.1 hnd').2.1).2.1
    obtain ⟨pa, e1, e2, e3, e4⟩ := sents_of r q hq hq' (fun b off hm => hrows b off (List.mem_append_right _ hm)) (fun x hx => hg x (List.mem_cons_of_mem _ hx))
    have hin : MemPlace.cell a0.block a0.off ∈ MemPlace.row a0 1 := by simp [MemPlace.row]
    refine ⟨a0 :: pa, by simp [e1], ?_, ?_, ?_⟩
    · intro i x a hx ha
      cases i with
      | zero =>
        simp only [List.getElem?_cons_zero, Option.some.injEq] at hx ha
        subst hx ha
        exact ⟨by simpa using World.var?_cell hk1 hv0 0, (hrows a0.block a0.off (by simp [hin])).1, s0, hc0⟩
      | succ i =>
        simp only [List.getElem?_cons_succ] at hx ha
        exact e2 i x a hx ha
    · refine List.nodup_cons.2 ⟨fun hm => ?_, e3⟩
      have h1 := e4 a0 hm
      have h2 := (List.nodup_append.1 (List.nodup_append.1 hnd').2.1).2.2 _ hin _ h1
      exact h2 rfl
    · intro a ha
      rcases List.mem_cons.1 ha with rfl | ha
      · simp [hin]
      · simp [e4 a ha]

theorem sents_met {W : World} (l : List (String × Nat × List UInt8)) (h : laidMet Tryd.prog (l.map fun x => (x.1, sentD x.2.2)) W) (hg : ∀ x ∈ l, Tryd.prog.globalNamed x.1 = some x.2.1 ∧ (Tryd.prog.globals[x.2.1]?).map (·.type) = some 27) :
    ∃ pa : List Addr, pa.length = l.length ∧ (∀ (i : Nat) (x : String × Nat × List UInt8) (a : Addr), l[i]? = some x → pa[i]? = some a → SentAt W x.2.1 a) ∧ pa.Nodup := by
  obtain ⟨ps, h1, h2, h3⟩ := h
  obtain ⟨pa, e1, e2, e3, _⟩ := sents_of l ps h1 h2 h3 hg
  exact ⟨pa, e1, e2, e3⟩
/-- The errors' rows, by their numbers. -/
def sRow : Nat → String × Nat × List UInt8
  | 1 => ("fingerpost/api.ErrText", 4, [102, 105, 110, 103, 101, 114, 112, 111, 115, 116, 58, 32, 116, 101, 120, 116])
  | 2 => ("fingerpost/api.ErrBound", 3, [102, 105, 110, 103, 101, 114, 112, 111, 115, 116, 58, 32, 98, 111, 117, 110, 100])
  | 3 => ("fingerpost/api.ErrShape", 2, [102, 105, 110, 103, 101, 114, 112, 111, 115, 116, 58, 32, 115, 104, 97, 112, 101])
  | 4 => ("fingerpost/api.ErrKind", 0, [102, 105, 110, 103, 101, 114, 112, 111, 115, 116, 58, 32, 107, 105, 110, 100])
  | 5 => ("fingerpost/api.ErrName", 5, [102, 105, 110, 103, 101, 114, 112, 111, 115, 116, 58, 32, 110, 97, 109, 101])
  | 6 => ("fingerpost/api.ErrNone", 6, [102, 105, 110, 103, 101, 114, 112, 111, 115, 116, 58, 32, 110, 111, 110, 101])
  | 7 => ("fingerpost/api.ErrExist", 7, [102, 105, 110, 103, 101, 114, 112, 111, 115, 116, 58, 32, 101, 120, 105, 115, 116])
  | 8 => ("fingerpost/api.ErrFull", 1, [102, 105, 110, 103, 101, 114, 112, 111, 115, 116, 58, 32, 102, 117, 108, 108])
  | 9 => ("fingerpost/api.ErrArgs", 8, [102, 105, 110, 103, 101, 114, 112, 111, 115, 116, 58, 32, 97, 114, 103, 115])
  | 10 => ("fingerpost/api.ErrOrder", 9, [102, 105, 110, 103, 101, 114, 112, 111, 115, 116, 58, 32, 111, 114, 100, 101, 114])
  | 11 => ("fingerpost/api.ErrSum", 10, [102, 105, 110, 103, 101, 114, 112, 111, 115, 116, 58, 32, 115, 117, 109])
  | _ => ("", 0, [])
theorem sRow_ok {c : Nat} (h1 : 1 ≤ c) (h2 : c ≤ 11) : Tryd.prog.globalNamed (sRow c).1 = some (sRow c).2.1 ∧ (Tryd.prog.globals[(sRow c).2.1]?).map (·.type) = some 27 := by
  rcases (by omega : c = 1 ∨ c = 2 ∨ c = 3 ∨ c = 4 ∨ c = 5 ∨ c = 6 ∨ c = 7 ∨ c = 8 ∨ c = 9 ∨ c = 10 ∨ c = 11) with rfl | rfl | rfl | rfl | rfl | rfl | rfl | rfl | rfl | rfl | rfl <;> exact ⟨by kernel_rfl, by kernel_rfl⟩
theorem sRow_g {c : Nat} (h1 : 1 ≤ c) (h2 : c ≤ 11) : (sRow c).2.1 = gE c := by
  rcases (by omega : c = 1 ∨ c = 2 ∨ c = 3 ∨ c = 4 ∨ c = 5 ∨ c = 6 ∨ c = 7 ∨ c = 8 ∨ c = 9 ∨ c = 10 ∨ c = 11) with rfl | rfl | rfl | rfl | rfl | rfl | rfl | rfl | rfl | rfl | rfl <;> rfl
def sentL (codes : List Nat) : List (String × DataW Unit) := codes.map fun c => ((sRow c).1, sentD (sRow c).2.2)
theorem sent_noHandle (t : List UInt8) : (sentD t).handleName? = none := by
  unfold sentD DataW.handleName?
  simp
theorem met_plain {W : World} {codes : List Nat} (h : laidMetH Tryd.prog (sentL codes) W) : laidMet Tryd.prog (sentL codes) W := by
  have h1 := (laidMetH_iff.1 h).1
  rw [List.filter_eq_self.2 fun x hx => by
    obtain ⟨c, _, rfl⟩ := List.mem_map.1 hx
    simp [sent_noHandle]] at h1
  exact h1
/-- The errors' values. -/
def evOf (ad : Nat → Addr) (c : Nat) : Value := .iface 197 (.pointer (some (ad c)))
theorem evOf_iface (ad : Nat → Addr) : ∀ c, c ≠ 0 → ∃ t v, evOf ad c = .iface t v := fun _ _ => ⟨_, _, rfl⟩
/-- What a list of errors gives. -/
theorem sents_ad {W : World} (codes : List Nat) (hc : ∀ c ∈ codes, 1 ≤ c ∧ c ≤ 11) (h : laidMet Tryd.prog (sentL codes) W) :
    ∃ ad : Nat → Addr, (∀ c ∈ codes, SentAt W (gE c) (ad c)) ∧ ∀ c ∈ codes, ∀ d ∈ codes, ad c = ad d → c = d := by
  obtain ⟨pa, h1, h2, h3⟩ := sents_met (codes.map sRow) (by simpa [sentL, List.map_map, Function.comp_def] using h) (fun x hx => by
    obtain ⟨c, hm, rfl⟩ := List.mem_map.1 hx
    exact sRow_ok (hc c hm).1 (hc c hm).2)
  rw [List.length_map] at h1
  have hix : ∀ c ∈ codes, ∃ a, pa[codes.idxOf c]? = some a := fun c hm => by
    have := List.idxOf_lt_length_of_mem hm
    exact ⟨_, List.getElem?_eq_getElem (by omega)⟩
  refine ⟨fun c => (pa[codes.idxOf c]?).getD ⟨0, 0, none⟩, fun c hm => ?_, fun c hm d hd e => ?_⟩
  · obtain ⟨a, ha⟩ := hix c hm
    have hi := List.idxOf_lt_length_of_mem hm
    have := h2 (codes.idxOf c) (sRow c) a (by rw [List.getElem?_map, List.getElem?_eq_getElem hi]; simp) ha
    rw [sRow_g (hc c hm).1 (hc c hm).2] at this
    simp only [ha, Option.getD_some]
    exact this
  · obtain ⟨a, ha⟩ := hix c hm
    obtain ⟨b, hb⟩ := hix d hd
    simp only [ha, hb, Option.getD_some] at e
    subst e
    have l1 := List.idxOf_lt_length_of_mem hm
    have l2 := List.idxOf_lt_length_of_mem hd
    have hii : codes.idxOf c = codes.idxOf d := (List.getElem?_inj (by omega) h3).1 (ha.trans hb.symm)
    have g1 : codes[codes.idxOf c]'l1 = c := by simp
    have g2 : codes[codes.idxOf d]'l2 = d := by simp
    rw [← g1, ← g2]
    congr 1
end Go.Proofs.YtkabgmohgjljkaaDoor


/- Programs: names. -/
namespace Go.Proofs.YtkabgmohgjljkaaDoor
set_option linter.unusedSimpArgs false
set_option linter.unusedVariables false
open Go Go.RowKit Go.Shelf Go.Lib

theorem add0 (b i : Nat) : (⟨b, 0, none⟩ : Addr).add i = ⟨b, i, none⟩ := by
  by_cases h0 : i = 0 <;> simp [Addr.add, h0]
theorem StrsR.blk {w : World} {b : Nat} {c : Array Value} {t : TypeId} {l : List ByteArray} (h : Blk w b c t) (hc : c.toList = l.map .string) (hl : (l.length : Int) ≤ 1000000) : StrsR w w.heap.size (.slice (some ⟨b, 0, none⟩) l.length l.length) l := by
  refine ⟨_, _, rfl, Nat.le_refl _, by omega, fun _ => ⟨_, rfl⟩, fun y hy h0 => ?_⟩
  obtain rfl := Option.some.inj hy
  refine ⟨h.lt, fun i hi s hs => ?_⟩
  rw [add0, h.cell, ← Array.getElem?_toList, hc, List.getElem?_map, hs]
  rfl
theorem IntsR.blk {w : World} {b : Nat} {c : Array Value} {t : TypeId} {l : List Int} (h : Blk w b c t) (hc : c.toList = l.map (.int .i64)) (hl : (l.length : Int) ≤ 1000000): IntsR w w.heap.size (.slice (some ⟨b, 0, none⟩) l.length l.length) l := by
  refine ⟨_, _, rfl, Nat.le_refl _, by omega, fun _ => ⟨_, rfl⟩, fun y hy h0 => ?_⟩
  obtain rfl := Option.some.inj hy
  refine ⟨h.lt, fun i hi s hs => ?_⟩
  rw [add0, h.cell, ← Array.getElem?_toList, hc, List.getElem?_map, hs]
  rfl

def reserved : List ByteArray := [⟨#[118, 97, 114]⟩, ⟨#[102, 110]⟩, ⟨#[110, 101, 119]⟩, ⟨#[99, 97, 108, 108]⟩]
def lettersS : ByteArray := ⟨#[97, 98, 99, 100, 101, 102, 103, 104, 105, 106, 107, 108, 109, 110, 111, 112, 113, 114, 115, 116, 117, 118, 119, 120, 121, 122, 48, 49, 50, 51, 52, 53, 54, 55, 56, 57]⟩
def nameRest (s : ByteArray) : Bool := eqB ⟨(trimS s.data.toList lettersS.data.toList).toArray⟩ ⟨#[]⟩
def first (s : ByteArray) : Nat := if h : 0 < s.size then s[0].toNat else 0
def nameOk (s : ByteArray) : Bool := !memB s reserved && (!s.toList.isEmpty && decide (s.size ≤ 8) && decide (97 ≤ first s) && decide (first s ≤ 122) && nameRest s)

theorem strim_any (s : ByteArray) (w : World) (hs : s.size ≤ 9223372036854775807) : Calls Tryd.prog 80 #[.string s, .string ⟨#[97, 98, 99, 100, 101, 102, 103, 104, 105, 106, 107, 108, 109, 110, 111, 112, 113, 114, 115, 116, 117, 118, 119, 120, 121, 122, 48, 49, 50, 51, 52, 53, 54, 55, 56, 57]⟩] w fun e w' => ∃ r, e = .returned (.string r) ∧ eqB r ⟨#[]⟩ = nameRest s ∧ Ext w w' :=
  (Any.strings_Trim_laid Tryd.lays160 (by kernel_rfl) s lettersS w hs (by decide) (ascii_of_all (by decide))).mono fun _ _ h => ⟨_, h.1, rfl, h.2⟩

set_option maxRecDepth 100000 in
set_option maxHeartbeats 1600000 in
theorem name_any (s : ByteArray) (w : World) (hs : s.size ≤ 9223372036854775807) : Calls Tryd.prog 72 #[.string s] w fun e w' => e = .returned (.bool (nameOk s)) ∧ Ext w w' := by
  obtain ⟨W, hW⟩ : ∃ W, W = w.alloc (.cells #[.string ⟨#[118, 97, 114]⟩, .string ⟨#[102, 110]⟩, .string ⟨#[110, 101, 119]⟩, .string ⟨#[99, 97, 108, 108]⟩] 9) := ⟨_, rfl⟩
  have hx : Ext w W := by rw [hW]; exact (Ext.refl _).alloc _
  have HC : Hid (Calls Tryd.prog 73 #[.slice (some ⟨w.heap.size, 0, none⟩) 4 4, .string s] W fun e w' => e = .returned (.bool (memB s reserved)) ∧ W = w') := hid (by
    refine containss_any (.slice (some ⟨w.heap.size, 0, none⟩) 4 4) reserved s W W.heap.size (StrsR.blk (l := reserved) (c := #[.string ⟨#[118, 97, 114]⟩, .string ⟨#[102, 110]⟩, .string ⟨#[110, 101, 119]⟩, .string ⟨#[99, 97, 108, 108]⟩]) (t := 9) ?_ rfl (by decide))
    rw [hW]; exact Blk.new _ _ _)
  have HT := hid (strim_any s W hs)
  have HW := hid hW
  have Hs := hid hs
  clear hW hs
  go_enter Tryd.func72, Tryd.ntmps72
  go_wp2_with fail
  rw [← HW.out]
  refine HC.out.mono ?_
  intro e w1 hx1
  obtain ⟨rfl, rfl⟩ := hx1
  clear HC
  cases hm : memB s reserved with
  | true =>
    have Hr := hid (show nameOk s = false by unfold nameOk; rw [hm]; rfl)
    go_wp2
    go_ret
    exact ⟨by rw [Hr.out]; rfl, hx⟩
  | false =>
    have Hm := hid hm
    clear hm
    by_cases h0 : s.toList = []
    · have Hr := hid (show nameOk s = false by unfold nameOk; rw [h0]; simp)
      clear HT
      go_wp2
      go_ret
      exact ⟨by rw [Hr.out]; rfl, hx⟩
    have hz : 0 < s.size := by
      rcases Nat.eq_zero_or_pos s.size with h | h
      · exact absurd (by rw [toList_data]; exact List.eq_nil_of_length_eq_zero (by simpa using h)) h0
      · exact h
    have H0 := hid (show (!s.toList.isEmpty) = true by simpa using h0)
    have Hf := hid (show first s = s[0].toNat by unfold first; rw [dif_pos hz])
    by_cases h8 : s.size ≤ 8
    · by_cases h97 : 97 ≤ s[0].toNat
      · by_cases h122 : s[0].toNat ≤ 122
        · have Hd := hid (show nameOk s = nameRest s by unfold nameOk; rw [Hm.out, H0.out, Hf.out, decide_eq_true h8, decide_eq_true h97, decide_eq_true h122]; simp)
          clear Hf Hs Hm
          go_wp2_with fail
          refine HT.out.mono ?_
          intro e w2 hx2
          obtain ⟨r, rfl, hr, hx2⟩ := hx2
          clear HT
          cases hq : nameRest s with
          | true =>
            rw [hq] at hr
            have Hq := hid hq
            clear hq
            unfold eqB at hr
            simp at hr
            go_wp2
            go_ret
            exact ⟨by rw [Hd.out, Hq.out]; exact congrArg (fun b => Ending.returned (Value.bool b)) H0.out, hx.trans hx2⟩
          | false =>
            rw [hq] at hr
            have Hq := hid hq
            clear hq
            unfold eqB at hr
            simp at hr
            go_wp2
            go_ret
            exact ⟨by rw [Hd.out, Hq.out]; exact congrArg (fun b => Ending.returned (Value.bool b)) (by rw [H0.out]; simpa using hr), hx.trans hx2⟩
        · have Hr := hid (show nameOk s = false by unfold nameOk; rw [Hf.out, decide_eq_false h122]; simp)
          clear HT
          go_wp2
          go_ret
          exact ⟨by rw [Hr.out]; rfl, hx⟩
      · have Hr := hid (show nameOk s = false by unfold nameOk; rw [Hf.out, decide_eq_false h97]; simp)
        clear HT
        go_wp2
        go_ret
        exact ⟨by rw [Hr.out]; rfl, hx⟩
    · have Hr := hid (show nameOk s = false by unfold nameOk; rw [decide_eq_false h8]; simp)
      clear HT
      go_wp2
      go_ret
      exact ⟨by rw [Hr.out]; rfl, hx⟩
end Go.Proofs.YtkabgmohgjljkaaDoor


/- Programs: names that are none, or that are there twice. -/
namespace Go.Proofs.YtkabgmohgjljkaaDoor
set_option linter.unusedSimpArgs false
set_option linter.unusedVariables false
open Go Go.RowKit

/-- The errors' values, of those that a program's check tells. -/
structure ErrsP (w : World) (ad : Nat → Addr) : Prop where
  at2 : w.cell? ⟨3, 0, none⟩ = some (evOf ad 2)
  at3 : w.cell? ⟨2, 0, none⟩ = some (evOf ad 3)
  at4 : w.cell? ⟨0, 0, none⟩ = some (evOf ad 4)
  at5 : w.cell? ⟨5, 0, none⟩ = some (evOf ad 5)
  at7 : w.cell? ⟨7, 0, none⟩ = some (evOf ad 7)
  at8 : w.cell? ⟨1, 0, none⟩ = some (evOf ad 8)
  at9 : w.cell? ⟨8, 0, none⟩ = some (evOf ad 9)
  ne57 : ad 5 ≠ ad 7
  row5 : ∃ cs t, w.heap[(ad 5).block]? = some (.cells cs t (0, 0))
  row7 : ∃ cs t, w.heap[(ad 7).block]? = some (.cells cs t (0, 0))
theorem ErrsP.ext {w w' : World} {ad : Nat → Addr} (h : ErrsP w ad) (x : Ext w w') : ErrsP w' ad :=
  ⟨x.cellx h.at2, x.cellx h.at3, x.cellx h.at4, x.cellx h.at5, x.cellx h.at7, x.cellx h.at8, x.cellx h.at9, h.ne57, (let ⟨cs, t, e⟩ := h.row5; ⟨cs, t, x.get e⟩), (let ⟨cs, t, e⟩ := h.row7; ⟨cs, t, x.get e⟩)⟩

def anyBad (l : List ByteArray) : Bool := l.any fun s => !nameOk s
def namesErr (l : List ByteArray) : Nat := bif anyBad l then 5 else bif dupS l then 7 else 0

set_option maxRecDepth 100000 in
set_option maxHeartbeats 800000 in
theorem namesc_any (s : ByteArray) (w : World) (hs : s.size ≤ 9223372036854775807) : Calls Tryd.prog 71 #[.string s] w fun e w' => e = .returned (.bool (!nameOk s)) ∧ Ext w w' := by
  have H := hid (name_any s w hs)
  clear hs
  go_enter Tryd.func71, Tryd.ntmps71
  go_wp2_with fail
  refine H.out.mono ?_
  intro e w1 hx
  obtain ⟨rfl, hx⟩ := hx
  clear H
  go_wp2
  go_ret
  exact ⟨rfl, hx⟩

set_option maxRecDepth 100000 in
set_option maxHeartbeats 800000 in
theorem indexfs_any (v : Value) (l : List ByteArray) (w : World) (n0 : Nat) (h : StrsR w n0 v l) (hz : ∀ s ∈ l, s.size ≤ 1000000) : Calls Tryd.prog 79 #[v, .func (.func 71) #[] #[]] w fun e w' => ∃ r : Int, e = .returned (.int .i64 r) ∧ IdxR (anyBad l = true) r ∧ Ext w w' := by
  have HS := hid h
  obtain ⟨a, cap, rfl, h2, h3, h4, _⟩ := h
  have H4 := hid h4
  have Hz := hid hz
  have hml : (l.length : Int) ≤ 9223372036854775807 := by omega
  clear h2 h3 h4 hz
  go_enter Tryd.func79, Tryd.ntmps79
  go_wp2
  go_loopw [8] (fun t8 wr => ∃ k : Nat, t8 = .int .i64 (k : Int) ∧ k ≤ l.length ∧ (∀ j t, j < k → l[j]? = some t → nameOk t = true) ∧ Ext w wr) (fun t8 _ => l.length - (intOf t8).toNat)
  case atStart => exact ⟨0, rfl, Nat.zero_le _, fun j t h => by omega, Ext.refl _⟩
  case round =>
    obtain ⟨k, rfl, hk, hne, hx⟩ := hrel
    have Hne := hid hne
    clear hne
    by_cases hlt : k < l.length
    · obtain ⟨y, rfl⟩ := H4.out (by omega)
      have hxk : l[k]? = some (l[k]'hlt) := List.getElem?_eq_getElem hlt
      obtain ⟨t, ht⟩ : ∃ t, t = l[k]'hlt := ⟨_, rfl⟩
      rw [← ht] at hxk
      have hS := HS.out.old (hx.old n0)
      obtain ⟨a', cap', h1, _, _, _, h5⟩ := hS
      obtain ⟨rfl, rfl⟩ : some y = a' ∧ cap = cap' := by simpa using h1
      have hc := (h5 y rfl (by omega)).2 k hlt t hxk
      have HN := hid (namesc_any t wr (by have := Hz.out t (List.mem_of_getElem? hxk); omega))
      have Hxk := hid hxk
      have Hx := hid hx
      clear hxk ht h1 h5 hx
      go_wp2_with fail
      refine HN.out.mono ?_
      intro e w1 hx1
      obtain ⟨rfl, hx1⟩ := hx1
      have Hx1 := hid (Hx.out.trans hx1)
      clear HN hx1 Hx hc
      cases he : nameOk t with
      | false =>
        have Hin := hid (IdxR.yes (k := k) (show anyBad l = true from List.any_eq_true.2 ⟨t, List.mem_of_getElem? Hxk.out, by simp only [he, Bool.not_false]⟩) (by omega))
        go_wp2
        go_ret
        exact ⟨(k : Int), rfl, Hin.out, Hx1.out⟩
      | true =>
        have Hf := hid he
        clear he
        go_wp2
        go_roundw
        case rel =>
          refine ⟨k + 1, by go_num, by omega, fun j u hj hu => ?_, Hx1.out⟩
          by_cases hjk : j = k
          · subst hjk
            obtain rfl := Option.some.inj (Hxk.out.symm.trans hu)
            exact Hf.out
          · exact Hne.out j u (by omega) hu
        case measure => simp [intOf]; omega
    · obtain rfl : k = l.length := by omega
      have Hx := hid hx
      clear hx
      have Hnot := hid (IdxR.no (show ¬ anyBad l = true from fun hm => by
        obtain ⟨t, ht, e⟩ := List.any_eq_true.1 hm
        obtain ⟨j, hj, e2⟩ := List.mem_iff_getElem.1 ht
        rw [Hne.out j t hj (by rw [List.getElem?_eq_getElem hj, e2])] at e
        cases e))
      go_wp2
      go_ret
      exact ⟨(-1 : Int), rfl, Hnot.out, Hx.out⟩

set_option maxRecDepth 100000 in
set_option maxHeartbeats 800000 in
theorem containsfs_any (v : Value) (l : List ByteArray) (w : World) (n0 : Nat) (h : StrsR w n0 v l) (hz : ∀ s ∈ l, s.size ≤ 1000000) : Calls Tryd.prog 70 #[v, .func (.func 71) #[] #[]] w fun e w' => e = .returned (.bool (anyBad l)) ∧ Ext w w' := by
  have H := hid (indexfs_any v l w n0 h hz)
  obtain ⟨a, cap, rfl, _⟩ := h
  clear hz
  go_enter Tryd.func70, Tryd.ntmps70
  go_wp2_with fail
  refine H.out.mono ?_
  intro e w1 hx
  obtain ⟨r, rfl, hiff, hx⟩ := hx
  have hr := hiff.1
  have Hiff := hid hiff.2
  clear hiff H
  go_wp2
  go_ret
  refine ⟨congrArg (fun n => Ending.returned (Value.bool n)) ?_, hx⟩
  have h1 := Hiff.out
  cases hv : anyBad l with
  | true => rw [hv] at h1; simpa using h1
  | false => rw [hv] at h1; simpa using h1

set_option maxRecDepth 100000 in
set_option maxHeartbeats 1600000 in
theorem names_any (v : Value) (l : List ByteArray) (w : World) (n0 : Nat) (ad : Nat → Addr) (hE : ErrsP w ad) (h : StrsR w n0 v l) (hz : ∀ s ∈ l, s.size ≤ 1000000) : Calls Tryd.prog 58 #[v] w fun e w' => e = .returned (errv (evOf ad) (namesErr l)) ∧ Ext w w' := by
  have HI := hid h
  have H := hid (containsfs_any v l w n0 h hz)
  have HE := hid hE
  obtain ⟨a, cap, rfl, h2, h3, h4, _⟩ := h
  have H4 := hid h4
  have hml : (l.length : Int) ≤ 9223372036854775807 := by omega
  clear h4 hz hE
  go_enter Tryd.func58, Tryd.ntmps58
  go_wp2_with fail
  refine H.out.mono ?_
  intro e w1 hx
  obtain ⟨rfl, hx⟩ := hx
  clear H
  have h5 := (HE.out.ext hx).at5
  have h7 := (HE.out.ext hx).at7
  unfold evOf at h5 h7
  have HS := hid (HI.out.old (hx.old n0))
  cases hb : anyBad l with
  | true =>
    have Hr := hid (show namesErr l = 5 by unfold namesErr; rw [hb]; rfl)
    clear hb
    go_wp2
    go_ret
    exact ⟨by rw [Hr.out]; rfl, hx⟩
  | false =>
  have Hb := hid hb
  have Hx := hid hx
  clear hb hx h5 HI
  go_wp2
  go_loop [10] (fun t10 => ∃ k : Nat, t10 = .int .i64 (k : Int) ∧ k ≤ l.length ∧ ∀ j, j < k → memB (l.getD j ⟨#[]⟩) (l.take j) = false) (fun t10 => l.length - (intOf t10).toNat)
  case atStart => exact ⟨0, rfl, Nat.zero_le _, fun j h => by omega⟩
  case round =>
    obtain ⟨k, rfl, hk, hne⟩ := hrel
    have Hne := hid hne
    clear hne
    by_cases hlt : k < l.length
    · obtain ⟨y, rfl⟩ := H4.out (by omega)
      have hxk : l[k]? = some (l.getD k ⟨#[]⟩) := by simp [List.getD_eq_getElem?_getD, hlt]
      obtain ⟨a', cap', h1, _, _, _, h5⟩ := HS.out
      obtain ⟨rfl, rfl⟩ : some y = a' ∧ cap = cap' := by simpa using h1
      have hc := (h5 y rfl (by omega)).2 k hlt _ hxk
      have HC := hid (containss_any _ _ (l.getD k ⟨#[]⟩) w1 n0 (HS.out.take k hk))
      obtain ⟨t, ht⟩ : ∃ t, t = l.getD k ⟨#[]⟩ := ⟨_, rfl⟩
      rw [← ht] at hc HC
      have Ht := hid ht
      clear ht hxk h1 h5
      go_wp2_with fail
      refine HC.out.mono ?_
      intro e w2 hx2
      obtain ⟨rfl, rfl⟩ := hx2
      clear HC
      cases he : memB t (l.take k) with
      | true =>
        have Hin : Hid (namesErr l = 7) := hid (by
          unfold namesErr
          rw [Hb.out, show dupS l = true from List.any_eq_true.2 ⟨k, List.mem_range.2 hlt, by rw [← Ht.out]; exact he⟩]
          rfl)
        go_wp2
        go_ret
        exact ⟨by rw [Hin.out]; rfl, Hx.out⟩
      | false =>
        have Hf := hid he
        clear he
        go_wp2
        refine ⟨⟨k + 1, by go_num, by omega, fun j hj => ?_⟩, by simp [intOf]; omega⟩
        by_cases hjk : j = k
        · subst hjk; rw [← Ht.out]; exact Hf.out
        · exact Hne.out j (by omega)
    · obtain rfl : k = l.length := by omega
      have Hnot : Hid (namesErr l = 0) := hid (by
        unfold namesErr
        rw [Hb.out, show dupS l = false from List.any_eq_false.2 fun j hj => by rw [Hne.out j (List.mem_range.1 hj)]; simp]
        rfl)
      go_wp2
      go_ret
      exact ⟨by rw [Hnot.out]; rfl, Hx.out⟩
end Go.Proofs.YtkabgmohgjljkaaDoor
