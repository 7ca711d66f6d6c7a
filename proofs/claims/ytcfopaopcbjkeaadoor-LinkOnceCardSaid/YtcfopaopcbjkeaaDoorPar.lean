
/- Operations that make memory and wait for none of each other: any order, one end. -/
import Derived.Test.YtcfopaopcbjkeaaDoorBase
namespace Go.Proofs.YtcfopaopcbjkeaaDoor
set_option linter.unusedSimpArgs false
set_option linter.unusedVariables false
open Go Go.RowKit
section
variable {P : Program} {ops : Array Oper} {X : Nat → Prop} {w0 : World} {Q : Act → World → Prop} {L : List Nat}

def GenR (w : World) (R : Value → World → Prop) : Value → World → Prop := fun v w' => Ext w w' ∧ R v w'
theorem does_mono {o : Oper} {a : Act} {w : World} {R R' : Value → World → Prop} (h : does P ops o a w R) (hr : ∀ v w', R v w' → R' v w') : does P ops o a w R' := by
  unfold does at *
  split
  · rename_i hw
    rw [if_pos hw] at h
    generalize (execOp a.eval o).run P w = r at *
    cases r with
    | ok n w' =>
      cases n <;> simp only [Oper.doesUpon] at h ⊢
      case enter f args => exact h.mono fun e w'' ⟨v, he, hv⟩ => ⟨v, he, hr _ _ hv⟩
      all_goals exact hr _ _ h
    | halt x w' => simp only [Oper.doesUpon] at h
  · rename_i hw
    rw [if_neg hw] at h
    exact hr _ _ h
theorem CallR.gen {f : FuncId} {args : Array Value} {w : World} {R : Value → World → Prop} (h : Calls P f args w fun e w' => ∃ v, e = .returned v ∧ Ext w w' ∧ R v w') : Calls P f args w (CallR (GenR w R)) := h

/-- One alone. -/
theorem Flow.one {listed : Array Bool} {C : World → Prop} {a : Act} (i : Nat) (o : Oper) (ho : ops[i]? = some o) (hr : (Region.ready .any ops listed == [i]) = true) (R : Value → World → Prop)
    (hR : ∀ v w w', R v w → Ext w w' → R v w') (h : ∀ w, C w → Keep X w0 w → does P ops o a w (ActR X w0 R))
    (k : ∀ v, (∃ w, R v w) → Flow P ops w0 Q X L (listed.setIfInBounds i true) (R v) (a.put o.dst v)) : Flow P ops w0 Q X L listed C a :=
  Flow.acts [i] hr (by simp) (fun _ => o) (fun _ => R) (fun _ => hR) (fun j hj => by obtain rfl : j = i := by simpa using hj
                                                                                     exact ⟨ho, h⟩) (fun j hj => by obtain rfl : j = i := by simpa using hj
                                                                                                                    exact k)
/-- i beside j. -/
theorem Flow.par2 {listed : Array Bool} {C : World → Prop} {a : Act} (i j : Nat) (oi oj : Oper) (hoi : ops[i]? = some oi) (hoj : ops[j]? = some oj) (hij : i ≠ j)
    (hsi : ∀ cs b, oi.op ≠ .select cs b) (hsj : ∀ cs b, oj.op ≠ .select cs b) (hap : oi.apart ops oj = true)
    (r0 : (Region.ready .any ops listed == [i, j]) = true) (r1 : (Region.ready .any ops (listed.setIfInBounds i true) == [j]) = true) (r2 : (Region.ready .any ops (listed.setIfInBounds j true) == [i]) = true)
    (A B : Value → World → Prop) (hC : ∀ w w', C w → Ext w w' → C w') (hA : ∀ v w w', A v w → Ext w w' → A v w') (hB : ∀ v w w', B v w → Ext w w' → B v w')
    (hi : ∀ w, C w → Keep X w0 w → does P ops oi a w (GenR w A)) (hj : ∀ w, C w → Keep X w0 w → does P ops oj a w (GenR w B))
    (k : ∀ vi vj, (∃ w, A vi w) → (∃ w, B vj w) → Flow P ops w0 Q X L ((listed.setIfInBounds i true).setIfInBounds j true) (fun w => C w ∧ A vi w ∧ B vj w) ((a.put oi.dst vi).put oj.dst vj)) :
    Flow P ops w0 Q X L listed C a := by
  have hs := Oper.apart_spec hap
  refine Flow.acts [i, j] r0 (by simp) (fun n => if n = i then oi else oj) (fun n v w => C w ∧ if n = i then A v w else B v w) ?_ ?_ ?_
  · intro n v w w' ⟨h1, h2⟩ hx
    refine ⟨hC _ _ h1 hx, ?_⟩
    split
    · rename_i e; rw [if_pos e] at h2; exact hA _ _ _ h2 hx
    · rename_i e; rw [if_neg e] at h2; exact hB _ _ _ h2 hx
  · intro n hn
    rcases (by simpa using hn : n = i ∨ n = j) with rfl | rfl
    · refine ⟨by simpa using hoi, fun w h1 h2 => ?_⟩
      simp only [if_true]
      exact does_mono (hi w h1 h2) fun v w' ⟨hx, hv⟩ => ⟨h2.ext_r hx, hC _ _ h1 hx, by simpa using hv⟩
    · refine ⟨by simpa [Ne.symm hij] using hoj, fun w h1 h2 => ?_⟩
      simp only [Ne.symm hij, if_false]
      exact does_mono (hj w h1 h2) fun v w' ⟨hx, hv⟩ => ⟨h2.ext_r hx, hC _ _ h1 hx, by simpa [Ne.symm hij] using hv⟩
  · intro n hn v hv
    rcases (by simpa using hn : n = i ∨ n = j) with rfl | rfl
    · simp only [if_true] at hv ⊢
      obtain ⟨w1, _, hv1⟩ := hv
      refine Flow.acts [j] r1 (by simp) (fun _ => oj) (fun _ u w => C w ∧ A v w ∧ B u w) (fun _ u w w' ⟨h1, h2, h3⟩ hx => ⟨hC _ _ h1 hx, hA _ _ _ h2 hx, hB _ _ _ h3 hx⟩) ?_ ?_
      · intro m hm
        obtain rfl : m = j := by simpa using hm
        refine ⟨hoj, fun w ⟨h1, h2⟩ h3 => ?_⟩
        rw [does_put hsj hs.1]
        exact does_mono (hj w h1 h3) fun u w' ⟨hx, hu⟩ => ⟨h3.ext_r hx, hC _ _ h1 hx, hA _ _ _ h2 hx, hu⟩
      · intro m hm u ⟨w2, _, _, hu⟩
        obtain rfl : m = j := by simpa using hm
        exact k v u ⟨w1, hv1⟩ ⟨w2, hu⟩
    · simp only [Ne.symm hij, if_false] at hv ⊢
      obtain ⟨w1, _, hv1⟩ := hv
      refine Flow.acts [i] r2 (by simp) (fun _ => oi) (fun _ u w => C w ∧ A u w ∧ B v w) (fun _ u w w' ⟨h1, h2, h3⟩ hx => ⟨hC _ _ h1 hx, hA _ _ _ h2 hx, hB _ _ _ h3 hx⟩) ?_ ?_
      · intro m hm
        obtain rfl : m = i := by simpa using hm
        refine ⟨hoi, fun w ⟨h1, h2⟩ h3 => ?_⟩
        rw [does_put hsi hs.2.2]
        exact does_mono (hi w h1 h3) fun u w' ⟨hx, hu⟩ => ⟨h3.ext_r hx, hC _ _ h1 hx, hu, hB _ _ _ h2 hx⟩
      · intro m hm u ⟨w2, _, hu, _⟩
        obtain rfl : m = i := by simpa using hm
        have := k u v ⟨w2, hu⟩ ⟨w1, hv1⟩
        rw [Array.setIfInBounds_comm _ _ hij, Act.put_comm a u v hs.2.1] at this
        exact this

/-- i beside j and, behind it, k. -/
theorem Flow.par3 {listed : Array Bool} {C : World → Prop} {a : Act} (i j m : Nat) (oi oj om : Oper) (hoi : ops[i]? = some oi) (hoj : ops[j]? = some oj) (hom : ops[m]? = some om) (hij : i ≠ j) (him : i ≠ m)
    (hsi : ∀ cs b, oi.op ≠ .select cs b) (hsj : ∀ cs b, oj.op ≠ .select cs b) (hsm : ∀ cs b, om.op ≠ .select cs b) (hap : oi.apart ops oj = true) (hap2 : oi.apart ops om = true)
    (r0 : (Region.ready .any ops listed == [i, j]) = true) (r1 : (Region.ready .any ops (listed.setIfInBounds i true) == [j]) = true) (r2 : (Region.ready .any ops ((listed.setIfInBounds i true).setIfInBounds j true) == [m]) = true)
    (r3 : (Region.ready .any ops (listed.setIfInBounds j true) == [i, m]) = true) (r4 : (Region.ready .any ops ((listed.setIfInBounds j true).setIfInBounds m true) == [i]) = true) 
    (A B : Value → World → Prop) (D : Value → Value → World → Prop) (hC : ∀ w w', C w → Ext w w' → C w') (hA : ∀ v w w', A v w → Ext w w' → A v w') (hB : ∀ v w w', B v w → Ext w w' → B v w') (hD : ∀ u v w w', D u v w → Ext w w' → D u v w')
    (hi : ∀ w, C w → Keep X w0 w → does P ops oi a w (GenR w A)) (hj : ∀ w, C w → Keep X w0 w → does P ops oj a w (GenR w B))
    (hm : ∀ vj w, C w → B vj w → Keep X w0 w → does P ops om (a.put oj.dst vj) w (GenR w (D vj)))
    (k : ∀ vi vj vm, (∃ w, A vi w) → (∃ w, B vj w) → (∃ w, D vj vm w) → Flow P ops w0 Q X L (((listed.setIfInBounds i true).setIfInBounds j true).setIfInBounds m true) (fun w => C w ∧ A vi w ∧ B vj w ∧ D vj vm w) (((a.put oi.dst vi).put oj.dst vj).put om.dst vm)) :
    Flow P ops w0 Q X L listed C a := by
  have hs := Oper.apart_spec hap
  have hs2 := Oper.apart_spec hap2
  -- both done, then m
  have both : ∀ vi vj, (∃ w, A vi w) → (∃ w, B vj w) → Flow P ops w0 Q X L ((listed.setIfInBounds i true).setIfInBounds j true) (fun w => C w ∧ A vi w ∧ B vj w) ((a.put oi.dst vi).put oj.dst vj) := by
    intro vi vj h1 h2
    refine Flow.acts [m] r2 (by simp) (fun _ => om) (fun _ u w => C w ∧ A vi w ∧ B vj w ∧ D vj u w) (fun _ u w w' ⟨h1, h2, h3, h4⟩ hx => ⟨hC _ _ h1 hx, hA _ _ _ h2 hx, hB _ _ _ h3 hx, hD _ _ _ _ h4 hx⟩) ?_ ?_
    · intro n hn
      obtain rfl : n = m := by simpa using hn
      refine ⟨hom, fun w ⟨h1, h2, h3⟩ h4 => ?_⟩
      rw [Act.put_comm a vi vj hs.2.1, does_put hsm hs2.1]
      exact does_mono (hm vj w h1 h3 h4) fun u w' ⟨hx, hu⟩ => ⟨h4.ext_r hx, hC _ _ h1 hx, hA _ _ _ h2 hx, hB _ _ _ h3 hx, hu⟩
    · intro n hn u ⟨w2, _, _, _, hu⟩
      obtain rfl : n = m := by simpa using hn
      exact k vi vj u h1 h2 ⟨w2, hu⟩
  refine Flow.acts [i, j] r0 (by simp) (fun n => if n = i then oi else oj) (fun n v w => C w ∧ if n = i then A v w else B v w) ?_ ?_ ?_
  · intro n v w w' ⟨h1, h2⟩ hx
    refine ⟨hC _ _ h1 hx, ?_⟩
    split
    · rename_i e; rw [if_pos e] at h2; exact hA _ _ _ h2 hx
    · rename_i e; rw [if_neg e] at h2; exact hB _ _ _ h2 hx
  · intro n hn
    rcases (by simpa using hn : n = i ∨ n = j) with rfl | rfl
    · refine ⟨by simpa using hoi, fun w h1 h2 => ?_⟩
      simp only [if_true]
      exact does_mono (hi w h1 h2) fun v w' ⟨hx, hv⟩ => ⟨h2.ext_r hx, hC _ _ h1 hx, by simpa using hv⟩
    · refine ⟨by simpa [Ne.symm hij] using hoj, fun w h1 h2 => ?_⟩
      simp only [Ne.symm hij, if_false]
      exact does_mono (hj w h1 h2) fun v w' ⟨hx, hv⟩ => ⟨h2.ext_r hx, hC _ _ h1 hx, by simpa [Ne.symm hij] using hv⟩
  · intro n hn v hv
    rcases (by simpa using hn : n = i ∨ n = j) with rfl | rfl
    · simp only [if_true] at hv ⊢
      obtain ⟨w1, _, hv1⟩ := hv
      refine Flow.acts [j] r1 (by simp) (fun _ => oj) (fun _ u w => C w ∧ A v w ∧ B u w) (fun _ u w w' ⟨h1, h2, h3⟩ hx => ⟨hC _ _ h1 hx, hA _ _ _ h2 hx, hB _ _ _ h3 hx⟩) ?_ ?_
      · intro m hm
        obtain rfl : m = j := by simpa using hm
        refine ⟨hoj, fun w ⟨h1, h2⟩ h3 => ?_⟩
        rw [does_put hsj hs.1]
        exact does_mono (hj w h1 h3) fun u w' ⟨hx, hu⟩ => ⟨h3.ext_r hx, hC _ _ h1 hx, hA _ _ _ h2 hx, hu⟩
      · intro m hm u ⟨w2, _, _, hu⟩
        obtain rfl : m = j := by simpa using hm
        exact both v u ⟨w1, hv1⟩ ⟨w2, hu⟩
    · simp only [Ne.symm hij, if_false] at hv ⊢
      obtain ⟨w1, _, hv1⟩ := hv
      refine Flow.acts [i, m] r3 (by simp) (fun q => if q = i then oi else om) (fun q u w => C w ∧ B v w ∧ if q = i then A u w else D v u w) ?_ ?_ ?_
      · intro q u w w' ⟨h1, h2, h3⟩ hx
        refine ⟨hC _ _ h1 hx, hB _ _ _ h2 hx, ?_⟩
        split
        · rename_i e; rw [if_pos e] at h3; exact hA _ _ _ h3 hx
        · rename_i e; rw [if_neg e] at h3; exact hD _ _ _ _ h3 hx
      · intro q hq
        rcases (by simpa using hq : q = i ∨ q = m) with rfl | rfl
        · refine ⟨by simpa using hoi, fun w ⟨h1, h2⟩ h3 => ?_⟩
          simp only [if_true]
          rw [does_put hsi hs.2.2]
          exact does_mono (hi w h1 h3) fun u w' ⟨hx, hu⟩ => ⟨h3.ext_r hx, hC _ _ h1 hx, hB _ _ _ h2 hx, by simpa using hu⟩
        · refine ⟨by simpa [Ne.symm him] using hom, fun w ⟨h1, h2⟩ h3 => ?_⟩
          simp only [Ne.symm him, if_false]
          exact does_mono (hm v w h1 h2 h3) fun u w' ⟨hx, hu⟩ => ⟨h3.ext_r hx, hC _ _ h1 hx, hB _ _ _ h2 hx, by simpa [Ne.symm him] using hu⟩
      · intro q hq u hu
        rcases (by simpa using hq : q = i ∨ q = m) with rfl | rfl
        · simp only [if_true] at hu ⊢
          obtain ⟨w2, _, _, hu2⟩ := hu
          have := both u v ⟨w2, hu2⟩ ⟨w1, hv1⟩
          rw [Array.setIfInBounds_comm _ _ hij, Act.put_comm a u v hs.2.1] at this
          exact Flow.mono this fun w ⟨h1, h2, h3⟩ => ⟨h1, h3, h2⟩
        · simp only [Ne.symm him, if_false] at hu ⊢
          obtain ⟨w2, _, _, hu2⟩ := hu
          refine Flow.acts [i] r4 (by simp) (fun _ => oi) (fun _ x w => C w ∧ A x w ∧ B v w ∧ D v u w) (fun _ x w w' ⟨h1, h2, h3, h4⟩ hx => ⟨hC _ _ h1 hx, hA _ _ _ h2 hx, hB _ _ _ h3 hx, hD _ _ _ _ h4 hx⟩) ?_ ?_
          · intro q hq
            obtain rfl : q = i := by simpa using hq
            refine ⟨hoi, fun w ⟨h1, h2, h3⟩ h4 => ?_⟩
            rw [does_put hsi hs2.2.2, does_put hsi hs.2.2]
            exact does_mono (hi w h1 h4) fun x w' ⟨hx, hv⟩ => ⟨h4.ext_r hx, hC _ _ h1 hx, hv, hB _ _ _ h2 hx, hD _ _ _ _ h3 hx⟩
          · intro q hq x ⟨w3, _, hx, _, _⟩
            obtain rfl : q = i := by simpa using hq
            have := k x v u ⟨w3, hx⟩ ⟨w1, hv1⟩ ⟨w2, hu2⟩
            rw [Array.setIfInBounds_comm _ _ hij, Array.setIfInBounds_comm _ _ him, Act.put_comm a x v hs.2.1, Act.put_comm _ x u hs2.2.1] at this
            exact this
end
end Go.Proofs.YtcfopaopcbjkeaaDoor
