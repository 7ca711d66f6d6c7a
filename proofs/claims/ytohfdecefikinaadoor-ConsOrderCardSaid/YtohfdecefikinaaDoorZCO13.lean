/- Texts of one proof, put together: W2 W3 Par2 UY. -/
import Derived.Test.YtohfdecefikinaaDoorZCO04
import Derived.Test.YtohfdecefikinaaDoorZCO07
import Derived.Test.YtohfdecefikinaaDoorZCO12

/- The reference's names. -/
namespace Go.Proofs.YtohfdecefikinaaDoor
set_option linter.unusedSimpArgs false
set_option linter.unusedVariables false
open Go Go.RowKit Go.Shelf
open Go.Lib (trimS trimLeftS trimRightS toList_data)

theorem dw_nil {p : UInt8 → Bool} : ∀ l : List UInt8, (∀ x ∈ l, p x = true) → l.dropWhile p = []
  | [], _ => rfl
  | a :: l, h => by
    rw [List.dropWhile_cons, h a (List.mem_cons_self ..)]
    exact dw_nil l fun x hx => h x (List.mem_cons_of_mem _ hx)
theorem dw_mem {p : UInt8 → Bool} : ∀ (l : List UInt8) (b : UInt8), b ∈ l → p b = false → ∃ a r, l.dropWhile p = a :: r ∧ p a = false
  | a :: l, b, hb, hp => by
    cases ha : p a with
    | false => exact ⟨a, l, by rw [List.dropWhile_cons, ha]; rfl, ha⟩
    | true =>
      rcases List.mem_cons.1 hb with rfl | hb
      · rw [ha] at hp; cases hp
      · rw [List.dropWhile_cons, ha]
        exact dw_mem l b hb hp
theorem trimS_nil (l cs : List UInt8) : trimS l cs = [] ↔ ∀ b ∈ l, cs.contains b = true := by
  unfold trimS trimLeftS trimRightS
  constructor
  · intro h b hb
    cases hp : cs.contains b with
    | true => rfl
    | false =>
      obtain ⟨a, r, he, ha⟩ := dw_mem (p := (cs.contains ·)) l.reverse b (List.mem_reverse.2 hb) hp
      rw [he] at h
      obtain ⟨a2, r2, he2, _⟩ := dw_mem (p := (cs.contains ·)) (a :: r).reverse a (List.mem_reverse.2 (List.mem_cons_self ..)) ha
      rw [he2] at h
      cases h
  · intro h
    rw [dw_nil (p := (cs.contains ·)) l.reverse fun x hx => h x (List.mem_reverse.1 hx)]
    rfl
def okAt (b k : Nat) : Bool := (decide (97 ≤ b) && decide (b ≤ 122)) || (decide (48 ≤ b) && decide (b ≤ 57) && !decide (k = 0))
theorem letters_has (b : UInt8) : lettersS.data.toList.contains b = ((decide (97 ≤ b.toNat) && decide (b.toNat ≤ 122)) || (decide (48 ≤ b.toNat) && decide (b.toNat ≤ 57))) := by
  have h : ∀ n, n < 256 → lettersS.data.toList.contains (UInt8.ofNat n) = ((decide (97 ≤ n) && decide (n ≤ 122)) || (decide (48 ≤ n) && decide (n ≤ 57))) := by decide +kernel
  have := h b.toNat b.toNat_lt
  rwa [UInt8.ofNat_toNat] at this
theorem nameRest_iff (s : ByteArray) : nameRest s = true ↔ ∀ (k : Nat) (h : k < s.size), lettersS.data.toList.contains s[k] = true := by
  unfold nameRest eqB
  rw [beq_iff_eq, toList_data, toList_data]
  show trimS s.data.toList lettersS.data.toList = [] ↔ _
  rw [trimS_nil]
  constructor
  · intro h k hk
    refine h _ ?_
    have : s.data.toList[k]? = some s[k] := by
      rw [List.getElem?_eq_getElem (by simpa using hk)]
      rfl
    exact List.mem_of_getElem? this
  · intro h b hb
    obtain ⟨k, hk, e⟩ := List.mem_iff_getElem.1 hb
    have hk' : k < s.size := by simpa using hk
    have := h k hk'
    rwa [show s[k] = b from e] at this
theorem nameOk_iff (s : ByteArray) : nameOk s = true ↔ memB s reserved = false ∧ 1 ≤ s.size ∧ s.size ≤ 8 ∧ ∀ (k : Nat) (h : k < s.size), okAt s[k].toNat k = true := by
  unfold nameOk
  simp only [Bool.and_eq_true, Bool.not_eq_true', decide_eq_true_eq]
  rw [nameRest_iff]
  have he : s.toList.isEmpty = false ↔ 1 ≤ s.size := by
    rw [toList_data]
    have hl : s.data.toList.length = s.size := by simp
    cases h : s.data.toList with
    | nil =>
      have hz : s.size = 0 := by rw [← hl, h]; rfl
      exact ⟨fun h => (by cases h), fun h => by omega⟩
    | cons a r =>
      have hz : s.size = r.length + 1 := by rw [← hl, h]; rfl
      exact ⟨fun _ => by omega, fun _ => rfl⟩
  rw [he]
  constructor
  · rintro ⟨h1, ⟨⟨⟨⟨h2, h3⟩, h4⟩, h5⟩, h6⟩⟩
    refine ⟨h1, h2, h3, fun k hk => ?_⟩
    have h7 := h6 k hk
    rw [letters_has] at h7
    unfold okAt
    by_cases h0 : k = 0
    · subst h0
      have hf : first s = s[0].toNat := by unfold first; rw [dif_pos hk]
      rw [hf] at h4 h5
      simp [h4, h5]
    · simp only [h0, decide_false, Bool.not_false, Bool.and_true]
      exact h7
  · rintro ⟨h1, h2, h3, h4⟩
    have hz : 0 < s.size := h2
    have hf : first s = s[0].toNat := by unfold first; rw [dif_pos hz]
    have h0 := h4 0 hz
    unfold okAt at h0
    simp at h0
    refine ⟨h1, ⟨⟨⟨⟨h2, h3⟩, by rw [hf]; exact h0.1⟩, by rw [hf]; exact h0.2⟩, fun k hk => ?_⟩⟩
    have h5 := h4 k hk
    rw [letters_has]
    unfold okAt at h5
    simp only [Bool.or_eq_true, Bool.and_eq_true] at h5 ⊢
    exact h5.imp id fun h => h.1

end Go.Proofs.YtohfdecefikinaaDoor


/- The reference's statements. -/
namespace Go.Proofs.YtohfdecefikinaaDoor
set_option linter.unusedSimpArgs false
set_option linter.unusedVariables false
open Go Go.RowKit

end Go.Proofs.YtohfdecefikinaaDoor

/- One that acts floats beside two that act in a row. -/
namespace Go.Proofs.YtohfdecefikinaaDoor
set_option linter.unusedSimpArgs false
set_option linter.unusedVariables false
open Go Go.RowKit
section
variable {P : Program} {ops : Array Oper} {X : Nat → Prop} {w0 : World} {Q : Act → World → Prop} {L : List Nat}

/-- j, then m; i whenever. -/
theorem Flow.par3g {listed : Array Bool} {C : World → Prop} {a : Act} (j m i : Nat) (oj om oi : Oper) (hoj : ops[j]? = some oj) (hom : ops[m]? = some om) (hoi : ops[i]? = some oi) (hij : i ≠ j) (him : i ≠ m)
    (hsi : ∀ cs b, oi.op ≠ .select cs b) (hsj : ∀ cs b, oj.op ≠ .select cs b) (hsm : ∀ cs b, om.op ≠ .select cs b) (hap : oi.apart ops oj = true) (hap2 : oi.apart ops om = true)
    (r0 : (Region.ready .any ops listed == [j, i]) = true) (r1 : (Region.ready .any ops (listed.setIfInBounds i true) == [j]) = true) (r2 : (Region.ready .any ops ((listed.setIfInBounds i true).setIfInBounds j true) == [m]) = true)
    (r3 : (Region.ready .any ops (listed.setIfInBounds j true) == [m, i]) = true)
    (A B : Value → World → Prop) (AB D : Value → Value → World → Prop) (F : Value → Value → Value → World → Prop)
    (sA : ∀ v w w', A v w → Ext w w' → A v w') (sB : ∀ v w w', B v w → Ext w w' → B v w') (sAB : ∀ u v w w', AB u v w → Ext w w' → AB u v w') (sD : ∀ u v w w', D u v w → Ext w w' → D u v w') (sF : ∀ t u v w w', F t u v w → Ext w w' → F t u v w')
    (i0 : ∀ w, C w → Keep X w0 w → does P ops oi a w (ActR X w0 A))
    (j0 : ∀ w, C w → Keep X w0 w → does P ops oj a w (ActR X w0 B))
    (i1 : ∀ vj w, B vj w → Keep X w0 w → does P ops oi a w (ActR X w0 fun v => AB v vj))
    (j1 : ∀ vi w, A vi w → Keep X w0 w → does P ops oj a w (ActR X w0 (AB vi)))
    (m1 : ∀ vj w, B vj w → Keep X w0 w → does P ops om (a.put oj.dst vj) w (ActR X w0 (D vj)))
    (m2 : ∀ vi vj w, AB vi vj w → Keep X w0 w → does P ops om (a.put oj.dst vj) w (ActR X w0 (F vi vj)))
    (k1 : ∀ vi vj vm, (∃ w, F vi vj vm w) → Flow P ops w0 Q X L (((listed.setIfInBounds i true).setIfInBounds j true).setIfInBounds m true) (F vi vj vm) (((a.put oi.dst vi).put oj.dst vj).put om.dst vm))
    (k2 : ∀ vj vm, (∃ w, D vj vm w) → Flow P ops w0 Q X L ((listed.setIfInBounds j true).setIfInBounds m true) (D vj vm) ((a.put oj.dst vj).put om.dst vm)) :
    Flow P ops w0 Q X L listed C a := by
  have hs := Oper.apart_spec hap
  have hs2 := Oper.apart_spec hap2
  -- both done, then m
  have both : ∀ vi vj, Flow P ops w0 Q X L ((listed.setIfInBounds i true).setIfInBounds j true) (AB vi vj) ((a.put oi.dst vi).put oj.dst vj) := by
    intro vi vj
    refine Flow.acts [m] r2 (by simp) (fun _ => om) (fun _ u w => F vi vj u w) (fun _ u w w' h hx => sF _ _ _ _ _ h hx) ?_ ?_
    · intro n hn
      obtain rfl : n = m := by simpa using hn
      refine ⟨hom, fun w h h4 => ?_⟩
      rw [Act.put_comm a vi vj hs.2.1, does_put hsm hs2.1]
      exact m2 vi vj w h h4
    · intro n hn u hu
      obtain rfl : n = m := by simpa using hn
      exact k1 vi vj u hu
  refine Flow.acts [j, i] r0 (by simp) (fun n => if n = i then oi else oj) (fun n v w => if n = i then A v w else B v w) ?_ ?_ ?_
  · intro n v w w' h2 hx
    try simp only at h2 ⊢
    split
    · rename_i e; rw [if_pos e] at h2; exact sA _ _ _ h2 hx
    · rename_i e; rw [if_neg e] at h2; exact sB _ _ _ h2 hx
  · intro n hn
    rcases (by simpa using hn : n = j ∨ n = i) with rfl | rfl
    · refine ⟨by simpa [Ne.symm hij] using hoj, fun w h1 h2 => ?_⟩
      simp only [Ne.symm hij, if_false]
      exact j0 w h1 h2
    · refine ⟨by simpa using hoi, fun w h1 h2 => ?_⟩
      simp only [if_true]
      exact i0 w h1 h2
  · intro n hn v hv
    rcases (by simpa using hn : n = j ∨ n = i) with rfl | rfl
    · simp only [Ne.symm hij, if_false] at hv ⊢
      refine Flow.acts [m, i] r3 (by simp) (fun q => if q = i then oi else om) (fun q u w => if q = i then AB u v w else D v u w) ?_ ?_ ?_
      · intro q u w w' h3 hx
        try simp only at h3 ⊢
        split
        · rename_i e; rw [if_pos e] at h3; exact sAB _ _ _ _ h3 hx
        · rename_i e; rw [if_neg e] at h3; exact sD _ _ _ _ h3 hx
      · intro q hq
        rcases (by simpa using hq : q = m ∨ q = i) with rfl | rfl
        · refine ⟨by simpa [Ne.symm him] using hom, fun w h1 h3 => ?_⟩
          simp only [Ne.symm him, if_false]
          exact m1 v w h1 h3
        · refine ⟨by simpa using hoi, fun w h1 h3 => ?_⟩
          simp only [if_true]
          rw [does_put hsi hs.2.2]
          exact i1 v w h1 h3
      · intro q hq u hu
        rcases (by simpa using hq : q = m ∨ q = i) with rfl | rfl
        · simp only [Ne.symm him, if_false] at hu ⊢
          exact k2 v u hu
        · simp only [if_true] at hu ⊢
          have := both u v
          rw [Array.setIfInBounds_comm _ _ hij, Act.put_comm a u v hs.2.1] at this
          exact this
    · simp only [if_true] at hv ⊢
      refine Flow.acts [j] r1 (by simp) (fun _ => oj) (fun _ u w => AB v u w) (fun _ u w w' h hx => sAB _ _ _ _ h hx) ?_ ?_
      · intro n hn
        obtain rfl : n = j := by simpa using hn
        refine ⟨hoj, fun w h2 h3 => ?_⟩
        rw [does_put hsj hs.1]
        exact j1 v w h2 h3
      · intro n hn u hu
        obtain rfl : n = j := by simpa using hn
        exact both v u
end
end Go.Proofs.YtohfdecefikinaaDoor


/- Runs: what a new thing does. -/
namespace Go.Proofs.YtohfdecefikinaaDoor
set_option linter.unusedSimpArgs false
set_option linter.unusedVariables false
open Go Go.RowKit

/-- append of one element to a row of one's own, where the order is left open. -/
theorem does_append_el {ops : Array Oper} {o : Oper} {a : Act} {w : World} {R : Value → World → Prop} (base : Nat) (hbase : base ≤ w.heap.size) (t e : TypeId) (z : Value) (size bytes : Nat) (ht : Tryd.prog.underlying t = some (.slice e)) (hinf : (Tryd.prog.info? e).map (fun i => (i.zero, i.size, i.bytes)) = some (some z, size, bytes)) (hz1 : z.cells.size = size) (hsz : 0 < size)
    (hb8 : bytes ≤ 64) (hg : o.guard = none) (s x : Operand) (ho : o.op = .call { callee := .builtin .append, args := #[s, x], argTypes := #[t, t] })
    (v : Value) (n : Nat) (xs : List Value) (hs : a.eval s = v) (hown : w.ownsRow base e size v n xs) (g : Nat) (us : List Value) (hul : us.length = size) (hu : ∀ u ∈ us, u.oneCell' = true) (hx : a.eval x = .slice (some ⟨g, 0, none⟩) 1 1) (hb : Blk w g us.toArray e) (hl : n ≤ 1000000)
    (h : ∀ v' w', w'.ownsRow base e size v' (n + 1) (xs ++ us) → Keep (fun k => v.ownBlock = some k) w w' → (v'.ownBlock = v.ownBlock ∨ v'.ownBlock = some w.heap.size) → R v' w') : does Tryd.prog ops o a w R := by
  obtain ⟨ti, hi, hz0, hz, hz2⟩ := info_parts hinf
  obtain ⟨v', w', hr, h2, h3, _, h4⟩ := run_append_own_at (P := Tryd.prog) w base t o.type e ti z size bytes ht hi hz0 hz hz2 hz1 hsz v n xs hown ⟨g, 0, none⟩ 1 1 us (by rw [hul]; omega) (fun j q hq => by
    rw [show (⟨g, 0, none⟩ : Addr).add j = ⟨g, j, none⟩ from by by_cases h0 : j = 0 <;> simp [Addr.add, h0], hb.cell j]
    simpa using hq) hu (by simp only [maxLen]; omega) (by
      have : (n + 1) * bytes ≤ (n + 1) * 64 := Nat.mul_le_mul_left _ hb8
      omega) hbase
  exact does_of_run hg (run_exec_append s x t ho hs hx hr) (h v' w' h2 (grown_keep h3) h4)

section
variable {P : Program} {ops : Array Oper} {X : Nat → Prop} {w0 : World} {Q : Act → World → Prop} {L : List Nat}
/-- From here on other blocks may be written, by number. -/
theorem Flow.turn1 {listed : Array Bool} {C : World → Prop} {a : Act} (Y : Nat → Prop) (i : Nat) (o : Oper) (ho : ops[i]? = some o) (hr : (Region.ready .any ops listed == [i]) = true)
    (hw : ((List.range listed.size).all fun j => !listed.getD j false || (L.contains j || waits2B ops i j)) = true) (R : Value → World → Prop)
    (hR : ∀ v w w', R v w → Ext w w' → R v w') (h : ∀ w, C w → Keep X w0 w → does P ops o a w (ActR Y w0 R))
    (k : ∀ v, (∃ w, R v w) → Flow P ops w0 Q Y L (listed.setIfInBounds i true) (R v) (a.put o.dst v)) : Flow P ops w0 Q X L listed C a :=
  Flow.turn Y i o R ho (by simpa using hr) (fun j hj => by
    have hjs : j < listed.size := by
      rcases Nat.lt_or_ge j listed.size with h | h
      · exact h
      · rw [Array.getD_eq_getD_getElem?, Array.getElem?_eq_none h] at hj; cases hj
    have h1 := List.all_eq_true.1 hw j (List.mem_range.2 hjs)
    rw [hj] at h1
    simp only [Bool.not_true, Bool.false_or, Bool.or_eq_true] at h1
    exact h1.imp (fun h => by simpa using h) waits2_of) h (fun v hv => Flow.mono (k v hv) fun _ ⟨_, hw, he⟩ => hR _ _ _ hw he)
theorem Flow.l {listed : Array Bool} {C : World → Prop} {a : Act} {v : Value} (i : Nat) (o : Oper) (ho : ops[i]? = some o) (hr : (Region.ready .any ops listed).contains i = true)
    (h : ∀ w, does P ops o a w (DetR v w)) (k : Flow P ops w0 Q X (i :: L) (listed.setIfInBounds i true) C (a.put o.dst v)) : Flow P ops w0 Q X L listed C a :=
  Flow.loose i o v ho (by simpa using hr) h k
end
/-- One number in a new block; one value that is none. -/
def IntOne (k : Nat) (u : Value) (w : World) : Prop := ∃ b, u = .slice (some ⟨b, 0, none⟩) 1 1 ∧ Blk w b #[.int .i64 (k : Int)] 3
theorem IntOne.ext {k : Nat} {u : Value} {w w' : World} (h : IntOne k u w) (x : Ext w w') : IntOne k u w' := by
  obtain ⟨b, e, hb⟩ := h
  exact ⟨b, e, hb.ext x⟩
theorem IntOne.mk (k : Nat) (w : World) : IntOne k (.slice (some ⟨w.heap.size, 0, none⟩) 1 1) (w.alloc (.cells #[.int .i64 (k : Int)] 3)) := ⟨_, rfl, Blk.new _ _ _⟩
end Go.Proofs.YtohfdecefikinaaDoor
