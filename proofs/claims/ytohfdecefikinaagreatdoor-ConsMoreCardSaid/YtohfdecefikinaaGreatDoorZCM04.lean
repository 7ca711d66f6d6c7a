/- Texts of one proof, put together: FP Ow2 Par F7. -/
import Derived.Test.YtohfdecefikinaaGreatDoorZCM01
import Derived.Test.YtohfdecefikinaaGreatDoorZCM03

/- The frame, plainly: its text tells it; a text is a frame's or none. -/
namespace Go.Proofs.YtohfdecefikinaaGreatDoor
set_option linter.unusedSimpArgs false
set_option linter.unusedVariables false
open Go Go.RowKit

theorem ofNat_inj {a b : Nat} (ha : a < 256) (hb : b < 256) (h : UInt8.ofNat a = UInt8.ofNat b) : a = b := by
  have := congrArg UInt8.toNat h
  simp only [UInt8.toNat_ofNat'] at this
  omega
theorem ofNat_byte (b : UInt8) : UInt8.ofNat b.toNat = b := by simp
theorem high4_inj {a b : Nat} (ha : a < 4294967296) (hb : b < 4294967296) (h : high4 a = high4 b) : a = b := by
  simp only [high4, List.cons.injEq, and_true] at h
  obtain ⟨h1, h2, h3, h4⟩ := h
  have g1 := congrArg UInt8.toNat h1
  have g2 := congrArg UInt8.toNat h2
  have g3 := congrArg UInt8.toNat h3
  have g4 := congrArg UInt8.toNat h4
  simp only [UInt8.toNat_ofNat'] at g1 g2 g3 g4
  omega
theorem high4_len (n : Nat) : (high4 n).length = 4 := rfl
theorem low4_len (n : Nat) : (low4 n).length = 4 := rfl
theorem num4_lt (a b c d : UInt8) : num4 a b c d < 4294967296 := by
  have h0 := byte_lt a
  have h1 := byte_lt b
  have h2 := byte_lt c
  have h3 := byte_lt d
  unfold num4; omega
theorem high4_num4 (a b c d : UInt8) : high4 (num4 a b c d) = [a, b, c, d] := by
  have h0 := byte_lt a
  have h1 := byte_lt b
  have h2 := byte_lt c
  have h3 := byte_lt d
  simp only [high4, num4, List.cons.injEq, and_true]
  refine ⟨?_, ?_, ?_, ?_⟩ <;> apply UInt8.toNat_inj.1 <;> simp only [UInt8.toNat_ofNat'] <;> omega
theorem num4_high4 (n : Nat) (hn : n < 4294967296) : num4 (UInt8.ofNat (n / 16777216)) (UInt8.ofNat (n / 65536)) (UInt8.ofNat (n / 256)) (UInt8.ofNat n) = n := by
  unfold num4
  simp only [UInt8.toNat_ofNat']
  omega
theorem text_7 (f : Fr) : f.text[7]? = some (UInt8.ofNat f.nums.length) := by
  simp [Fr.text, Fr.body, high4]

theorem flat_len (nums : List Int) : (nums.flatMap fun n => high4 n.toNat).length = 4 * nums.length := by
  induction nums with
  | nil => rfl
  | cons n l ih => simp only [List.flatMap_cons, List.length_append, ih, high4_len, List.length_cons]; omega
theorem Fr.body_len (f : Fr) : f.body.length = 8 + 4 * f.nums.length := by
  unfold Fr.body
  simp only [List.length_append, flat_len, high4_len, List.length_cons, List.length_nil]
theorem Fr.text_len (f : Fr) : f.text.length = 12 + 4 * f.nums.length := by
  unfold Fr.text
  rw [List.length_append, Fr.body_len, low4_len]; omega
theorem flat_inj : ∀ {l m : List Int}, (∀ n ∈ l, 0 ≤ n ∧ n ≤ 4294967295) → (∀ n ∈ m, 0 ≤ n ∧ n ≤ 4294967295) → l.length = m.length → (l.flatMap fun n => high4 n.toNat) = (m.flatMap fun n => high4 n.toNat) → l = m
  | [], [], _, _, _, _ => rfl
  | [], _ :: _, _, _, h, _ => by simp at h
  | _ :: _, [], _, _, h, _ => by simp at h
  | a :: l, b :: m, ha, hb, h, e => by
    simp only [List.flatMap_cons] at e
    obtain ⟨e1, e2⟩ := List.append_inj e (by rw [high4_len, high4_len])
    have h1 := ha a (by simp)
    have h2 := hb b (by simp)
    have h3 := high4_inj (by omega) (by omega) e1
    rw [flat_inj (fun n hn => ha n (by simp [hn])) (fun n hn => hb n (by simp [hn])) (by simpa using h) e2, show a = b by omega]
/-- All that a text can hold. -/
structure Fr.Fits (f : Fr) : Prop where
  fr : 0 ≤ f.fr ∧ f.fr ≤ 255
  to : 0 ≤ f.to ∧ f.to ≤ 255
  seq : 0 ≤ f.seq ∧ f.seq ≤ 4294967295
  nums : ∀ n ∈ f.nums, 0 ≤ n ∧ n ≤ 4294967295
theorem Fr.body_inj {f g : Fr} (hf : f.Fits) (hg : g.Fits) (hl : f.nums.length = g.nums.length) (h1 : f.body = g.body) : f = g := by
  obtain ⟨a1, a2, a3, a4⟩ := hf
  obtain ⟨b1, b2, b3, b4⟩ := hg
  obtain ⟨k, x, y, s, l⟩ := f
  obtain ⟨k', x', y', s', l'⟩ := g
  unfold Fr.body at h1
  simp only at *
  obtain ⟨h2, h3⟩ := List.append_inj h1 (by simp [high4_len])
  obtain ⟨h4, h5⟩ := List.append_inj h2 (by simp [high4_len])
  obtain ⟨h6, h7⟩ := List.append_inj h4 (by simp)
  simp only [List.cons.injEq, and_true] at h6
  obtain ⟨c1, c2, c3⟩ := h6
  have d2 := ofNat_inj (by omega) (by omega) c2
  have d3 := ofNat_inj (by omega) (by omega) c3
  have d4 := high4_inj (by omega) (by omega) h7
  have d5 := flat_inj a4 b4 hl h3
  clear h1 h2 h3 h4 h5 h7 a4 b4
  obtain rfl := c1
  obtain rfl : x = x' := by omega
  obtain rfl : y = y' := by omega
  obtain rfl : s = s' := by omega
  rw [d5]
theorem near_of {l : List Int} (h : anyFar l = false) : ∀ n ∈ l, 0 ≤ n ∧ n ≤ 2147483648 := by
  intro n hn
  have := List.any_eq_false.1 h n hn
  simpa [farB] using this
theorem Fr.fits_of {f : Fr} (h : f.code = 0) : f.Fits := by
  obtain ⟨a1, ⟨a2, a3⟩, ⟨a4, a5⟩, ⟨a6, a7⟩, a8, a9, a10⟩ := Fr.code_zero h
  exact ⟨by omega, by omega, by omega, fun n hn => by have := near_of a8 n hn; omega⟩
/-! ### what a text tells -/
def frOf (s : ByteArray) : Fr := ⟨at8 s 0, (at8 s 1).toNat, (at8 s 2).toNat, four s 3, (List.range (at8 s 7).toNat).map fun i => (four s (8 + 4 * i) : Int)⟩
def sumOk (s : ByteArray) : Bool := low4 (crc (s.data.toList.take (s.size - 4))) == s.data.toList.drop (s.size - 4)
def sizeOk (s : ByteArray) : Bool := decide (12 ≤ s.size) && decide (s.size = 12 + 4 * (at8 s 7).toNat)
/-- The error of a text. -/
def textCode (s : ByteArray) : Nat := if sizeOk s then (if sumOk s then (frOf s).code else 11) else 1

theorem take4 (L : List UInt8) (i : Nat) (h : i + 4 ≤ L.length) : L.take (i + 4) = L.take i ++ [L.getD i 0, L.getD (i + 1) 0, L.getD (i + 2) 0, L.getD (i + 3) 0] := by
  have g : ∀ k, k < L.length → L.take (k + 1) = L.take k ++ [L.getD k 0] := fun k hk => by
    rw [List.take_succ_eq_append_getElem hk, List.getD_eq_getElem?_getD, List.getElem?_eq_getElem hk]; rfl
  rw [g (i + 3) (by omega), g (i + 2) (by omega), g (i + 1) (by omega), g i (by omega)]
  simp
theorem chunks (s : ByteArray) : ∀ n, 8 + 4 * n ≤ s.size → s.data.toList.take (8 + 4 * n) = s.data.toList.take 8 ++ (((List.range n).map fun i => (four s (8 + 4 * i) : Int)).flatMap fun n => high4 n.toNat)
  | 0, _ => by simp
  | n + 1, h => by
    have hl : s.data.toList.length = s.size := by simp
    rw [show 8 + 4 * (n + 1) = (8 + 4 * n) + 4 by omega, take4 _ _ (by rw [hl]; omega), chunks s n (by omega), List.range_succ, List.map_append, List.flatMap_append, List.append_assoc]
    congr 2
    simp only [List.map_cons, List.map_nil, List.flatMap_cons, List.flatMap_nil, List.append_nil, Int.toNat_natCast]
    rw [four, high4_num4]
    rfl
theorem frOf_body {s : ByteArray} (h : sizeOk s = true) : (frOf s).body = s.data.toList.take (s.size - 4) := by
  simp only [sizeOk, Bool.and_eq_true, decide_eq_true_eq] at h
  obtain ⟨h1, h2⟩ := h
  have hl : s.data.toList.length = s.size := by simp
  rw [show s.size - 4 = 8 + 4 * (at8 s 7).toNat by omega, chunks s _ (by omega)]
  unfold Fr.body frOf
  simp only [List.length_map, List.length_range, Int.toNat_natCast, ofNat_byte]
  rw [four, high4_num4, take4 _ 4 (by rw [hl]; omega), show (4 : Nat) = 0 + 4 from rfl, take4 _ 0 (by rw [hl]; omega)]
  simp [at8]
theorem frOf_text {s : ByteArray} (h : sizeOk s = true) (h2 : sumOk s = true) : (frOf s).text = s.data.toList := by
  unfold Fr.text
  rw [frOf_body h, eq_of_beq h2, List.take_append_drop]

theorem frOf_fits (s : ByteArray) : (frOf s).Fits := by
  have q1 := byte_lt (at8 s 1)
  have q2 := byte_lt (at8 s 2)
  have q3 : ∀ i, four s i < 4294967296 := fun i => num4_lt _ _ _ _
  refine ⟨?_, ?_, ?_, fun n hn => ?_⟩
  · simp only [frOf]; omega
  · simp only [frOf]; omega
  · have := q3 3; simp only [frOf]; omega
  · simp only [frOf, List.mem_map, List.mem_range] at hn
    obtain ⟨i, _, rfl⟩ := hn
    have := q3 (8 + 4 * i)
    omega
/-- A right frame's text is read as it was written. -/
theorem Fr.of_text {f : Fr} (hf : f.code = 0) (s : ByteArray) (hs : s.data.toList = f.text) : sizeOk s = true ∧ sumOk s = true ∧ frOf s = f := by
  obtain ⟨a1, ⟨a2, a3⟩, ⟨a4, a5⟩, ⟨a6, a7⟩, a8, a9, a10⟩ := Fr.code_zero hf
  have hsz : s.size = 12 + 4 * f.nums.length := by
    rw [← Fr.text_len f, ← hs]; simp
  have h7 : at8 s 7 = UInt8.ofNat f.nums.length := by
    unfold at8; rw [hs, List.getD_eq_getElem?_getD, text_7]; rfl
  have h7n : (at8 s 7).toNat = f.nums.length := by
    rw [h7]; simp only [UInt8.toNat_ofNat']; omega
  have hok : sizeOk s = true := by
    simp only [sizeOk, Bool.and_eq_true, decide_eq_true_eq]; omega
  have hb : s.data.toList.take (s.size - 4) = f.body := by
    rw [hs, Fr.text, List.take_append_of_le_length (by rw [Fr.body_len]; omega), List.take_of_length_le (by rw [Fr.body_len]; omega)]
  have hd : s.data.toList.drop (s.size - 4) = low4 (crc f.body) := by
    rw [hs, Fr.text, show s.size - 4 = f.body.length by rw [Fr.body_len]; omega, List.drop_left]
  have hsum : sumOk s = true := by
    unfold sumOk; rw [hb, hd]; simp
  refine ⟨hok, hsum, Fr.body_inj (frOf_fits s) (Fr.fits_of hf) ?_ ((frOf_body hok).trans hb)⟩
  simp only [frOf, List.length_map, List.length_range, h7n]
end Go.Proofs.YtohfdecefikinaaGreatDoor


/- Slices that grow, all of one's own: nothing of old is written. -/
namespace Go.Proofs.YtohfdecefikinaaGreatDoor
set_option linter.unusedSimpArgs false
set_option linter.unusedVariables false
open Go Go.RowKit
section
variable {P : Program} {ops : Array Oper}
theorem grown_ext {w0 w w' : World} {e : TypeId} {size : Nat} {v : Value} {n : Nat} {xs : List Value} (hx : Ext w0 w) (hown : w.ownsRow w0.heap.size e size v n xs) (hg : w.grownBy w' v.ownBlock) : Ext w0 w' :=
  Keep.new hx (grown_keep hg) fun k hk => (hown.lt k hk).1
/-- append of m elements that lie at an address to a slice of the call's own. -/
theorem does_append0 {o : Oper} {a : Act} {w0 w : World} {R : Value → World → Prop} (hx0 : Ext w0 w) (hg : o.guard = none) (s x : Operand) (t : TypeId)
    (ho : o.op = .call { callee := .builtin .append, args := #[s, x], argTypes := #[t, t] })
    (e : TypeId) (i : TypeInfo) (z : Value) (size bytes : Nat) (ht : P.underlying t = some (.slice e)) (hi : P.info? e = some i) (hz : i.zero = some z)
    (hsize : i.size = size) (hby : i.bytes = bytes) (hzs : z.cells.size = size) (hsz : 0 < size)
    (v : Value) (n : Nat) (xs : List Value) (hs : a.eval s = v) (hown : w.ownsRow w0.heap.size e size v n xs)
    (ad : Addr) (m c : Nat) (news : List Value) (hx : a.eval x = .slice (some ad) m c) (hl : news.length = m * size) (hnews : ∀ j u, news[j]? = some u → w.cell? (ad.add j) = some u) (h1 : ∀ u ∈ news, u.oneCell' = true)
    (h63 : n + m ≤ maxLen) (hbytes : (n + m) * bytes ≤ 140737488355328)
    (h : ∀ v' w', w'.ownsRow w0.heap.size e size v' (n + m) (xs ++ news) → Ext w0 w' → R v' w') : does P ops o a w R := by
  obtain ⟨v', w', hr, h2, h3, h4⟩ := run_append_own (P := P) w w0.heap.size t o.type e i z size bytes ht hi hz hsize hby hzs hsz v n xs hown ad m c news hl hnews h1 h63 hbytes hx0.size
  exact does_of_run hg (run_exec_append s x t ho hs hx hr) (h v' w' h2 (grown_ext hx0 hown h3))
end
end Go.Proofs.YtohfdecefikinaaGreatDoor


/- Operations that make memory and wait for none of each other: any order, one end. -/
namespace Go.Proofs.YtohfdecefikinaaGreatDoor
set_option linter.unusedSimpArgs false
set_option linter.unusedVariables false
open Go Go.RowKit
section
variable {P : Program} {ops : Array Oper} {X : Nat → Prop} {w0 : World} {Q : Act → World → Prop} {L : List Nat}

def GenR (w : World) (R : Value → World → Prop) : Value → World → Prop := fun v w' => Ext w w' ∧ R v w'
theorem does_mono {o : Oper} {a : Act} {w : World} {R R' : Value → World → Prop} (h : does P ops o a w R) (hr : ∀ v w', R v w' → R' v w') : does P ops o a w R' := by
  unfold does at *
  split
  · rename_i hw
    rw [if_pos hw] at h
    generalize (execOp a.eval o).run P w = r at *
    cases r with
    | ok n w' =>
      cases n <;> simp only [Oper.doesUpon] at h ⊢
      case enter f args => exact h.mono fun e w'' ⟨v, he, hv⟩ => ⟨v, he, hr _ _ hv⟩
      all_goals exact hr _ _ h
    | halt x w' => simp only [Oper.doesUpon] at h
  · rename_i hw
    rw [if_neg hw] at h
    exact hr _ _ h
theorem CallR.gen {f : FuncId} {args : Array Value} {w : World} {R : Value → World → Prop} (h : Calls P f args w fun e w' => ∃ v, e = .returned v ∧ Ext w w' ∧ R v w') : Calls P f args w (CallR (GenR w R)) := h

/-- One alone. -/
theorem Flow.one {listed : Array Bool} {C : World → Prop} {a : Act} (i : Nat) (o : Oper) (ho : ops[i]? = some o) (hr : (Region.ready .any ops listed == [i]) = true) (R : Value → World → Prop)
    (hR : ∀ v w w', R v w → Ext w w' → R v w') (h : ∀ w, C w → Keep X w0 w → does P ops o a w (ActR X w0 R))
    (k : ∀ v, (∃ w, R v w) → Flow P ops w0 Q X L (listed.setIfInBounds i true) (R v) (a.put o.dst v)) : Flow P ops w0 Q X L listed C a :=
  Flow.acts [i] hr (by simp) (fun _ => o) (fun _ => R) (fun _ => hR) (fun j hj => by obtain rfl : j = i := by simpa using hj
                                                                                     exact ⟨ho, h⟩) (fun j hj => by obtain rfl : j = i := by simpa using hj
                                                                                                                    exact k)
/-- i beside j. -/
theorem Flow.par2 {listed : Array Bool} {C : World → Prop} {a : Act} (i j : Nat) (oi oj : Oper) (hoi : ops[i]? = some oi) (hoj : ops[j]? = some oj) (hij : i ≠ j)
    (hsi : ∀ cs b, oi.op ≠ .select cs b) (hsj : ∀ cs b, oj.op ≠ .select cs b) (hap : oi.apart ops oj = true)
    (r0 : (Region.ready .any ops listed == [i, j]) = true) (r1 : (Region.ready .any ops (listed.setIfInBounds i true) == [j]) = true) (r2 : (Region.ready .any ops (listed.setIfInBounds j true) == [i]) = true)
    (A B : Value → World → Prop) (hC : ∀ w w', C w → Ext w w' → C w') (hA : ∀ v w w', A v w → Ext w w' → A v w') (hB : ∀ v w w', B v w → Ext w w' → B v w')
    (hi : ∀ w, C w → Keep X w0 w → does P ops oi a w (GenR w A)) (hj : ∀ w, C w → Keep X w0 w → does P ops oj a w (GenR w B))
    (k : ∀ vi vj, (∃ w, A vi w) → (∃ w, B vj w) → Flow P ops w0 Q X L ((listed.setIfInBounds i true).setIfInBounds j true) (fun w => C w ∧ A vi w ∧ B vj w) ((a.put oi.dst vi).put oj.dst vj)) :
    Flow P ops w0 Q X L listed C a := by
  have hs := Oper.apart_spec hap
  refine Flow.acts [i, j] r0 (by simp) (fun n => if n = i then oi else oj) (fun n v w => C w ∧ if n = i then A v w else B v w) ?_ ?_ ?_
  · intro n v w w' ⟨h1, h2⟩ hx
    refine ⟨hC _ _ h1 hx, ?_⟩
    split
    · rename_i e; rw [if_pos e] at h2; exact hA _ _ _ h2 hx
    · rename_i e; rw [if_neg e] at h2; exact hB _ _ _ h2 hx
  · intro n hn
    rcases (by simpa using hn : n = i ∨ n = j) with rfl | rfl
    · refine ⟨by simpa using hoi, fun w h1 h2 => ?_⟩
      simp only [if_true]
      exact does_mono (hi w h1 h2) fun v w' ⟨hx, hv⟩ => ⟨h2.ext_r hx, hC _ _ h1 hx, by simpa using hv⟩
    · refine ⟨by simpa [Ne.symm hij] using hoj, fun w h1 h2 => ?_⟩
      simp only [Ne.symm hij, if_false]
      exact does_mono (hj w h1 h2) fun v w' ⟨hx, hv⟩ => ⟨h2.ext_r hx, hC _ _ h1 hx, by simpa [Ne.symm hij] using hv⟩
  · intro n hn v hv
    rcases (by simpa using hn : n = i ∨ n = j) with rfl | rfl
    · simp only [if_true] at hv ⊢
      obtain ⟨w1, _, hv1⟩ := hv
      refine Flow.acts [j] r1 (by simp) (fun _ => oj) (fun _ u w => C w ∧ A v w ∧ B u w) (fun _ u w w' ⟨h1, h2, h3⟩ hx => ⟨hC _ _ h1 hx, hA _ _ _ h2 hx, hB _ _ _ h3 hx⟩) ?_ ?_
      · intro m hm
        obtain rfl : m = j := by simpa using hm
        refine ⟨hoj, fun w ⟨h1, h2⟩ h3 => ?_⟩
        rw [does_put hsj hs.1]
        exact does_mono (hj w h1 h3) fun u w' ⟨hx, hu⟩ => ⟨h3.ext_r hx, hC _ _ h1 hx, hA _ _ _ h2 hx, hu⟩
      · intro m hm u ⟨w2, _, _, hu⟩
        obtain rfl : m = j := by simpa using hm
        exact k v u ⟨w1, hv1⟩ ⟨w2, hu⟩
    · simp only [Ne.symm hij, if_false] at hv ⊢
      obtain ⟨w1, _, hv1⟩ := hv
      refine Flow.acts [i] r2 (by simp) (fun _ => oi) (fun _ u w => C w ∧ A u w ∧ B v w) (fun _ u w w' ⟨h1, h2, h3⟩ hx => ⟨hC _ _ h1 hx, hA _ _ _ h2 hx, hB _ _ _ h3 hx⟩) ?_ ?_
      · intro m hm
        obtain rfl : m = i := by simpa using hm
        refine ⟨hoi, fun w ⟨h1, h2⟩ h3 => ?_⟩
        rw [does_put hsi hs.2.2]
        exact does_mono (hi w h1 h3) fun u w' ⟨hx, hu⟩ => ⟨h3.ext_r hx, hC _ _ h1 hx, hu, hB _ _ _ h2 hx⟩
      · intro m hm u ⟨w2, _, hu, _⟩
        obtain rfl : m = i := by simpa using hm
        have := k u v ⟨w2, hu⟩ ⟨w1, hv1⟩
        rw [Array.setIfInBounds_comm _ _ hij, Act.put_comm a u v hs.2.1] at this
        exact this

/-- i beside j and, behind it, k. -/
theorem Flow.par3 {listed : Array Bool} {C : World → Prop} {a : Act} (i j m : Nat) (oi oj om : Oper) (hoi : ops[i]? = some oi) (hoj : ops[j]? = some oj) (hom : ops[m]? = some om) (hij : i ≠ j) (him : i ≠ m)
    (hsi : ∀ cs b, oi.op ≠ .select cs b) (hsj : ∀ cs b, oj.op ≠ .select cs b) (hsm : ∀ cs b, om.op ≠ .select cs b) (hap : oi.apart ops oj = true) (hap2 : oi.apart ops om = true)
    (r0 : (Region.ready .any ops listed == [i, j]) = true) (r1 : (Region.ready .any ops (listed.setIfInBounds i true) == [j]) = true) (r2 : (Region.ready .any ops ((listed.setIfInBounds i true).setIfInBounds j true) == [m]) = true)
    (r3 : (Region.ready .any ops (listed.setIfInBounds j true) == [i, m]) = true) (r4 : (Region.ready .any ops ((listed.setIfInBounds j true).setIfInBounds m true) == [i]) = true) 
    (A B : Value → World → Prop) (D : Value → Value → World → Prop) (hC : ∀ w w', C w → Ext w w' → C w') (hA : ∀ v w w', A v w → Ext w w' → A v w') (hB : ∀ v w w', B v w → Ext w w' → B v w') (hD : ∀ u v w w', D u v w → Ext w w' → D u v w')
    (hi : ∀ w, C w → Keep X w0 w → does P ops oi a w (GenR w A)) (hj : ∀ w, C w → Keep X w0 w → does P ops oj a w (GenR w B))
    (hm : ∀ vj w, C w → B vj w → Keep X w0 w → does P ops om (a.put oj.dst vj) w (GenR w (D vj)))
    (k : ∀ vi vj vm, (∃ w, A vi w) → (∃ w, B vj w) → (∃ w, D vj vm w) → Flow P ops w0 Q X L (((listed.setIfInBounds i true).setIfInBounds j true).setIfInBounds m true) (fun w => C w ∧ A vi w ∧ B vj w ∧ D vj vm w) (((a.put oi.dst vi).put oj.dst vj).put om.dst vm)) :
    Flow P ops w0 Q X L listed C a := by
  have hs := Oper.apart_spec hap
  have hs2 := Oper.apart_spec hap2
  -- both done, then m
  have both : ∀ vi vj, (∃ w, A vi w) → (∃ w, B vj w) → Flow P ops w0 Q X L ((listed.setIfInBounds i true).setIfInBounds j true) (fun w => C w ∧ A vi w ∧ B vj w) ((a.put oi.dst vi).put oj.dst vj) := by
    intro vi vj h1 h2
    refine Flow.acts [m] r2 (by simp) (fun _ => om) (fun _ u w => C w ∧ A vi w ∧ B vj w ∧ D vj u w) (fun _ u w w' ⟨h1, h2, h3, h4⟩ hx => ⟨hC _ _ h1 hx, hA _ _ _ h2 hx, hB _ _ _ h3 hx, hD _ _ _ _ h4 hx⟩) ?_ ?_
    · intro n hn
      obtain rfl : n = m := by simpa using hn
      refine ⟨hom, fun w ⟨h1, h2, h3⟩ h4 => ?_⟩
      rw [Act.put_comm a vi vj hs.2.1, does_put hsm hs2.1]
      exact does_mono (hm vj w h1 h3 h4) fun u w' ⟨hx, hu⟩ => ⟨h4.ext_r hx, hC _ _ h1 hx, hA _ _ _ h2 hx, hB _ _ _ h3 hx, hu⟩
    · intro n hn u ⟨w2, _, _, _, hu⟩
      obtain rfl : n = m := by simpa using hn
      exact k vi vj u h1 h2 ⟨w2, hu⟩
  refine Flow.acts [i, j] r0 (by simp) (fun n => if n = i then oi else oj) (fun n v w => C w ∧ if n = i then A v w else B v w) ?_ ?_ ?_
  · intro n v w w' ⟨h1, h2⟩ hx
    refine ⟨hC _ _ h1 hx, ?_⟩
    split
    · rename_i e; rw [if_pos e] at h2; exact hA _ _ _ h2 hx
    · rename_i e; rw [if_neg e] at h2; exact hB _ _ _ h2 hx
  · intro n hn
    rcases (by simpa using hn : n = i ∨ n = j) with rfl | rfl
    · refine ⟨by simpa using hoi, fun w h1 h2 => ?_⟩
      simp only [if_true]
      exact does_mono (hi w h1 h2) fun v w' ⟨hx, hv⟩ => ⟨h2.ext_r hx, hC _ _ h1 hx, by simpa using hv⟩
    · refine ⟨by simpa [Ne.symm hij] using hoj, fun w h1 h2 => ?_⟩
      simp only [Ne.symm hij, if_false]
      exact does_mono (hj w h1 h2) fun v w' ⟨hx, hv⟩ => ⟨h2.ext_r hx, hC _ _ h1 hx, by simpa [Ne.symm hij] using hv⟩
  · intro n hn v hv
    rcases (by simpa using hn : n = i ∨ n = j) with rfl | rfl
    · simp only [if_true] at hv ⊢
      obtain ⟨w1, _, hv1⟩ := hv
      refine Flow.acts [j] r1 (by simp) (fun _ => oj) (fun _ u w => C w ∧ A v w ∧ B u w) (fun _ u w w' ⟨h1, h2, h3⟩ hx => ⟨hC _ _ h1 hx, hA _ _ _ h2 hx, hB _ _ _ h3 hx⟩) ?_ ?_
      · intro m hm
        obtain rfl : m = j := by simpa using hm
        refine ⟨hoj, fun w ⟨h1, h2⟩ h3 => ?_⟩
        rw [does_put hsj hs.1]
        exact does_mono (hj w h1 h3) fun u w' ⟨hx, hu⟩ => ⟨h3.ext_r hx, hC _ _ h1 hx, hA _ _ _ h2 hx, hu⟩
      · intro m hm u ⟨w2, _, _, hu⟩
        obtain rfl : m = j := by simpa using hm
        exact both v u ⟨w1, hv1⟩ ⟨w2, hu⟩
    · simp only [Ne.symm hij, if_false] at hv ⊢
      obtain ⟨w1, _, hv1⟩ := hv
      refine Flow.acts [i, m] r3 (by simp) (fun q => if q = i then oi else om) (fun q u w => C w ∧ B v w ∧ if q = i then A u w else D v u w) ?_ ?_ ?_
      · intro q u w w' ⟨h1, h2, h3⟩ hx
        refine ⟨hC _ _ h1 hx, hB _ _ _ h2 hx, ?_⟩
        split
        · rename_i e; rw [if_pos e] at h3; exact hA _ _ _ h3 hx
        · rename_i e; rw [if_neg e] at h3; exact hD _ _ _ _ h3 hx
      · intro q hq
        rcases (by simpa using hq : q = i ∨ q = m) with rfl | rfl
        · refine ⟨by simpa using hoi, fun w ⟨h1, h2⟩ h3 => ?_⟩
          simp only [if_true]
          rw [does_put hsi hs.2.2]
          exact does_mono (hi w h1 h3) fun u w' ⟨hx, hu⟩ => ⟨h3.ext_r hx, hC _ _ h1 hx, hB _ _ _ h2 hx, by simpa using hu⟩
        · refine ⟨by simpa [Ne.symm him] using hom, fun w ⟨h1, h2⟩ h3 => ?_⟩
          simp only [Ne.symm him, if_false]
          exact does_mono (hm v w h1 h2 h3) fun u w' ⟨hx, hu⟩ => ⟨h3.ext_r hx, hC _ _ h1 hx, hB _ _ _ h2 hx, by simpa [Ne.symm him] using hu⟩
      · intro q hq u hu
        rcases (by simpa using hq : q = i ∨ q = m) with rfl | rfl
        · simp only [if_true] at hu ⊢
          obtain ⟨w2, _, _, hu2⟩ := hu
          have := both u v ⟨w2, hu2⟩ ⟨w1, hv1⟩
          rw [Array.setIfInBounds_comm _ _ hij, Act.put_comm a u v hs.2.1] at this
          exact Flow.mono this fun w ⟨h1, h2, h3⟩ => ⟨h1, h3, h2⟩
        · simp only [Ne.symm him, if_false] at hu ⊢
          obtain ⟨w2, _, _, hu2⟩ := hu
          refine Flow.acts [i] r4 (by simp) (fun _ => oi) (fun _ x w => C w ∧ A x w ∧ B v w ∧ D v u w) (fun _ x w w' ⟨h1, h2, h3, h4⟩ hx => ⟨hC _ _ h1 hx, hA _ _ _ h2 hx, hB _ _ _ h3 hx, hD _ _ _ _ h4 hx⟩) ?_ ?_
          · intro q hq
            obtain rfl : q = i := by simpa using hq
            refine ⟨hoi, fun w ⟨h1, h2, h3⟩ h4 => ?_⟩
            rw [does_put hsi hs2.2.2, does_put hsi hs.2.2]
            exact does_mono (hi w h1 h4) fun x w' ⟨hx, hv⟩ => ⟨h4.ext_r hx, hC _ _ h1 hx, hv, hB _ _ _ h2 hx, hD _ _ _ _ h3 hx⟩
          · intro q hq x ⟨w3, _, hx, _, _⟩
            obtain rfl : q = i := by simpa using hq
            have := k x v u ⟨w3, hx⟩ ⟨w1, hv1⟩ ⟨w2, hu2⟩
            rw [Array.setIfInBounds_comm _ _ hij, Array.setIfInBounds_comm _ _ him, Act.put_comm a x v hs.2.1, Act.put_comm _ x u hs2.2.1] at this
            exact this
end
end Go.Proofs.YtohfdecefikinaaGreatDoor


/- The frame: a right one is written. -/
namespace Go.Proofs.YtohfdecefikinaaGreatDoor
set_option linter.unusedSimpArgs false
set_option linter.unusedVariables false
open Go Go.RowKit

/-- A row of bytes of the call's own. -/
def BRow (w0 w : World) (v : Value) (l : List UInt8) : Prop := w.ownsRow w0.heap.size 5 1 v l.length (bcells l)
theorem bcells_len (l : List UInt8) : (bcells l).length = l.length := by simp [bcells]
theorem bcells_append (l m : List UInt8) : bcells (l ++ m) = bcells l ++ bcells m := by simp [bcells]
theorem bcells_one {l : List UInt8} : ∀ u ∈ bcells l, u.oneCell' = true := by
  intro u hu
  simp only [bcells, List.mem_map] at hu
  obtain ⟨b, _, rfl⟩ := hu
  rfl
theorem own_ext {w w' : World} {base : Nat} {e : TypeId} {size : Nat} {v : Value} {n : Nat} {xs : List Value} (h : w.ownsRow base e size v n xs) (x : Ext w w') : w'.ownsRow base e size v n xs := by
  obtain ⟨h1, h2⟩ := h
  refine ⟨h1, h2.imp id ?_⟩
  rintro ⟨g, cap, cur, rfl, hb, hg, h3⟩
  exact ⟨g, cap, cur, rfl, hb, x.get hg, h3⟩
theorem BRow.ext {w0 w w' : World} {v : Value} {l : List UInt8} (h : BRow w0 w v l) (x : Ext w w') : BRow w0 w' v l := own_ext h x
theorem BRow.made (w0 w : World) (h : w0.heap.size ≤ w.heap.size) (l : List UInt8) (hl : l.length ≤ 1000) : BRow w0 (w.alloc (.cells (bcells l).toArray 5)) (.slice (some ⟨w.heap.size, 0, none⟩) l.length l.length) l :=
  ⟨by simp [bcells], .inr ⟨w.heap.size, l.length, _, rfl, h, heap_alloc_new w _, Nat.le_refl _, by simp only [maxLen]; omega, by simp [bcells], by simp [bcells, List.take_of_length_le]⟩⟩

/-- The region's two makers. -/
def HighR (n : Nat) : Value → World → Prop := fun v w => ∃ g, v = .slice (some ⟨g, 0, none⟩) 4 4 ∧ Blk w g (bcells (high4 n)).toArray 5
theorem Blk.av {w : World} {b : Nat} {c : Array Value} {e : TypeId} (h : Blk w b c e) (i : Nat) {v : Value} (hv : c[i]? = some v) : w.cell? ⟨b, i, none⟩ = some v := (h.cell i).trans hv
theorem byte_val (k : Nat) (h : k < 256) : Value.int .u8 ((UInt8.ofNat k).toNat : Int) = Value.int .u8 (k : Int) := by
  rw [byte_cell]; congr 1; omega
theorem BRow.text {w0 w : World} {v : Value} {l : List UInt8} (h : BRow w0 w v l) (hl : l ≠ []) : ∃ g cap cur, v = .slice (some ⟨g, 0, none⟩) l.length cap ∧ Blk w g cur 5 ∧ ∀ j, j < l.length → cur[j]? = (bcells l)[j]? := by
  rcases h.2 with ⟨_, h0⟩ | ⟨g, cap, cur, hv, _, hg, hnc, _, hcs, htake⟩
  · exact absurd (List.length_eq_zero_iff.1 h0) hl
  · refine ⟨g, cap, cur, hv, hg, fun j hj => ?_⟩
    rw [← htake, List.getElem?_take, if_pos (by omega)]
    simp

theorem flat_take_succ (nums : List Int) (k : Nat) (h : k < nums.length) : ((nums.take (k + 1)).flatMap fun n => high4 n.toNat) = ((nums.take k).flatMap fun n => high4 n.toNat) ++ high4 (nums.getD k 0).toNat := by
  rw [List.take_succ_eq_append_getElem h, List.flatMap_append, List.getD_eq_getElem?_getD, List.getElem?_eq_getElem h]
  simp


end Go.Proofs.YtohfdecefikinaaGreatDoor
