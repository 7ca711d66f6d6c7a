/- Texts of one proof, put together: Own F6 FP Ow2 Par F7 F8 UP U1 US. -/
import Derived.Test.YtnpnhbfbklibhaaGreatDoorZFO01
import Derived.Test.YtnpnhbfbklibhaaGreatDoorProg
import Derived.Shelf.Strings.SlTrimAscii

/- Slices that grow: append met inside a region whose order is drawn. -/
namespace Go.Proofs.YtnpnhbfbklibhaaGreatDoor
set_option linter.unusedSimpArgs false
set_option linter.unusedVariables false
open Go Go.RowKit

theorem grown_keep {w w' : World} {row : Option Nat} (h : w.grownBy w' row) : Keep (fun k => row = some k) w w' :=
  ⟨h.os, h.tape, h.output, h.size, fun k hk hx => h.block k hk fun e => hx e.symm⟩

section
variable {P : Program} {ops : Array Oper}
theorem does_of_run {o : Oper} {a : Act} {w w' : World} {v : Value} {R : Value → World → Prop} (hg : o.guard = none) (hr : (execOp a.eval o).run P w = .ok (.value v) w') (h : R v w') : does P ops o a w R := by
  unfold does
  rw [if_pos (by simp [Region.wanted, hg]), hr]
  exact h
theorem run_exec_append {o : Oper} {a : Act} {w w' : World} (s x : Operand) (t : TypeId) (ho : o.op = .call { callee := .builtin .append, args := #[s, x], argTypes := #[t, t] })
    {v1 v2 v : Value} (h1 : a.eval s = v1) (h2 : a.eval x = v2) (hr : (Builtin.append_ #[t, t] o.type #[v1, v2]).run P w = .ok v w') : (execOp a.eval o).run P w = .ok (.value v) w' := by
  unfold execOp
  simp only [ho, resolve, invoke, builtin, Sem.run_bind, Sem.run_pure, Result.andThen_ok, List.map_toArray, List.map_cons, List.map_nil, h1, h2, hr]

/-- append of m elements that lie at an address to a slice of the call's own. -/
theorem does_append {o : Oper} {a : Act} {w : World} {R : Value → World → Prop} (hg : o.guard = none) (s x : Operand) (t : TypeId)
    (ho : o.op = .call { callee := .builtin .append, args := #[s, x], argTypes := #[t, t] })
    (e : TypeId) (i : TypeInfo) (z : Value) (size bytes : Nat) (ht : P.underlying t = some (.slice e)) (hi : P.info? e = some i) (hz : i.zero = some z)
    (hsize : i.size = size) (hby : i.bytes = bytes) (hzs : z.cells.size = size) (hsz : 0 < size)
    (v : Value) (n : Nat) (xs : List Value) (hs : a.eval s = v) (hown : w.ownsRow 0 e size v n xs)
    (ad : Addr) (m c : Nat) (news : List Value) (hx : a.eval x = .slice (some ad) m c) (hl : news.length = m * size) (hnews : ∀ j u, news[j]? = some u → w.cell? (ad.add j) = some u) (h1 : ∀ u ∈ news, u.oneCell' = true)
    (h63 : n + m ≤ maxLen) (hbytes : (n + m) * bytes ≤ 140737488355328)
    (h : ∀ v' w', w'.ownsRow 0 e size v' (n + m) (xs ++ news) → Keep (fun k => v.ownBlock = some k) w w' → (∀ k, v'.ownBlock = some k → v.ownBlock = some k ∨ w.heap.size ≤ k) → R v' w') : does P ops o a w R := by
  obtain ⟨v', w', hr, h2, h3, h4⟩ := run_append_own (P := P) w 0 t o.type e i z size bytes ht hi hz hsize hby hzs hsz v n xs hown ad m c news hl hnews h1 h63 hbytes (Nat.zero_le _)
  refine does_of_run hg (run_exec_append s x t ho hs hx hr) (h v' w' h2 (grown_keep h3) ?_)
  -- the block: of old, or new
  intro k hk
  rcases Nat.lt_or_ge k w.heap.size with hlt | hge
  · refine .inl ?_
    subst hsize
    subst hby
    rcases hown.2 with ⟨rfl, rfl⟩ | ⟨g, cap, cur, rfl, _, hgg, hnc, hcm, hcs, htake⟩
    · by_cases hm : m = 0
      · rw [h4.2 ⟨rfl, hm⟩] at hk; exact hk
      · have hr2 := run_append_nil (P := P) w t o.type e i z ht hi hz ad m c news hl hnews (by omega) (by simp only [maxLen] at h63; omega) (by have hb := hbytes; simp only [Nat.zero_add] at hb; omega)
        rw [hr2] at hr
        simp only [Result.ok.injEq] at hr
        rw [← hr.1] at hk
        simp [Value.ownBlock] at hk
        omega
    · by_cases hroom : n + m ≤ cap
      · have hfit : n * i.size + news.length ≤ cur.size := by rw [hl, hcs, ← Nat.add_mul]; exact Nat.mul_le_mul_right _ hroom
        have hr2 := run_append_room (P := P) w t o.type e i ht hi g n cap cur hgg ad m c news hl hnews h1 hroom hfit
        rw [hr2] at hr
        simp only [Result.ok.injEq] at hr
        rw [← hr.1] at hk
        simpa [Value.ownBlock] using hk
      · have holds := hown.cells (g := g) rfl
        have hr2 := run_append_grow (P := P) w t o.type e i z ht hi hz ⟨g, 0, none⟩ n cap xs hown.1 holds ad m c news hl hnews (by omega) (by simp only [maxLen] at h63; omega) (growslice_fits (by omega) hbytes)
        rw [hr2] at hr
        simp only [Result.ok.injEq] at hr
        rw [← hr.1] at hk
        simp [Value.ownBlock] at hk
        omega
  · exact .inr hge

theorem setRow_blk {w : World} {g : Nat} {c : Array Value} {e : TypeId} (h : Blk w g c e) (c' : Array Value) : Blk (w.setRow g c') g c' e := setRow_heap w g c c' e (0, 0) h
theorem setRow_keep (w : World) (g : Nat) (c' : Array Value) : Keep (fun b => b = g) w (w.setRow g c') :=
  ⟨rfl, rfl, rfl, by simp, fun k _ hk => setRow_other w g k _ hk⟩

/-- append within the capacity, in place. -/
theorem does_append_room {o : Oper} {a : Act} {w : World} {R : Value → World → Prop} (hg : o.guard = none) (s x : Operand) (t : TypeId)
    (ho : o.op = .call { callee := .builtin .append, args := #[s, x], argTypes := #[t, t] })
    (e : TypeId) (i : TypeInfo) (ht : P.underlying t = some (.slice e)) (hi : P.info? e = some i) (g n cap : Nat) (cur : Array Value) (hb : Blk w g cur e) (hs : a.eval s = .slice (some ⟨g, 0, none⟩) n cap)
    (ad : Addr) (m c : Nat) (news : List Value) (hx : a.eval x = .slice (some ad) m c) (hl : news.length = m * i.size) (hnews : ∀ j u, news[j]? = some u → w.cell? (ad.add j) = some u) (h1 : ∀ u ∈ news, u.oneCell' = true)
    (hroom : n + m ≤ cap) (hfit : n * i.size + news.length ≤ cur.size)
    (h : R (.slice (some ⟨g, 0, none⟩) (n + m) cap) (w.setRow g (cur.toList.take (n * i.size) ++ news ++ cur.toList.drop (n * i.size + news.length)).toArray)) : does P ops o a w R :=
  does_of_run hg (run_exec_append s x t ho hs hx (run_append_room w t o.type e i ht hi g n cap cur hb ad m c news hl hnews h1 hroom hfit)) h

/-- clear of one. -/
theorem run_clear_one (w : World) (t ty e : TypeId) (i : TypeInfo) (z : Value) (ht : P.underlying t = some (.slice e)) (hi : P.info? e = some i) (hz : i.zero = some z) (hz1 : z.cells = #[z]) (hzo : z.oneCell' = true)
    (g off n cap : Nat) (hn : n = 1) (c : Array Value) (hb : Blk w g c e) (hlt : off < c.size) :
    (Builtin.clear_ #[t] ty #[.slice (some ⟨g, off, none⟩) n cap]).run P w = .ok (.tuple #[]) (w.setCell ⟨g, off, none⟩ z) := by
  subst hn
  have h0 : w.cell? ⟨g, off, none⟩ = some c[off] := by
    have := hb.cell off
    simpa [hlt] using this
  have h1 : w.frozen? ⟨g, off, none⟩ = false := hb.free off
  have h2 : (Builtin.zeroCells z.cells 1).toList = [z] := by rw [hz1]; simp [Builtin.zeroCells, List.ofFn_succ]
  simp [Builtin.clear_, run_underlying ht, zeroValue, typeInfo, hi, hz, h2, storeCells, run_store, hzo, h0, h1, Addr.add]

theorem run_exec_copy {o : Oper} {a : Act} {w w' : World} (s x : Operand) (t u : TypeId) (ho : o.op = .call { callee := .builtin .copy, args := #[s, x], argTypes := #[t, u] })
    {v1 v2 v : Value} (h1 : a.eval s = v1) (h2 : a.eval x = v2) (hr : (Builtin.copy_ #[t, u] o.type #[v1, v2]).run P w = .ok v w') : (execOp a.eval o).run P w = .ok (.value v) w' := by
  unfold execOp
  simp only [ho, resolve, invoke, builtin, Sem.run_bind, Sem.run_pure, Result.andThen_ok, List.map_toArray, List.map_cons, List.map_nil, h1, h2, hr]
/-- copy within one block or from another. -/
theorem does_copy {o : Oper} {a : Act} {w : World} {R : Value → World → Prop} (hg : o.guard = none) (s x : Operand) (t u : TypeId)
    (ho : o.op = .call { callee := .builtin .copy, args := #[s, x], argTypes := #[t, u] }) (e : TypeId) (ht : P.underlying t = some (.slice e)) (hsz : (P.info? e).map (·.size) = some 1)
    (g off dLen dCap : Nat) (cur : Array Value) (e' : TypeId) (hb : Blk w g cur e') (hd : a.eval s = .slice (some ⟨g, off, none⟩) dLen dCap) (ad : Addr) (sLen sCap : Nat) (cs : List Value) (hx : a.eval x = .slice (some ad) sLen sCap)
    (hn : cs.length = Nat.min sLen dLen) (hsrc : ∀ j v, cs[j]? = some v → w.cell? (ad.add j) = some v) (hfit : off + cs.length ≤ cur.size) (h1 : ∀ v ∈ cs, v.oneCell' = true)
    (h : R (goInt cs.length) (w.setRow g (cur.toList.take off ++ cs ++ cur.toList.drop (off + cs.length)).toArray)) : does P ops o a w R :=
  does_of_run hg (run_exec_copy s x t u ho hd hx (run_copy_row P w t u o.type e g off dLen dCap ad sLen sCap cur e' cs ht hsz hb hn hsrc hfit h1)) h
/-- copy in a sequence. -/
theorem wpList_copy {Q : Exit → Act → World → Prop} {rest : List Oper} {o : Oper} {a : Act} {w : World} (hg : o.guard = none) (s x : Operand) (t u : TypeId)
    (ho : o.op = .call { callee := .builtin .copy, args := #[s, x], argTypes := #[t, u] }) {v1 v2 v : Value} {w' : World} (h1 : a.eval s = v1) (h2 : a.eval x = v2) (hr : (Builtin.copy_ #[t, u] o.type #[v1, v2]).run P w = .ok v w')
    (h : wpList P ops Q rest (a.put o.dst v) w') : wpList P ops Q (o :: rest) a w := by
  refine wpList_plain hg fun K hK => ?_
  unfold Oper.wp
  rw [run_exec_copy s x t u ho h1 h2 hr]
  exact hK _ _ h
end
end Go.Proofs.YtnpnhbfbklibhaaGreatDoor


/- The frame: it is written. -/
namespace Go.Proofs.YtnpnhbfbklibhaaGreatDoor
set_option linter.unusedSimpArgs false
set_option linter.unusedVariables false
open Go Go.RowKit

/-- The body of a frame's text; the text. -/
def Fr.body (f : Fr) : List UInt8 := [f.kind, UInt8.ofNat f.fr.toNat, UInt8.ofNat f.to.toNat] ++ high4 f.seq.toNat ++ [UInt8.ofNat f.nums.length] ++ f.nums.flatMap fun n => high4 n.toNat
def Fr.text (f : Fr) : List UInt8 := f.body ++ low4 (crc f.body)

theorem bytes_info : (Tryz.prog.info? 5).map (fun i => (i.zero, i.size, i.bytes)) = some (some (.int .u8 0), 1, 1) := by kernel_rfl

/-- What a right frame's numbers are. -/
theorem Fr.code_zero {f : Fr} (h : f.code = 0) : f.kind ∈ kinds ∧ (0 ≤ f.fr ∧ f.fr ≤ 5) ∧ (0 ≤ f.to ∧ f.to ≤ 5) ∧ (0 ≤ f.seq ∧ f.seq ≤ 2147483648) ∧ anyFar f.nums = false ∧ f.fr ≠ f.to ∧ f.nums.length ≤ 200 := by
  unfold Fr.code at h
  have key : ∀ k b1 b2 b3 far same full, codeOf k b1 b2 b3 far same full = 0 → k = true ∧ b1 = true ∧ b2 = true ∧ b3 = true ∧ far = false ∧ same = false ∧ full = false := by
    intro k b1 b2 b3 far same full
    cases k <;> cases b1 <;> cases b2 <;> cases b3 <;> cases far <;> cases same <;> cases full <;> simp [codeOf]
  obtain ⟨h1, h2, h3, h4, h5, h6, h7⟩ := key _ _ _ _ _ _ _ h
  simp [inB] at h1 h2 h3 h4 h6 h7
  exact ⟨h1, h2, h3, h4, h5, h6, h7⟩
end Go.Proofs.YtnpnhbfbklibhaaGreatDoor


/- The frame, plainly: its text tells it; a text is a frame's or none. -/
namespace Go.Proofs.YtnpnhbfbklibhaaGreatDoor
set_option linter.unusedSimpArgs false
set_option linter.unusedVariables false
open Go Go.RowKit

theorem ofNat_inj {a b : Nat} (ha : a < 256) (hb : b < 256) (h : UInt8.ofNat a = UInt8.ofNat b) : a = b := by
  have := congrArg UInt8.toNat h
  simp only [UInt8.toNat_ofNat'] at this
  omega
theorem ofNat_byte (b : UInt8) : UInt8.ofNat b.toNat = b := by simp
theorem high4_inj {a b : Nat} (ha : a < 4294967296) (hb : b < 4294967296) (h : high4 a = high4 b) : a = b := by
  simp only [high4, List.cons.injEq, and_true] at h
  obtain ⟨h1, h2, h3, h4⟩ := h
  have g1 := congrArg UInt8.toNat h1
  have g2 := congrArg UInt8.toNat h2
  have g3 := congrArg UInt8.toNat h3
  have g4 := congrArg UInt8.toNat h4
  simp only [UInt8.toNat_ofNat'] at g1 g2 g3 g4
  omega
theorem high4_len (n : Nat) : (high4 n).length = 4 := rfl
theorem low4_len (n : Nat) : (low4 n).length = 4 := rfl
theorem num4_lt (a b c d : UInt8) : num4 a b c d < 4294967296 := by
  have h0 := byte_lt a
  have h1 := byte_lt b
  have h2 := byte_lt c
  have h3 := byte_lt d
  unfold num4; omega
theorem high4_num4 (a b c d : UInt8) : high4 (num4 a b c d) = [a, b, c, d] := by
  have h0 := byte_lt a
  have h1 := byte_lt b
  have h2 := byte_lt c
  have h3 := byte_lt d
  simp only [high4, num4, List.cons.injEq, and_true]
  refine ⟨?_, ?_, ?_, ?_⟩ <;> apply UInt8.toNat_inj.1 <;> simp only [UInt8.toNat_ofNat'] <;> omega
theorem num4_high4 (n : Nat) (hn : n < 4294967296) : num4 (UInt8.ofNat (n / 16777216)) (UInt8.ofNat (n / 65536)) (UInt8.ofNat (n / 256)) (UInt8.ofNat n) = n := by
  unfold num4
  simp only [UInt8.toNat_ofNat']
  omega
theorem text_7 (f : Fr) : f.text[7]? = some (UInt8.ofNat f.nums.length) := by
  simp [Fr.text, Fr.body, high4]

theorem flat_len (nums : List Int) : (nums.flatMap fun n => high4 n.toNat).length = 4 * nums.length := by
  induction nums with
  | nil => rfl
  | cons n l ih => simp only [List.flatMap_cons, List.length_append, ih, high4_len, List.length_cons]; omega
theorem Fr.body_len (f : Fr) : f.body.length = 8 + 4 * f.nums.length := by
  unfold Fr.body
  simp only [List.length_append, flat_len, high4_len, List.length_cons, List.length_nil]
theorem Fr.text_len (f : Fr) : f.text.length = 12 + 4 * f.nums.length := by
  unfold Fr.text
  rw [List.length_append, Fr.body_len, low4_len]; omega
theorem flat_inj : ∀ {l m : List Int}, (∀ n ∈ l, 0 ≤ n ∧ n ≤ 4294967295) → (∀ n ∈ m, 0 ≤ n ∧ n ≤ 4294967295) → l.length = m.length → (l.flatMap fun n => high4 n.toNat) = (m.flatMap fun n => high4 n.toNat) → l = m
  | [], [], _, _, _, _ => rfl
  | [], _ :: _, _, _, h, _ => by simp at h
  | _ :: _, [], _, _, h, _ => by simp at h
  | a :: l, b :: m, ha, hb, h, e => by
    simp only [List.flatMap_cons] at e
    obtain ⟨e1, e2⟩ := List.append_inj e (by rw [high4_len, high4_len])
    have h1 := ha a (by simp)
    have h2 := hb b (by simp)
    have h3 := high4_inj (by omega) (by omega) e1
    rw [flat_inj (fun n hn => ha n (by simp [hn])) (fun n hn => hb n (by simp [hn])) (by simpa using h) e2, show a = b by omega]
/-- All that a text can hold. -/
structure Fr.Fits (f : Fr) : Prop where
  fr : 0 ≤ f.fr ∧ f.fr ≤ 255
  to : 0 ≤ f.to ∧ f.to ≤ 255
  seq : 0 ≤ f.seq ∧ f.seq ≤ 4294967295
  nums : ∀ n ∈ f.nums, 0 ≤ n ∧ n ≤ 4294967295
theorem Fr.body_inj {f g : Fr} (hf : f.Fits) (hg : g.Fits) (hl : f.nums.length = g.nums.length) (h1 : f.body = g.body) : f = g := by
  obtain ⟨a1, a2, a3, a4⟩ := hf
  obtain ⟨b1, b2, b3, b4⟩ := hg
  obtain ⟨k, x, y, s, l⟩ := f
  obtain ⟨k', x', y', s', l'⟩ := g
  unfold Fr.body at h1
  simp only at *
  obtain ⟨h2, h3⟩ := List.append_inj h1 (by simp [high4_len])
  obtain ⟨h4, h5⟩ := List.append_inj h2 (by simp [high4_len])
  obtain ⟨h6, h7⟩ := List.append_inj h4 (by simp)
  simp only [List.cons.injEq, and_true] at h6
  obtain ⟨c1, c2, c3⟩ := h6
  have d2 := ofNat_inj (by omega) (by omega) c2
  have d3 := ofNat_inj (by omega) (by omega) c3
  have d4 := high4_inj (by omega) (by omega) h7
  have d5 := flat_inj a4 b4 hl h3
  clear h1 h2 h3 h4 h5 h7 a4 b4
  obtain rfl := c1
  obtain rfl : x = x' := by omega
  obtain rfl : y = y' := by omega
  obtain rfl : s = s' := by omega
  rw [d5]
theorem near_of {l : List Int} (h : anyFar l = false) : ∀ n ∈ l, 0 ≤ n ∧ n ≤ 2147483648 := by
  intro n hn
  have := List.any_eq_false.1 h n hn
  simpa [farB] using this
theorem Fr.fits_of {f : Fr} (h : f.code = 0) : f.Fits := by
  obtain ⟨a1, ⟨a2, a3⟩, ⟨a4, a5⟩, ⟨a6, a7⟩, a8, a9, a10⟩ := Fr.code_zero h
  exact ⟨by omega, by omega, by omega, fun n hn => by have := near_of a8 n hn; omega⟩
/-! ### what a text tells -/
def frOf (s : ByteArray) : Fr := ⟨at8 s 0, (at8 s 1).toNat, (at8 s 2).toNat, four s 3, (List.range (at8 s 7).toNat).map fun i => (four s (8 + 4 * i) : Int)⟩
def sumOk (s : ByteArray) : Bool := low4 (crc (s.data.toList.take (s.size - 4))) == s.data.toList.drop (s.size - 4)
def sizeOk (s : ByteArray) : Bool := decide (12 ≤ s.size) && decide (s.size = 12 + 4 * (at8 s 7).toNat)
/-- The error of a text. -/
def textCode (s : ByteArray) : Nat := if sizeOk s then (if sumOk s then (frOf s).code else 11) else 1

theorem take4 (L : List UInt8) (i : Nat) (h : i + 4 ≤ L.length) : L.take (i + 4) = L.take i ++ [L.getD i 0, L.getD (i + 1) 0, L.getD (i + 2) 0, L.getD (i + 3) 0] := by
  have g : ∀ k, k < L.length → L.take (k + 1) = L.take k ++ [L.getD k 0] := fun k hk => by
    rw [List.take_succ_eq_append_getElem hk, List.getD_eq_getElem?_getD, List.getElem?_eq_getElem hk]; rfl
  rw [g (i + 3) (by omega), g (i + 2) (by omega), g (i + 1) (by omega), g i (by omega)]
  simp
theorem chunks (s : ByteArray) : ∀ n, 8 + 4 * n ≤ s.size → s.data.toList.take (8 + 4 * n) = s.data.toList.take 8 ++ (((List.range n).map fun i => (four s (8 + 4 * i) : Int)).flatMap fun n => high4 n.toNat)
  | 0, _ => by simp
  | n + 1, h => by
    have hl : s.data.toList.length = s.size := by simp
    rw [show 8 + 4 * (n + 1) = (8 + 4 * n) + 4 by omega, take4 _ _ (by rw [hl]; omega), chunks s n (by omega), List.range_succ, List.map_append, List.flatMap_append, List.append_assoc]
    congr 2
    simp only [List.map_cons, List.map_nil, List.flatMap_cons, List.flatMap_nil, List.append_nil, Int.toNat_natCast]
    rw [four, high4_num4]
    rfl
theorem frOf_body {s : ByteArray} (h : sizeOk s = true) : (frOf s).body = s.data.toList.take (s.size - 4) := by
  simp only [sizeOk, Bool.and_eq_true, decide_eq_true_eq] at h
  obtain ⟨h1, h2⟩ := h
  have hl : s.data.toList.length = s.size := by simp
  rw [show s.size - 4 = 8 + 4 * (at8 s 7).toNat by omega, chunks s _ (by omega)]
  unfold Fr.body frOf
  simp only [List.length_map, List.length_range, Int.toNat_natCast, ofNat_byte]
  rw [four, high4_num4, take4 _ 4 (by rw [hl]; omega), show (4 : Nat) = 0 + 4 from rfl, take4 _ 0 (by rw [hl]; omega)]
  simp [at8]
theorem frOf_text {s : ByteArray} (h : sizeOk s = true) (h2 : sumOk s = true) : (frOf s).text = s.data.toList := by
  unfold Fr.text
  rw [frOf_body h, eq_of_beq h2, List.take_append_drop]

theorem frOf_fits (s : ByteArray) : (frOf s).Fits := by
  have q1 := byte_lt (at8 s 1)
  have q2 := byte_lt (at8 s 2)
  have q3 : ∀ i, four s i < 4294967296 := fun i => num4_lt _ _ _ _
  refine ⟨?_, ?_, ?_, fun n hn => ?_⟩
  · simp only [frOf]; omega
  · simp only [frOf]; omega
  · have := q3 3; simp only [frOf]; omega
  · simp only [frOf, List.mem_map, List.mem_range] at hn
    obtain ⟨i, _, rfl⟩ := hn
    have := q3 (8 + 4 * i)
    omega
/-- A right frame's text is read as it was written. -/
theorem Fr.of_text {f : Fr} (hf : f.code = 0) (s : ByteArray) (hs : s.data.toList = f.text) : sizeOk s = true ∧ sumOk s = true ∧ frOf s = f := by
  obtain ⟨a1, ⟨a2, a3⟩, ⟨a4, a5⟩, ⟨a6, a7⟩, a8, a9, a10⟩ := Fr.code_zero hf
  have hsz : s.size = 12 + 4 * f.nums.length := by
    rw [← Fr.text_len f, ← hs]; simp
  have h7 : at8 s 7 = UInt8.ofNat f.nums.length := by
    unfold at8; rw [hs, List.getD_eq_getElem?_getD, text_7]; rfl
  have h7n : (at8 s 7).toNat = f.nums.length := by
    rw [h7]; simp only [UInt8.toNat_ofNat']; omega
  have hok : sizeOk s = true := by
    simp only [sizeOk, Bool.and_eq_true, decide_eq_true_eq]; omega
  have hb : s.data.toList.take (s.size - 4) = f.body := by
    rw [hs, Fr.text, List.take_append_of_le_length (by rw [Fr.body_len]; omega), List.take_of_length_le (by rw [Fr.body_len]; omega)]
  have hd : s.data.toList.drop (s.size - 4) = low4 (crc f.body) := by
    rw [hs, Fr.text, show s.size - 4 = f.body.length by rw [Fr.body_len]; omega, List.drop_left]
  have hsum : sumOk s = true := by
    unfold sumOk; rw [hb, hd]; simp
  refine ⟨hok, hsum, Fr.body_inj (frOf_fits s) (Fr.fits_of hf) ?_ ((frOf_body hok).trans hb)⟩
  simp only [frOf, List.length_map, List.length_range, h7n]
end Go.Proofs.YtnpnhbfbklibhaaGreatDoor


/- Slices that grow, all of one's own: nothing of old is written. -/
namespace Go.Proofs.YtnpnhbfbklibhaaGreatDoor
set_option linter.unusedSimpArgs false
set_option linter.unusedVariables false
open Go Go.RowKit
section
variable {P : Program} {ops : Array Oper}
theorem grown_ext {w0 w w' : World} {e : TypeId} {size : Nat} {v : Value} {n : Nat} {xs : List Value} (hx : Ext w0 w) (hown : w.ownsRow w0.heap.size e size v n xs) (hg : w.grownBy w' v.ownBlock) : Ext w0 w' :=
  Keep.new hx (grown_keep hg) fun k hk => (hown.lt k hk).1
/-- append of m elements that lie at an address to a slice of the call's own. -/
theorem does_append0 {o : Oper} {a : Act} {w0 w : World} {R : Value → World → Prop} (hx0 : Ext w0 w) (hg : o.guard = none) (s x : Operand) (t : TypeId)
    (ho : o.op = .call { callee := .builtin .append, args := #[s, x], argTypes := #[t, t] })
    (e : TypeId) (i : TypeInfo) (z : Value) (size bytes : Nat) (ht : P.underlying t = some (.slice e)) (hi : P.info? e = some i) (hz : i.zero = some z)
    (hsize : i.size = size) (hby : i.bytes = bytes) (hzs : z.cells.size = size) (hsz : 0 < size)
    (v : Value) (n : Nat) (xs : List Value) (hs : a.eval s = v) (hown : w.ownsRow w0.heap.size e size v n xs)
    (ad : Addr) (m c : Nat) (news : List Value) (hx : a.eval x = .slice (some ad) m c) (hl : news.length = m * size) (hnews : ∀ j u, news[j]? = some u → w.cell? (ad.add j) = some u) (h1 : ∀ u ∈ news, u.oneCell' = true)
    (h63 : n + m ≤ maxLen) (hbytes : (n + m) * bytes ≤ 140737488355328)
    (h : ∀ v' w', w'.ownsRow w0.heap.size e size v' (n + m) (xs ++ news) → Ext w0 w' → R v' w') : does P ops o a w R := by
  obtain ⟨v', w', hr, h2, h3, h4⟩ := run_append_own (P := P) w w0.heap.size t o.type e i z size bytes ht hi hz hsize hby hzs hsz v n xs hown ad m c news hl hnews h1 h63 hbytes hx0.size
  exact does_of_run hg (run_exec_append s x t ho hs hx hr) (h v' w' h2 (grown_ext hx0 hown h3))
end
end Go.Proofs.YtnpnhbfbklibhaaGreatDoor


/- Operations that make memory and wait for none of each other: any order, one end. -/
namespace Go.Proofs.YtnpnhbfbklibhaaGreatDoor
set_option linter.unusedSimpArgs false
set_option linter.unusedVariables false
open Go Go.RowKit
section
variable {P : Program} {ops : Array Oper} {X : Nat → Prop} {w0 : World} {Q : Act → World → Prop} {L : List Nat}

def GenR (w : World) (R : Value → World → Prop) : Value → World → Prop := fun v w' => Ext w w' ∧ R v w'
theorem does_mono {o : Oper} {a : Act} {w : World} {R R' : Value → World → Prop} (h : does P ops o a w R) (hr : ∀ v w', R v w' → R' v w') : does P ops o a w R' := by
  unfold does at *
  split
  · rename_i hw
    rw [if_pos hw] at h
    generalize (execOp a.eval o).run P w = r at *
    cases r with
    | ok n w' =>
      cases n <;> simp only [Oper.doesUpon] at h ⊢
      case enter f args => exact h.mono fun e w'' ⟨v, he, hv⟩ => ⟨v, he, hr _ _ hv⟩
      all_goals exact hr _ _ h
    | halt x w' => simp only [Oper.doesUpon] at h
  · rename_i hw
    rw [if_neg hw] at h
    exact hr _ _ h
theorem CallR.gen {f : FuncId} {args : Array Value} {w : World} {R : Value → World → Prop} (h : Calls P f args w fun e w' => ∃ v, e = .returned v ∧ Ext w w' ∧ R v w') : Calls P f args w (CallR (GenR w R)) := h

/-- One alone. -/
theorem Flow.one {listed : Array Bool} {C : World → Prop} {a : Act} (i : Nat) (o : Oper) (ho : ops[i]? = some o) (hr : (Region.ready .any ops listed == [i]) = true) (R : Value → World → Prop)
    (hR : ∀ v w w', R v w → Ext w w' → R v w') (h : ∀ w, C w → Keep X w0 w → does P ops o a w (ActR X w0 R))
    (k : ∀ v, (∃ w, R v w) → Flow P ops w0 Q X L (listed.setIfInBounds i true) (R v) (a.put o.dst v)) : Flow P ops w0 Q X L listed C a :=
  Flow.acts [i] hr (by simp) (fun _ => o) (fun _ => R) (fun _ => hR) (fun j hj => by obtain rfl : j = i := by simpa using hj
                                                                                     exact ⟨ho, h⟩) (fun j hj => by obtain rfl : j = i := by simpa using hj
                                                                                                                    exact k)
/-- i beside j. -/
theorem Flow.par2 {listed : Array Bool} {C : World → Prop} {a : Act} (i j : Nat) (oi oj : Oper) (hoi : ops[i]? = some oi) (hoj : ops[j]? = some oj) (hij : i ≠ j)
    (hsi : ∀ cs b, oi.op ≠ .select cs b) (hsj : ∀ cs b, oj.op ≠ .select cs b) (hap : oi.apart ops oj = true)
    (r0 : (Region.ready .any ops listed == [i, j]) = true) (r1 : (Region.ready .any ops (listed.setIfInBounds i true) == [j]) = true) (r2 : (Region.ready .any ops (listed.setIfInBounds j true) == [i]) = true)
    (A B : Value → World → Prop) (hC : ∀ w w', C w → Ext w w' → C w') (hA : ∀ v w w', A v w → Ext w w' → A v w') (hB : ∀ v w w', B v w → Ext w w' → B v w')
    (hi : ∀ w, C w → Keep X w0 w → does P ops oi a w (GenR w A)) (hj : ∀ w, C w → Keep X w0 w → does P ops oj a w (GenR w B))
    (k : ∀ vi vj, (∃ w, A vi w) → (∃ w, B vj w) → Flow P ops w0 Q X L ((listed.setIfInBounds i true).setIfInBounds j true) (fun w => C w ∧ A vi w ∧ B vj w) ((a.put oi.dst vi).put oj.dst vj)) :
    Flow P ops w0 Q X L listed C a := by
  have hs := Oper.apart_spec hap
  refine Flow.acts [i, j] r0 (by simp) (fun n => if n = i then oi else oj) (fun n v w => C w ∧ if n = i then A v w else B v w) ?_ ?_ ?_
  · intro n v w w' ⟨h1, h2⟩ hx
    refine ⟨hC _ _ h1 hx, ?_⟩
    split
    · rename_i e; rw [if_pos e] at h2; exact hA _ _ _ h2 hx
    · rename_i e; rw [if_neg e] at h2; exact hB _ _ _ h2 hx
  · intro n hn
    rcases (by simpa using hn : n = i ∨ n = j) with rfl | rfl
    · refine ⟨by simpa using hoi, fun w h1 h2 => ?_⟩
      simp only [if_true]
      exact does_mono (hi w h1 h2) fun v w' ⟨hx, hv⟩ => ⟨h2.ext_r hx, hC _ _ h1 hx, by simpa using hv⟩
    · refine ⟨by simpa [Ne.symm hij] using hoj, fun w h1 h2 => ?_⟩
      simp only [Ne.symm hij, if_false]
      exact does_mono (hj w h1 h2) fun v w' ⟨hx, hv⟩ => ⟨h2.ext_r hx, hC _ _ h1 hx, by simpa [Ne.symm hij] using hv⟩
  · intro n hn v hv
    rcases (by simpa using hn : n = i ∨ n = j) with rfl | rfl
    · simp only [if_true] at hv ⊢
      obtain ⟨w1, _, hv1⟩ := hv
      refine Flow.acts [j] r1 (by simp) (fun _ => oj) (fun _ u w => C w ∧ A v w ∧ B u w) (fun _ u w w' ⟨h1, h2, h3⟩ hx => ⟨hC _ _ h1 hx, hA _ _ _ h2 hx, hB _ _ _ h3 hx⟩) ?_ ?_
      · intro m hm
        obtain rfl : m = j := by simpa using hm
        refine ⟨hoj, fun w ⟨h1, h2⟩ h3 => ?_⟩
        rw [does_put hsj hs.1]
        exact does_mono (hj w h1 h3) fun u w' ⟨hx, hu⟩ => ⟨h3.ext_r hx, hC _ _ h1 hx, hA _ _ _ h2 hx, hu⟩
      · intro m hm u ⟨w2, _, _, hu⟩
        obtain rfl : m = j := by simpa using hm
        exact k v u ⟨w1, hv1⟩ ⟨w2, hu⟩
    · simp only [Ne.symm hij, if_false] at hv ⊢
      obtain ⟨w1, _, hv1⟩ := hv
      refine Flow.acts [i] r2 (by simp) (fun _ => oi) (fun _ u w => C w ∧ A u w ∧ B v w) (fun _ u w w' ⟨h1, h2, h3⟩ hx => ⟨hC _ _ h1 hx, hA _ _ _ h2 hx, hB _ _ _ h3 hx⟩) ?_ ?_
      · intro m hm
        obtain rfl : m = i := by simpa using hm
        refine ⟨hoi, fun w ⟨h1, h2⟩ h3 => ?_⟩
        rw [does_put hsi hs.2.2]
        exact does_mono (hi w h1 h3) fun u w' ⟨hx, hu⟩ => ⟨h3.ext_r hx, hC _ _ h1 hx, hu, hB _ _ _ h2 hx⟩
      · intro m hm u ⟨w2, _, hu, _⟩
        obtain rfl : m = i := by simpa using hm
        have := k u v ⟨w2, hu⟩ ⟨w1, hv1⟩
        rw [Array.setIfInBounds_comm _ _ hij, Act.put_comm a u v hs.2.1] at this
        exact this

/-- i beside j and, behind it, k. -/
theorem Flow.par3 {listed : Array Bool} {C : World → Prop} {a : Act} (i j m : Nat) (oi oj om : Oper) (hoi : ops[i]? = some oi) (hoj : ops[j]? = some oj) (hom : ops[m]? = some om) (hij : i ≠ j) (him : i ≠ m)
    (hsi : ∀ cs b, oi.op ≠ .select cs b) (hsj : ∀ cs b, oj.op ≠ .select cs b) (hsm : ∀ cs b, om.op ≠ .select cs b) (hap : oi.apart ops oj = true) (hap2 : oi.apart ops om = true)
    (r0 : (Region.ready .any ops listed == [i, j]) = true) (r1 : (Region.ready .any ops (listed.setIfInBounds i true) == [j]) = true) (r2 : (Region.ready .any ops ((listed.setIfInBounds i true).setIfInBounds j true) == [m]) = true)
    (r3 : (Region.ready .any ops (listed.setIfInBounds j true) == [i, m]) = true) (r4 : (Region.ready .any ops ((listed.setIfInBounds j true).setIfInBounds m true) == [i]) = true) 
    (A B : Value → World → Prop) (D : Value → Value → World → Prop) (hC : ∀ w w', C w → Ext w w' → C w') (hA : ∀ v w w', A v w → Ext w w' → A v w') (hB : ∀ v w w', B v w → Ext w w' → B v w') (hD : ∀ u v w w', D u v w → Ext w w' → D u v w')
    (hi : ∀ w, C w → Keep X w0 w → does P ops oi a w (GenR w A)) (hj : ∀ w, C w → Keep X w0 w → does P ops oj a w (GenR w B))
    (hm : ∀ vj w, C w → B vj w → Keep X w0 w → does P ops om (a.put oj.dst vj) w (GenR w (D vj)))
    (k : ∀ vi vj vm, (∃ w, A vi w) → (∃ w, B vj w) → (∃ w, D vj vm w) → Flow P ops w0 Q X L (((listed.setIfInBounds i true).setIfInBounds j true).setIfInBounds m true) (fun w => C w ∧ A vi w ∧ B vj w ∧ D vj vm w) (((a.put oi.dst vi).put oj.dst vj).put om.dst vm)) :
    Flow P ops w0 Q X L listed C a := by
  have hs := Oper.apart_spec hap
  have hs2 := Oper.apart_spec hap2
  -- both done, then m
  have both : ∀ vi vj, (∃ w, A vi w) → (∃ w, B vj w) → Flow P ops w0 Q X L ((listed.setIfInBounds i true).setIfInBounds j true) (fun w => C w ∧ A vi w ∧ B vj w) ((a.put oi.dst vi).put oj.dst vj) := by
    intro vi vj h1 h2
    refine Flow.acts [m] r2 (by simp) (fun _ => om) (fun _ u w => C w ∧ A vi w ∧ B vj w ∧ D vj u w) (fun _ u w w' ⟨h1, h2, h3, h4⟩ hx => ⟨hC _ _ h1 hx, hA _ _ _ h2 hx, hB _ _ _ h3 hx, hD _ _ _ _ h4 hx⟩) ?_ ?_
    · intro n hn
      obtain rfl : n = m := by simpa using hn
      refine ⟨hom, fun w ⟨h1, h2, h3⟩ h4 => ?_⟩
      rw [Act.put_comm a vi vj hs.2.1, does_put hsm hs2.1]
      exact does_mono (hm vj w h1 h3 h4) fun u w' ⟨hx, hu⟩ => ⟨h4.ext_r hx, hC _ _ h1 hx, hA _ _ _ h2 hx, hB _ _ _ h3 hx, hu⟩
    · intro n hn u ⟨w2, _, _, _, hu⟩
      obtain rfl : n = m := by simpa using hn
      exact k vi vj u h1 h2 ⟨w2, hu⟩
  refine Flow.acts [i, j] r0 (by simp) (fun n => if n = i then oi else oj) (fun n v w => C w ∧ if n = i then A v w else B v w) ?_ ?_ ?_
  · intro n v w w' ⟨h1, h2⟩ hx
    refine ⟨hC _ _ h1 hx, ?_⟩
    split
    · rename_i e; rw [if_pos e] at h2; exact hA _ _ _ h2 hx
    · rename_i e; rw [if_neg e] at h2; exact hB _ _ _ h2 hx
  · intro n hn
    rcases (by simpa using hn : n = i ∨ n = j) with rfl | rfl
    · refine ⟨by simpa using hoi, fun w h1 h2 => ?_⟩
      simp only [if_true]
      exact does_mono (hi w h1 h2) fun v w' ⟨hx, hv⟩ => ⟨h2.ext_r hx, hC _ _ h1 hx, by simpa using hv⟩
    · refine ⟨by simpa [Ne.symm hij] using hoj, fun w h1 h2 => ?_⟩
      simp only [Ne.symm hij, if_false]
      exact does_mono (hj w h1 h2) fun v w' ⟨hx, hv⟩ => ⟨h2.ext_r hx, hC _ _ h1 hx, by simpa [Ne.symm hij] using hv⟩
  · intro n hn v hv
    rcases (by simpa using hn : n = i ∨ n = j) with rfl | rfl
    · simp only [if_true] at hv ⊢
      obtain ⟨w1, _, hv1⟩ := hv
      refine Flow.acts [j] r1 (by simp) (fun _ => oj) (fun _ u w => C w ∧ A v w ∧ B u w) (fun _ u w w' ⟨h1, h2, h3⟩ hx => ⟨hC _ _ h1 hx, hA _ _ _ h2 hx, hB _ _ _ h3 hx⟩) ?_ ?_
      · intro m hm
        obtain rfl : m = j := by simpa using hm
        refine ⟨hoj, fun w ⟨h1, h2⟩ h3 => ?_⟩
        rw [does_put hsj hs.1]
        exact does_mono (hj w h1 h3) fun u w' ⟨hx, hu⟩ => ⟨h3.ext_r hx, hC _ _ h1 hx, hA _ _ _ h2 hx, hu⟩
      · intro m hm u ⟨w2, _, _, hu⟩
        obtain rfl : m = j := by simpa using hm
        exact both v u ⟨w1, hv1⟩ ⟨w2, hu⟩
    · simp only [Ne.symm hij, if_false] at hv ⊢
      obtain ⟨w1, _, hv1⟩ := hv
      refine Flow.acts [i, m] r3 (by simp) (fun q => if q = i then oi else om) (fun q u w => C w ∧ B v w ∧ if q = i then A u w else D v u w) ?_ ?_ ?_
      · intro q u w w' ⟨h1, h2, h3⟩ hx
        refine ⟨hC _ _ h1 hx, hB _ _ _ h2 hx, ?_⟩
        split
        · rename_i e; rw [if_pos e] at h3; exact hA _ _ _ h3 hx
        · rename_i e; rw [if_neg e] at h3; exact hD _ _ _ _ h3 hx
      · intro q hq
        rcases (by simpa using hq : q = i ∨ q = m) with rfl | rfl
        · refine ⟨by simpa using hoi, fun w ⟨h1, h2⟩ h3 => ?_⟩
          simp only [if_true]
          rw [does_put hsi hs.2.2]
          exact does_mono (hi w h1 h3) fun u w' ⟨hx, hu⟩ => ⟨h3.ext_r hx, hC _ _ h1 hx, hB _ _ _ h2 hx, by simpa using hu⟩
        · refine ⟨by simpa [Ne.symm him] using hom, fun w ⟨h1, h2⟩ h3 => ?_⟩
          simp only [Ne.symm him, if_false]
          exact does_mono (hm v w h1 h2 h3) fun u w' ⟨hx, hu⟩ => ⟨h3.ext_r hx, hC _ _ h1 hx, hB _ _ _ h2 hx, by simpa [Ne.symm him] using hu⟩
      · intro q hq u hu
        rcases (by simpa using hq : q = i ∨ q = m) with rfl | rfl
        · simp only [if_true] at hu ⊢
          obtain ⟨w2, _, _, hu2⟩ := hu
          have := both u v ⟨w2, hu2⟩ ⟨w1, hv1⟩
          rw [Array.setIfInBounds_comm _ _ hij, Act.put_comm a u v hs.2.1] at this
          exact Flow.mono this fun w ⟨h1, h2, h3⟩ => ⟨h1, h3, h2⟩
        · simp only [Ne.symm him, if_false] at hu ⊢
          obtain ⟨w2, _, _, hu2⟩ := hu
          refine Flow.acts [i] r4 (by simp) (fun _ => oi) (fun _ x w => C w ∧ A x w ∧ B v w ∧ D v u w) (fun _ x w w' ⟨h1, h2, h3, h4⟩ hx => ⟨hC _ _ h1 hx, hA _ _ _ h2 hx, hB _ _ _ h3 hx, hD _ _ _ _ h4 hx⟩) ?_ ?_
          · intro q hq
            obtain rfl : q = i := by simpa using hq
            refine ⟨hoi, fun w ⟨h1, h2, h3⟩ h4 => ?_⟩
            rw [does_put hsi hs2.2.2, does_put hsi hs.2.2]
            exact does_mono (hi w h1 h4) fun x w' ⟨hx, hv⟩ => ⟨h4.ext_r hx, hC _ _ h1 hx, hv, hB _ _ _ h2 hx, hD _ _ _ _ h3 hx⟩
          · intro q hq x ⟨w3, _, hx, _, _⟩
            obtain rfl : q = i := by simpa using hq
            have := k x v u ⟨w3, hx⟩ ⟨w1, hv1⟩ ⟨w2, hu2⟩
            rw [Array.setIfInBounds_comm _ _ hij, Array.setIfInBounds_comm _ _ him, Act.put_comm a x v hs.2.1, Act.put_comm _ x u hs2.2.1] at this
            exact this
end
end Go.Proofs.YtnpnhbfbklibhaaGreatDoor


/- The frame: a right one is written. -/
namespace Go.Proofs.YtnpnhbfbklibhaaGreatDoor
set_option linter.unusedSimpArgs false
set_option linter.unusedVariables false
open Go Go.RowKit

/-- A row of bytes of the call's own. -/
def BRow (w0 w : World) (v : Value) (l : List UInt8) : Prop := w.ownsRow w0.heap.size 5 1 v l.length (bcells l)
theorem bcells_len (l : List UInt8) : (bcells l).length = l.length := by simp [bcells]
theorem bcells_append (l m : List UInt8) : bcells (l ++ m) = bcells l ++ bcells m := by simp [bcells]
theorem bcells_one {l : List UInt8} : ∀ u ∈ bcells l, u.oneCell' = true := by
  intro u hu
  simp only [bcells, List.mem_map] at hu
  obtain ⟨b, _, rfl⟩ := hu
  rfl
theorem own_ext {w w' : World} {base : Nat} {e : TypeId} {size : Nat} {v : Value} {n : Nat} {xs : List Value} (h : w.ownsRow base e size v n xs) (x : Ext w w') : w'.ownsRow base e size v n xs := by
  obtain ⟨h1, h2⟩ := h
  refine ⟨h1, h2.imp id ?_⟩
  rintro ⟨g, cap, cur, rfl, hb, hg, h3⟩
  exact ⟨g, cap, cur, rfl, hb, x.get hg, h3⟩
theorem BRow.ext {w0 w w' : World} {v : Value} {l : List UInt8} (h : BRow w0 w v l) (x : Ext w w') : BRow w0 w' v l := own_ext h x
theorem BRow.made (w0 w : World) (h : w0.heap.size ≤ w.heap.size) (l : List UInt8) (hl : l.length ≤ 1000) : BRow w0 (w.alloc (.cells (bcells l).toArray 5)) (.slice (some ⟨w.heap.size, 0, none⟩) l.length l.length) l :=
  ⟨by simp [bcells], .inr ⟨w.heap.size, l.length, _, rfl, h, heap_alloc_new w _, Nat.le_refl _, by simp only [maxLen]; omega, by simp [bcells], by simp [bcells, List.take_of_length_le]⟩⟩

/-- The region's two makers. -/
def HighR (n : Nat) : Value → World → Prop := fun v w => ∃ g, v = .slice (some ⟨g, 0, none⟩) 4 4 ∧ Blk w g (bcells (high4 n)).toArray 5
theorem Blk.av {w : World} {b : Nat} {c : Array Value} {e : TypeId} (h : Blk w b c e) (i : Nat) {v : Value} (hv : c[i]? = some v) : w.cell? ⟨b, i, none⟩ = some v := (h.cell i).trans hv
theorem byte_val (k : Nat) (h : k < 256) : Value.int .u8 ((UInt8.ofNat k).toNat : Int) = Value.int .u8 (k : Int) := by
  rw [byte_cell]; congr 1; omega
theorem BRow.text {w0 w : World} {v : Value} {l : List UInt8} (h : BRow w0 w v l) (hl : l ≠ []) : ∃ g cap cur, v = .slice (some ⟨g, 0, none⟩) l.length cap ∧ Blk w g cur 5 ∧ ∀ j, j < l.length → cur[j]? = (bcells l)[j]? := by
  rcases h.2 with ⟨_, h0⟩ | ⟨g, cap, cur, hv, _, hg, hnc, _, hcs, htake⟩
  · exact absurd (List.length_eq_zero_iff.1 h0) hl
  · refine ⟨g, cap, cur, hv, hg, fun j hj => ?_⟩
    rw [← htake, List.getElem?_take, if_pos (by omega)]
    simp

theorem flat_take_succ (nums : List Int) (k : Nat) (h : k < nums.length) : ((nums.take (k + 1)).flatMap fun n => high4 n.toNat) = ((nums.take k).flatMap fun n => high4 n.toNat) ++ high4 (nums.getD k 0).toNat := by
  rw [List.take_succ_eq_append_getElem h, List.flatMap_append, List.getD_eq_getElem?_getD, List.getElem?_eq_getElem h]
  simp


end Go.Proofs.YtnpnhbfbklibhaaGreatDoor


/- The frame: it is read. -/
namespace Go.Proofs.YtnpnhbfbklibhaaGreatDoor
set_option linter.unusedSimpArgs false
set_option linter.unusedVariables false
open Go Go.RowKit

def fr0 : Value := .agg #[.int .u8 0, .int .i64 0, .int .i64 0, .int .i64 0, .slice none 0 0]

def frz : Array Value := #[.int .u8 0, .int .i64 0, .int .i64 0, .int .i64 0, .slice none 0 0]
theorem Keep.cellx {X : Nat → Prop} {w w' : World} (h : Keep X w w') {x : Addr} {v : Value} (hc : w.cell? x = some v) (hx : ¬ X x.block) : w'.cell? x = some v := by
  have hb := h.block x.block (cell_lt hc) hx
  unfold World.cell? at *
  rw [hb]
  exact hc
theorem store5 {w : World} {n : Nat} {a0 a1 a2 a3 a4 b0 b1 b2 b3 b4 : Value} {e : TypeId} (h : Blk w n #[a0, a1, a2, a3, a4] e) :
    Blk (((((w.setCell ⟨n, 0, none⟩ b0).setCell ⟨n, 1, none⟩ b1).setCell ⟨n, 2, none⟩ b2).setCell ⟨n, 3, none⟩ b3).setCell ⟨n, 4, none⟩ b4) n #[b0, b1, b2, b3, b4] e := by
  have := ((((h.set 0 b0).set 1 b1).set 2 b2).set 3 b3).set 4 b4
  simpa using this
theorem store5_keep (w : World) (n : Nat) (b0 b1 b2 b3 b4 : Value) : Keep (fun b => b = n) w (((((w.setCell ⟨n, 0, none⟩ b0).setCell ⟨n, 1, none⟩ b1).setCell ⟨n, 2, none⟩ b2).setCell ⟨n, 3, none⟩ b3).setCell ⟨n, 4, none⟩ b4) :=
  have k : ∀ (u : World) i v, Keep (fun b => b = n) w u → Keep (fun b => b = n) w (u.setCell ⟨n, i, none⟩ v) := fun _ _ v h => h.set rfl v
  k _ _ _ (k _ _ _ (k _ _ _ (k _ _ _ (k _ _ _ (Keep.refl _ w)))))

theorem Keep.tr {X Y : Nat → Prop} {a b c : World} (h : Keep X a b) (k : Keep Y b c) (hx : ∀ n, Y n → a.heap.size ≤ n ∨ X n) : Keep X a c :=
  ⟨k.os.trans h.os, k.tape.trans h.tape, k.output.trans h.output, Nat.le_trans h.size k.size, fun i hi hX => (k.block i (Nat.lt_of_lt_of_le hi h.size) fun hY => (hx i hY).elim (fun h => by omega) hX).trans (h.block i hi hX)⟩
theorem Errs.at_ {w : World} {ev : Nat → Value} (h : Errs w ev) {W : World} (x : Ext w W) (i c : Nat) (hc : w.cell? ⟨i, 0, none⟩ = some (ev c)) : ∀ w1, Keep (fun b => b = w.heap.size) W w1 → w1.cell? ⟨i, 0, none⟩ = some (ev c) :=
  fun _ hk => hk.cellx (x.cellx hc) (fun e => by have := cell_lt hc; simp only at e this; omega)


end Go.Proofs.YtnpnhbfbklibhaaGreatDoor


/- Programs: what they are, plainly, and how they lie in memory. -/
namespace Go.Proofs.YtnpnhbfbklibhaaGreatDoor
set_option linter.unusedSimpArgs false
set_option linter.unusedVariables false
open Go Go.RowKit

theorem Keep.get? {X : Nat → Prop} {w w' : World} (h : Keep X w w') {x : Addr} {v : Value} (hc : w.cell? x = some v) (hx : ¬ X x.block) : w'.cell? x = some v := h.cellx hc hx

structure PF where
  name : ByteArray
  params : List Int
  ret : Int
structure PS where
  kind : ByteArray
  x : Int
  y : Int
  args : List Int
structure PP where
  vars : List ByteArray
  funs : List PF
  stmts : List PS

/-- A slice of so many elements, wherever it lies below n0; what its elements are (by number and address). -/
structure ElR (n0 : Nat) (v : Value) (n : Nat) (E : Nat → Addr → Prop) : Prop where
  form : ∃ a cap, v = .slice a n cap ∧ n ≤ cap ∧ (cap : Int) ≤ 9223372036854775807 ∧ (0 < n → ∃ y, a = some y) ∧ ∀ y, a = some y → 0 < n → y.block < n0 ∧ ∀ i, i < n → E i y
theorem ElR.mono {n0 n1 n : Nat} {v : Value} {E F : Nat → Addr → Prop} (h : ElR n0 v n E) (hn : n0 ≤ n1) (hE : ∀ i y, i < n → y.block < n0 → E i y → F i y) : ElR n1 v n F := by
  obtain ⟨a, cap, h1, h2, h3, h4, h5⟩ := h
  refine ⟨a, cap, h1, h2, h3, h4, fun y hy h0 => ⟨Nat.lt_of_lt_of_le (h5 y hy h0).1 hn, fun i hi => hE i y hi (h5 y hy h0).1 ((h5 y hy h0).2 i hi)⟩⟩

/-- Strings. -/
def StrsR (w : World) (n0 : Nat) (v : Value) (l : List ByteArray) : Prop := ElR n0 v l.length fun i y => ∀ s, l[i]? = some s → w.cell? (y.add i) = some (.string s)
/-- Numbers. -/
def IntsR (w : World) (n0 : Nat) (v : Value) (l : List Int) : Prop := ElR n0 v l.length fun i y => ∀ s, l[i]? = some s → w.cell? (y.add i) = some (.int .i64 s)
def FunsR (w : World) (n0 : Nat) (v : Value) (l : List PF) : Prop := ElR n0 v l.length fun i y => ∀ f, l[i]? = some f → ∃ pv, w.cell? (y.add (i * 3)) = some (.string f.name) ∧ w.cell? ((y.add (i * 3)).add 1) = some pv ∧ w.cell? ((y.add (i * 3)).add 2) = some (.int .i64 f.ret) ∧ IntsR w n0 pv f.params
def StmtsR (w : World) (n0 : Nat) (v : Value) (l : List PS) : Prop := ElR n0 v l.length fun i y => ∀ s, l[i]? = some s → ∃ av, w.cell? (y.add (i * 4)) = some (.string s.kind) ∧ w.cell? ((y.add (i * 4)).add 1) = some (.int .i64 s.x) ∧ w.cell? ((y.add (i * 4)).add 2) = some (.int .i64 s.y) ∧ w.cell? ((y.add (i * 4)).add 3) = some av ∧ IntsR w n0 av s.args
/-- A program. -/
structure ProgR (w : World) (n0 : Nat) (v1 v2 v3 : Value) (P : PP) : Prop where
  vars : StrsR w n0 v1 P.vars
  funs : FunsR w n0 v2 P.funs
  stmts : StmtsR w n0 v3 P.stmts

/-- Nothing below n0 is written. -/
def Old (n0 : Nat) (w w' : World) : Prop := Keep (fun b => n0 ≤ b) w w'
theorem Old.refl (n0 : Nat) (w : World) : Old n0 w w := Keep.refl _ _
theorem Old.trans {n0 : Nat} {a b c : World} (h : Old n0 a b) (k : Old n0 b c) : Old n0 a c := Keep.trans h k
theorem Ext.old {w w' : World} (h : Ext w w') (n0 : Nat) : Old n0 w w' := h.keep _
theorem Old.cellx {n0 : Nat} {w w' : World} (h : Old n0 w w') {x : Addr} {v : Value} (hc : w.cell? x = some v) (hx : x.block < n0) : w'.cell? x = some v := Keep.cellx h hc (by omega)
theorem StrsR.old {w w' : World} {n0 : Nat} {v : Value} {l : List ByteArray} (h : StrsR w n0 v l) (k : Old n0 w w') : StrsR w' n0 v l :=
  ElR.mono h (Nat.le_refl _) fun i y _ hy hE s hs => k.cellx (hE s hs) (by rw [add_block]; exact hy)
theorem IntsR.old {w w' : World} {n0 : Nat} {v : Value} {l : List Int} (h : IntsR w n0 v l) (k : Old n0 w w') : IntsR w' n0 v l :=
  ElR.mono h (Nat.le_refl _) fun i y _ hy hE s hs => k.cellx (hE s hs) (by rw [add_block]; exact hy)
theorem FunsR.old {w w' : World} {n0 : Nat} {v : Value} {l : List PF} (h : FunsR w n0 v l) (k : Old n0 w w') : FunsR w' n0 v l :=
  ElR.mono h (Nat.le_refl _) fun i y _ hy hE s hs => by
    obtain ⟨pv, h1, h2, h3, h4⟩ := hE s hs
    exact ⟨pv, k.cellx h1 (by rw [add_block]; exact hy), k.cellx h2 (by rw [add_block, add_block]; exact hy), k.cellx h3 (by rw [add_block, add_block]; exact hy), h4.old k⟩
theorem StmtsR.old {w w' : World} {n0 : Nat} {v : Value} {l : List PS} (h : StmtsR w n0 v l) (k : Old n0 w w') : StmtsR w' n0 v l :=
  ElR.mono h (Nat.le_refl _) fun i y _ hy hE s hs => by
    obtain ⟨pv, h1, h2, h3, h4, h5⟩ := hE s hs
    exact ⟨pv, k.cellx h1 (by rw [add_block]; exact hy), k.cellx h2 (by rw [add_block, add_block]; exact hy), k.cellx h3 (by rw [add_block, add_block]; exact hy), k.cellx h4 (by rw [add_block, add_block]; exact hy), h5.old k⟩
theorem ProgR.old {w w' : World} {n0 : Nat} {v1 v2 v3 : Value} {P : PP} (h : ProgR w n0 v1 v2 v3 P) (k : Old n0 w w') : ProgR w' n0 v1 v2 v3 P := ⟨h.vars.old k, h.funs.old k, h.stmts.old k⟩
theorem ProgR.ext {w w' : World} {n0 : Nat} {v1 v2 v3 : Value} {P : PP} (h : ProgR w n0 v1 v2 v3 P) (k : Ext w w') : ProgR w' n0 v1 v2 v3 P := h.old (k.old _)
theorem IntsR.ints {w : World} {n0 : Nat} {a : Option Addr} {n cap : Nat} {l : List Int} (h : IntsR w n0 (.slice a n cap) l) (hi : ∀ i, l.getD i 0 ≤ 9223372036854775807) : Ints w a l.length l := by
  obtain ⟨a', cap', h1, h2, h3, h4, h5⟩ := h
  obtain ⟨rfl, rfl, rfl⟩ : a = a' ∧ n = l.length ∧ cap = cap' := by simpa using h1
  refine ⟨rfl, h4, fun x hx i hi => ?_, hi⟩
  rw [(h5 x hx (by omega)).2 i hi (l[i]'hi) (List.getElem?_eq_getElem hi)]
  simp [List.getD_eq_getElem?_getD, hi]

/-- Is a string one of these? -/
def eqB (s t : ByteArray) : Bool := s.toList == t.toList
def memB (s : ByteArray) (l : List ByteArray) : Bool := l.any fun t => eqB s t
/-- Is one there ahead of its place? -/
def dupS (l : List ByteArray) : Bool := (List.range l.length).any fun i => memB (l.getD i ⟨#[]⟩) (l.take i)
def dupI (l : List Int) : Bool := (List.range l.length).any fun i => decide (l.getD i 0 ∈ l.take i)
def letters : List UInt8 := [97, 98, 99, 100, 101, 102, 103, 104, 105, 106, 107, 108, 109, 110, 111, 112, 113, 114, 115, 116, 117, 118, 119, 120, 121, 122, 48, 49, 50, 51, 52, 53, 54, 55, 56, 57]
def PP.inV (P : PP) (n : Int) : Bool := !(decide (n < 0) || decide ((P.vars.length : Int) ≤ n))
def PP.allV (P : PP) (l : List Int) : Bool := l.all P.inV
end Go.Proofs.YtnpnhbfbklibhaaGreatDoor


/- Programs: what is one of a list; what is there twice. -/
namespace Go.Proofs.YtnpnhbfbklibhaaGreatDoor
set_option linter.unusedSimpArgs false
set_option linter.unusedVariables false
open Go Go.RowKit

set_option maxRecDepth 100000 in
set_option maxHeartbeats 800000 in
theorem indexs_any (v : Value) (l : List ByteArray) (s : ByteArray) (w : World) (n0 : Nat) (h : StrsR w n0 v l) : Calls Tryz.prog 82 #[v, .string s] w fun e w' => ∃ r : Int, e = .returned (.int .i64 r) ∧ IdxR (memB s l = true) r ∧ w = w' := by
  obtain ⟨a, cap, rfl, h2, h3, h4, h5⟩ := h
  have H4 := hid h4
  have H5 := hid h5
  have hml : (l.length : Int) ≤ 9223372036854775807 := by omega
  clear h2 h3 h4 h5
  go_enter Tryz.func82, Tryz.ntmps82
  go_wp2
  go_loop [8] (fun t8 => ∃ k : Nat, t8 = .int .i64 (k : Int) ∧ k ≤ l.length ∧ ∀ j t, j < k → l[j]? = some t → eqB s t = false) (fun t8 => l.length - (intOf t8).toNat)
  case atStart => exact ⟨0, rfl, Nat.zero_le _, fun j t h => by omega⟩
  case round =>
    obtain ⟨k, rfl, hk, hne⟩ := hrel
    have Hne := hid hne
    clear hne
    by_cases hlt : k < l.length
    · obtain ⟨y, rfl⟩ := H4.out (by omega)
      have hxk : l[k]? = some (l[k]'hlt) := List.getElem?_eq_getElem hlt
      obtain ⟨t, ht⟩ : ∃ t, t = l[k]'hlt := ⟨_, rfl⟩
      rw [← ht] at hxk
      have hc := (H5.out y rfl (by omega)).2 k hlt t hxk
      have Hxk := hid hxk
      clear hxk ht
      cases he : eqB s t with
      | true =>
        have Hin := hid (IdxR.yes (k := k) (show memB s l = true from List.any_eq_true.2 ⟨t, List.mem_of_getElem? Hxk.out, he⟩) (by omega))
        unfold eqB at he
        go_wp2
        go_ret
        exact ⟨(k : Int), rfl, Hin.out, rfl⟩
      | false =>
        have Hf := hid he
        unfold eqB at he
        go_wp2
        refine ⟨⟨k + 1, by go_num, by omega, fun j u hj hu => ?_⟩, by simp [intOf]; omega⟩
        by_cases hjk : j = k
        · subst hjk
          obtain rfl := Option.some.inj (Hxk.out.symm.trans hu)
          exact Hf.out
        · exact Hne.out j u (by omega) hu
    · obtain rfl : k = l.length := by omega
      have Hnot := hid (IdxR.no (show ¬ memB s l = true from fun hm => by
        obtain ⟨t, ht, e⟩ := List.any_eq_true.1 hm
        obtain ⟨j, hj, e2⟩ := List.mem_iff_getElem.1 ht
        rw [Hne.out j t hj (by rw [List.getElem?_eq_getElem hj, e2])] at e
        cases e))
      go_wp2
      go_ret
      exact ⟨(-1 : Int), rfl, Hnot.out, rfl⟩

set_option maxRecDepth 100000 in
set_option maxHeartbeats 800000 in
theorem containss_any (v : Value) (l : List ByteArray) (s : ByteArray) (w : World) (n0 : Nat) (h : StrsR w n0 v l) : Calls Tryz.prog 58 #[v, .string s] w fun e w' => e = .returned (.bool (memB s l)) ∧ w = w' := by
  have H := hid (indexs_any v l s w n0 h)
  obtain ⟨a, cap, rfl, _⟩ := h
  go_enter Tryz.func58, Tryz.ntmps58
  go_wp2_with fail
  refine H.out.mono ?_
  intro e w1 hx
  obtain ⟨r, rfl, hiff, rfl⟩ := hx
  have hr := hiff.1
  have Hiff := hid hiff.2
  clear hiff H
  go_wp2
  go_ret
  refine ⟨congrArg (fun n => Ending.returned (Value.bool n)) ?_, rfl⟩
  have h1 := Hiff.out
  cases hv : memB s l with
  | true => rw [hv] at h1; simpa using h1
  | false => rw [hv] at h1; simpa using h1

set_option maxRecDepth 100000 in
set_option maxHeartbeats 800000 in
theorem indexi_any (v : Value) (l : List Int) (s : Int) (w : World) (n0 : Nat) (h : IntsR w n0 v l) : Calls Tryz.prog 84 #[v, .int .i64 s] w fun e w' => ∃ r : Int, e = .returned (.int .i64 r) ∧ IdxR (s ∈ l) r ∧ w = w' := by
  obtain ⟨a, cap, rfl, h2, h3, h4, h5⟩ := h
  have H4 := hid h4
  have H5 := hid h5
  have hml : (l.length : Int) ≤ 9223372036854775807 := by omega
  clear h2 h3 h4 h5
  go_enter Tryz.func84, Tryz.ntmps84
  go_wp2
  go_loop [8] (fun t8 => ∃ k : Nat, t8 = .int .i64 (k : Int) ∧ k ≤ l.length ∧ ∀ j t, j < k → l[j]? = some t → s ≠ t) (fun t8 => l.length - (intOf t8).toNat)
  case atStart => exact ⟨0, rfl, Nat.zero_le _, fun j t h => by omega⟩
  case round =>
    obtain ⟨k, rfl, hk, hne⟩ := hrel
    have Hne := hid hne
    clear hne
    by_cases hlt : k < l.length
    · obtain ⟨y, rfl⟩ := H4.out (by omega)
      have hxk : l[k]? = some (l[k]'hlt) := List.getElem?_eq_getElem hlt
      obtain ⟨t, ht⟩ : ∃ t, t = l[k]'hlt := ⟨_, rfl⟩
      rw [← ht] at hxk
      have hc := (H5.out y rfl (by omega)).2 k hlt t hxk
      have Hxk := hid hxk
      clear hxk ht
      by_cases he : s = t
      · subst he
        have Hin := hid (IdxR.yes (k := k) (List.mem_of_getElem? Hxk.out) (by omega))
        go_wp2
        go_ret
        exact ⟨(k : Int), rfl, Hin.out, rfl⟩
      · have Hf := hid he
        go_wp2
        refine ⟨⟨k + 1, by go_num, by omega, fun j u hj hu => ?_⟩, by simp [intOf]; omega⟩
        by_cases hjk : j = k
        · subst hjk
          obtain rfl := Option.some.inj (Hxk.out.symm.trans hu)
          exact Hf.out
        · exact Hne.out j u (by omega) hu
    · obtain rfl : k = l.length := by omega
      have Hnot := hid (IdxR.no (show ¬ s ∈ l from fun ht => by
        obtain ⟨j, hj, e2⟩ := List.mem_iff_getElem.1 ht
        exact Hne.out j s hj (by rw [List.getElem?_eq_getElem hj, e2]) rfl))
      go_wp2
      go_ret
      exact ⟨(-1 : Int), rfl, Hnot.out, rfl⟩
set_option maxRecDepth 100000 in
set_option maxHeartbeats 800000 in
theorem containsi_any (v : Value) (l : List Int) (s : Int) (w : World) (n0 : Nat) (h : IntsR w n0 v l) : Calls Tryz.prog 63 #[v, .int .i64 s] w fun e w' => e = .returned (.bool (decide (s ∈ l))) ∧ w = w' := by
  have H := hid (indexi_any v l s w n0 h)
  obtain ⟨a, cap, rfl, _⟩ := h
  go_enter Tryz.func63, Tryz.ntmps63
  go_wp2_with fail
  refine H.out.mono ?_
  intro e w1 hx
  obtain ⟨r, rfl, hiff, rfl⟩ := hx
  have hr := hiff.1
  have Hiff := hid hiff.2
  clear hiff H
  go_wp2
  go_ret
  refine ⟨?_, rfl⟩
  exact congrArg (fun n => Ending.returned (Value.bool n)) (decide_eq_decide.2 Hiff.out)

theorem IntsR.take {w : World} {n0 : Nat} {a : Option Addr} {n cap : Nat} {l : List Int} (h : IntsR w n0 (.slice a n cap) l) (i : Nat) (hi : i ≤ l.length) : IntsR w n0 (.slice a i cap) (l.take i) := by
  obtain ⟨a', cap', h1, h2, h3, h4, h5⟩ := h
  obtain ⟨rfl, rfl, rfl⟩ : a = a' ∧ n = l.length ∧ cap = cap' := by simpa using h1
  have hl : (l.take i).length = i := by simp; omega
  unfold IntsR
  rw [hl]
  refine ⟨a, cap, rfl, by omega, h3, fun h0 => h4 (by omega), fun y hy h0 => ⟨(h5 y hy (by omega)).1, fun j hj s hs => (h5 y hy (by omega)).2 j (by omega) s ?_⟩⟩
  rwa [List.getElem?_take, if_pos hj] at hs
theorem StrsR.take {w : World} {n0 : Nat} {a : Option Addr} {n cap : Nat} {l : List ByteArray} (h : StrsR w n0 (.slice a n cap) l) (i : Nat) (hi : i ≤ l.length) : StrsR w n0 (.slice a i cap) (l.take i) := by
  obtain ⟨a', cap', h1, h2, h3, h4, h5⟩ := h
  obtain ⟨rfl, rfl, rfl⟩ : a = a' ∧ n = l.length ∧ cap = cap' := by simpa using h1
  have hl : (l.take i).length = i := by simp; omega
  unfold StrsR
  rw [hl]
  refine ⟨a, cap, rfl, by omega, h3, fun h0 => h4 (by omega), fun y hy h0 => ⟨(h5 y hy (by omega)).1, fun j hj s hs => (h5 y hy (by omega)).2 j (by omega) s ?_⟩⟩
  rwa [List.getElem?_take, if_pos hj] at hs

set_option maxRecDepth 100000 in
set_option maxHeartbeats 800000 in
theorem twice_any (v : Value) (l : List Int) (w : World) (n0 : Nat) (h : IntsR w n0 v l) : Calls Tryz.prog 60 #[v] w fun e w' => e = .returned (.bool (dupI l)) ∧ w = w' := by
  have HI := hid h
  obtain ⟨a, cap, rfl, h2, h3, h4, h5⟩ := h
  have H4 := hid h4
  have H5 := hid h5
  have hml : (l.length : Int) ≤ 9223372036854775807 := by omega
  clear h4 h5
  go_enter Tryz.func60, Tryz.ntmps60
  go_wp2
  go_loop [7] (fun t7 => ∃ k : Nat, t7 = .int .i64 (k : Int) ∧ k ≤ l.length ∧ ∀ j, j < k → ¬ l.getD j 0 ∈ l.take j) (fun t7 => l.length - (intOf t7).toNat)
  case atStart => exact ⟨0, rfl, Nat.zero_le _, fun j h => by omega⟩
  case round =>
    obtain ⟨k, rfl, hk, hne⟩ := hrel
    have Hne := hid hne
    clear hne
    by_cases hlt : k < l.length
    · obtain ⟨y, rfl⟩ := H4.out (by omega)
      have hxk : l[k]? = some (l.getD k 0) := by simp [List.getD_eq_getElem?_getD, hlt]
      have hc := (H5.out y rfl (by omega)).2 k hlt _ hxk
      have HC := hid (containsi_any _ _ (l.getD k 0) w n0 (HI.out.take k hk))
      obtain ⟨t, ht⟩ : ∃ t, t = l.getD k 0 := ⟨_, rfl⟩
      rw [← ht] at hc HC
      have Ht := hid ht
      clear ht hxk
      go_wp2_with fail
      refine HC.out.mono ?_
      intro e w1 hx
      obtain ⟨rfl, rfl⟩ := hx
      clear HC
      by_cases he : t ∈ l.take k
      · have Hin : Hid (dupI l = true) := hid (List.any_eq_true.2 ⟨k, List.mem_range.2 hlt, by simp only [decide_eq_true_eq]; rw [← Ht.out]; exact he⟩)
        rw [decide_eq_true he]
        go_wp2
        go_ret
        exact ⟨by rw [Hin.out]; rfl, rfl⟩
      · have Hf := hid he
        rw [decide_eq_false he]
        clear he
        go_wp2
        refine ⟨⟨k + 1, by go_num, by omega, fun j hj => ?_⟩, by simp [intOf]; omega⟩
        by_cases hjk : j = k
        · subst hjk; rw [← Ht.out]; exact Hf.out
        · exact Hne.out j (by omega)
    · obtain rfl : k = l.length := by omega
      have Hnot : Hid (dupI l = false) := hid (List.any_eq_false.2 fun j hj => by simp only [decide_eq_true_eq]; exact Hne.out j (List.mem_range.1 hj))
      go_wp2
      go_ret
      exact ⟨by rw [Hnot.out]; rfl, rfl⟩
end Go.Proofs.YtnpnhbfbklibhaaGreatDoor


/- The contract of strings.Trim, laid at the numbers of this seat (written by the shelf's tool). -/
namespace Go.Proofs
open Go.Shelf
def Tryz.lays160_ren : Go.Shelf.Ren := ⟨fun | 160 => 81 | 232 => 103 | 231 => 102 | 227 => 104 | 234 => 106 | 233 => 105 | 236 => 108 | 235 => 107 | 228 => 126 | 271 => 129 | 151 => 128 | 197 => 127 | 120 => 138 | 152 => 137 | 260 => 136 | 137 => 149 | 119 => 150 | 224 => 151 | 225 => 152 | 217 => 157 | 266 => 159 | n => n, fun | 9 => 9 | 4 => 4 | 3 => 3 | 5 => 5 | 117 => 152 | 116 => 151 | 0 => 0 | 124 => 155 | 21 => 21 | 105 => 187 | 46 => 131 | 119 => 206 | 139 => 209 | 138 => 208 | n => n, fun | 3 => 12 | 4 => 13 | n => n⟩
theorem Tryz.lays160 : Go.Proofs.Lays.n160 Tryz.prog Tryz.lays160_ren := {
  mixed := by kernel_rfl
  f119 := Tryz.func150.trans (congrArg some (by kernel_rfl))
  f120 := Tryz.func138.trans (congrArg some (by kernel_rfl))
  f137 := Tryz.func149.trans (congrArg some (by kernel_rfl))
  f151 := Tryz.func128.trans (congrArg some (by kernel_rfl))
  f152 := Tryz.func137.trans (congrArg some (by kernel_rfl))
  f160 := Tryz.func81.trans (congrArg some (by kernel_rfl))
  f197 := Tryz.func127.trans (congrArg some (by kernel_rfl))
  f217 := Tryz.func157.trans (congrArg some (by kernel_rfl))
  f224 := Tryz.func151.trans (congrArg some (by kernel_rfl))
  f225 := Tryz.func152.trans (congrArg some (by kernel_rfl))
  f227 := Tryz.func104.trans (congrArg some (by kernel_rfl))
  f228 := Tryz.func126.trans (congrArg some (by kernel_rfl))
  f231 := Tryz.func102.trans (congrArg some (by kernel_rfl))
  f232 := Tryz.func103.trans (congrArg some (by kernel_rfl))
  f233 := Tryz.func105.trans (congrArg some (by kernel_rfl))
  f234 := Tryz.func106.trans (congrArg some (by kernel_rfl))
  f235 := Tryz.func107.trans (congrArg some (by kernel_rfl))
  f236 := Tryz.func108.trans (congrArg some (by kernel_rfl))
  f260 := Tryz.func136.trans (congrArg some (by kernel_rfl))
  f266 := Tryz.func159.trans (congrArg some (by kernel_rfl))
  f271 := Tryz.func129.trans (congrArg some (by kernel_rfl))
  t0 := Tryz.underlying0
  a0 := Tryz.isAgg0
  z0 := Tryz.sizeOf0
  v0 := Tryz.zeroValue0
  t3 := Tryz.underlying3
  a3 := Tryz.isAgg3
  z3 := Tryz.sizeOf3
  v3 := Tryz.zeroValue3
  t4 := Tryz.underlying4
  a4 := Tryz.isAgg4
  z4 := Tryz.sizeOf4
  v4 := Tryz.zeroValue4
  t5 := Tryz.underlying5
  a5 := Tryz.isAgg5
  z5 := Tryz.sizeOf5
  v5 := Tryz.zeroValue5
  t9 := Tryz.underlying9
  a9 := Tryz.isAgg9
  z9 := Tryz.sizeOf9
  v9 := Tryz.zeroValue9
  t21 := Tryz.underlying21
  a21 := Tryz.isAgg21
  z21 := Tryz.sizeOf21
  v21 := Tryz.zeroValue21
  t46 := Tryz.underlying131
  a46 := Tryz.isAgg131
  z46 := Tryz.sizeOf131
  v46 := Tryz.zeroValue131
  t105 := Tryz.underlying187
  a105 := Tryz.isAgg187
  z105 := Tryz.sizeOf187
  v105 := Tryz.zeroValue187
  t116 := Tryz.underlying151
  a116 := Tryz.isAgg151
  z116 := Tryz.sizeOf151
  t117 := Tryz.underlying152
  a117 := Tryz.isAgg152
  z117 := Tryz.sizeOf152
  v117 := Tryz.zeroValue152
  t119 := Tryz.underlying206
  a119 := Tryz.isAgg206
  z119 := Tryz.sizeOf206
  t124 := Tryz.underlying155
  a124 := Tryz.isAgg155
  z124 := Tryz.sizeOf155
  v124 := Tryz.zeroValue155
  t138 := Tryz.underlying208
  a138 := Tryz.isAgg208
  z138 := Tryz.sizeOf208
  v138 := Tryz.zeroValue208
  t139 := Tryz.underlying209
  a139 := Tryz.isAgg209
  z139 := Tryz.sizeOf209
  v139 := Tryz.zeroValue209
  g3 := by kernel_rfl
  g4 := by kernel_rfl }
end Go.Proofs
