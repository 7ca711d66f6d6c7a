/- Texts of one proof, put together: F4 F5 Own F6. -/
import Derived.Test.YtohfdecefikinaaGreatDoorZCM01
import Derived.Test.YtohfdecefikinaaGreatDoorZCM02

/- The frame: its check is walked. -/
namespace Go.Proofs.YtohfdecefikinaaGreatDoor
set_option linter.unusedSimpArgs false
set_option linter.unusedVariables false
open Go Go.RowKit

/-- A frame, plainly. -/
structure Fr where
  kind : UInt8
  fr : Int
  to : Int
  seq : Int
  nums : List Int

def inB (n m : Int) : Bool := decide (0 ≤ n) && decide (n ≤ m)
def kinds : List UInt8 := [100, 101, 116, 97]
def codeOf (k b1 b2 b3 far same full : Bool) : Nat := bif !k then 4 else bif !b1 then 2 else bif !b2 then 2 else bif !b3 then 2 else bif far then 2 else bif same then 3 else bif full then 8 else 0
def Fr.code (f : Fr) : Nat := codeOf (decide (f.kind ∈ kinds)) (inB f.fr 5) (inB f.to 5) (inB f.seq 2147483648) (anyFar f.nums) (decide (f.fr = f.to)) (decide (200 < f.nums.length))
def frv (f : Fr) (a : Option Addr) (cap : Nat) : Value := .agg #[.int .u8 (f.kind.toNat : Int), .int .i64 f.fr, .int .i64 f.to, .int .i64 f.seq, .slice a f.nums.length cap]

/-- The errors' values, by number. -/
structure ErrsC (w : World) (ev : Nat → Value) : Prop where
  bound : w.cell? ⟨4, 0, none⟩ = some (ev 2)
  shape : w.cell? ⟨5, 0, none⟩ = some (ev 3)
  kind : w.cell? ⟨6, 0, none⟩ = some (ev 4)
  full : w.cell? ⟨0, 0, none⟩ = some (ev 8)
structure Errs (w : World) (ev : Nat → Value) : Prop extends ErrsC w ev where
  text : w.cell? ⟨3, 0, none⟩ = some (ev 1)
  sum : w.cell? ⟨10, 0, none⟩ = some (ev 11)
def errv (ev : Nat → Value) (c : Nat) : Value := if c = 0 then .nilIface else ev c

theorem ErrsC.ext {w w' : World} {ev : Nat → Value} (h : ErrsC w ev) (x : Ext w w') : ErrsC w' ev :=
  ⟨x.cellx h.bound, x.cellx h.shape, x.cellx h.kind, x.cellx h.full⟩
theorem Errs.ext {w w' : World} {ev : Nat → Value} (h : Errs w ev) (x : Ext w w') : Errs w' ev :=
  ⟨h.toErrsC.ext x, x.cellx h.text, x.cellx h.sum⟩
theorem Ints.ext {w w' : World} {a : Option Addr} {len : Nat} {vs : List Int} (h : Ints w a len vs) (x : Ext w w') : Ints w' a len vs :=
  ⟨h.ln, h.sm, fun y hy i hi => x.cellx (h.cl y hy i hi), h.hi⟩

theorem kinds_cells : (bcells kinds).toArray = #[Value.int .u8 100, Value.int .u8 101, Value.int .u8 116, Value.int .u8 97] := rfl
/-- The row of the kinds, behind its conversion. -/
def kindsW (W : World) : World := W.alloc (.cells #[Value.int .u8 100, Value.int .u8 101, Value.int .u8 116, Value.int .u8 97] 5 (4, 5))
theorem kindsW_ext (W : World) : Ext W (kindsW W) := (Ext.refl W).alloc _
end Go.Proofs.YtohfdecefikinaaGreatDoor


/- The frame: the reference's check is walked. -/
namespace Go.Proofs.YtohfdecefikinaaGreatDoor
set_option linter.unusedSimpArgs false
set_option linter.unusedVariables false
open Go Go.RowKit

theorem inB_eq (n m : Int) : inB n m = !(decide (n < 0) || decide (m < n)) := by
  unfold inB
  by_cases h1 : 0 ≤ n <;> by_cases h2 : n ≤ m <;> simp [h1, h2] <;> omega
theorem kind_dec (k : UInt8) : decide (k ∈ kinds) = !(decide (¬ (k.toNat : Int) = 100) && decide (¬ (k.toNat : Int) = 101) && decide (¬ (k.toNat : Int) = 116) && decide (¬ (k.toNat : Int) = 97)) := by
  have h : ∀ j : UInt8, (k = j) ↔ ((k.toNat : Int) = (j.toNat : Int)) := fun j => ⟨fun h => by rw [h], fun h => UInt8.toNat_inj.1 (by omega)⟩
  simp [kinds, h]
  by_cases h1 : (k.toNat : Int) = 100 <;> by_cases h2 : (k.toNat : Int) = 101 <;> by_cases h3 : (k.toNat : Int) = 116 <;> by_cases h4 : (k.toNat : Int) = 97 <;> simp [h1, h2, h3, h4] <;> omega

theorem Fr.code_kind {f : Fr} (h : decide (f.kind ∈ kinds) = false) : f.code = 4 := by unfold Fr.code; rw [h]; rfl
theorem Fr.code_two {f : Fr} (hk : decide (f.kind ∈ kinds) = true) (h : f.fr < 0 ∨ 6 ≤ f.fr ∨ f.to < 0 ∨ 6 ≤ f.to ∨ f.seq < 0 ∨ 2147483648 < f.seq) : f.code = 2 := by
  unfold Fr.code
  rw [hk]
  cases h1 : inB f.fr 5 with
  | false => rfl
  | true =>
    cases h2 : inB f.to 5 with
    | false => rfl
    | true =>
      cases h3 : inB f.seq 2147483648 with
      | false => rfl
      | true =>
        exfalso
        simp [inB] at h1 h2 h3
        omega

theorem Fr.code_in {f : Fr} (hk : decide (f.kind ∈ kinds) = true) (h : ¬ (f.fr < 0 ∨ 6 ≤ f.fr ∨ f.to < 0 ∨ 6 ≤ f.to ∨ f.seq < 0 ∨ 2147483648 < f.seq)) : f.code = codeOf true true true true (anyFar f.nums) (decide (f.fr = f.to)) (decide (200 < f.nums.length)) := by
  have h1 : inB f.fr 5 = true := by simp [inB]; omega
  have h2 : inB f.to 5 = true := by simp [inB]; omega
  have h3 : inB f.seq 2147483648 = true := by simp [inB]; omega
  unfold Fr.code
  rw [hk, h1, h2, h3]
theorem anyFar_yes {nums : List Int} {k : Nat} (hk : k < nums.length) (h : nums.getD k 0 < 0 ∨ 2147483648 < nums.getD k 0) : anyFar nums = true := by
  refine List.any_eq_true.2 ⟨nums.getD k 0, ?_, ?_⟩
  · rw [List.getD_eq_getElem?_getD, List.getElem?_eq_getElem hk]; exact List.getElem_mem _
  · unfold farB; generalize nums.getD k 0 = v at *; simp; omega
theorem anyFar_no {nums : List Int} (h : ∀ j, j < nums.length → ¬ (nums.getD j 0 < 0 ∨ 2147483648 < nums.getD j 0)) : anyFar nums = false := by
  refine List.any_eq_false.2 fun v hv => ?_
  obtain ⟨j, hj, e⟩ := List.mem_iff_getElem.1 hv
  have h1 := h j hj
  rw [List.getD_eq_getElem?_getD, List.getElem?_eq_getElem hj, Option.getD_some, e] at h1
  simp [farB]; omega

end Go.Proofs.YtohfdecefikinaaGreatDoor


/- Slices that grow: append met inside a region whose order is drawn. -/
namespace Go.Proofs.YtohfdecefikinaaGreatDoor
set_option linter.unusedSimpArgs false
set_option linter.unusedVariables false
open Go Go.RowKit

theorem grown_keep {w w' : World} {row : Option Nat} (h : w.grownBy w' row) : Keep (fun k => row = some k) w w' :=
  ⟨h.os, h.tape, h.output, h.size, fun k hk hx => h.block k hk fun e => hx e.symm⟩

section
variable {P : Program} {ops : Array Oper}
theorem does_of_run {o : Oper} {a : Act} {w w' : World} {v : Value} {R : Value → World → Prop} (hg : o.guard = none) (hr : (execOp a.eval o).run P w = .ok (.value v) w') (h : R v w') : does P ops o a w R := by
  unfold does
  rw [if_pos (by simp [Region.wanted, hg]), hr]
  exact h
theorem run_exec_append {o : Oper} {a : Act} {w w' : World} (s x : Operand) (t : TypeId) (ho : o.op = .call { callee := .builtin .append, args := #[s, x], argTypes := #[t, t] })
    {v1 v2 v : Value} (h1 : a.eval s = v1) (h2 : a.eval x = v2) (hr : (Builtin.append_ #[t, t] o.type #[v1, v2]).run P w = .ok v w') : (execOp a.eval o).run P w = .ok (.value v) w' := by
  unfold execOp
  simp only [ho, resolve, invoke, builtin, Sem.run_bind, Sem.run_pure, Result.andThen_ok, List.map_toArray, List.map_cons, List.map_nil, h1, h2, hr]

/-- append of m elements that lie at an address to a slice of the call's own. -/
theorem does_append {o : Oper} {a : Act} {w : World} {R : Value → World → Prop} (hg : o.guard = none) (s x : Operand) (t : TypeId)
    (ho : o.op = .call { callee := .builtin .append, args := #[s, x], argTypes := #[t, t] })
    (e : TypeId) (i : TypeInfo) (z : Value) (size bytes : Nat) (ht : P.underlying t = some (.slice e)) (hi : P.info? e = some i) (hz : i.zero = some z)
    (hsize : i.size = size) (hby : i.bytes = bytes) (hzs : z.cells.size = size) (hsz : 0 < size)
    (v : Value) (n : Nat) (xs : List Value) (hs : a.eval s = v) (hown : w.ownsRow 0 e size v n xs)
    (ad : Addr) (m c : Nat) (news : List Value) (hx : a.eval x = .slice (some ad) m c) (hl : news.length = m * size) (hnews : ∀ j u, news[j]? = some u → w.cell? (ad.add j) = some u) (h1 : ∀ u ∈ news, u.oneCell' = true)
    (h63 : n + m ≤ maxLen) (hbytes : (n + m) * bytes ≤ 140737488355328)
    (h : ∀ v' w', w'.ownsRow 0 e size v' (n + m) (xs ++ news) → Keep (fun k => v.ownBlock = some k) w w' → (∀ k, v'.ownBlock = some k → v.ownBlock = some k ∨ w.heap.size ≤ k) → R v' w') : does P ops o a w R := by
  obtain ⟨v', w', hr, h2, h3, h4⟩ := run_append_own (P := P) w 0 t o.type e i z size bytes ht hi hz hsize hby hzs hsz v n xs hown ad m c news hl hnews h1 h63 hbytes (Nat.zero_le _)
  refine does_of_run hg (run_exec_append s x t ho hs hx hr) (h v' w' h2 (grown_keep h3) ?_)
  -- the block: of old, or new
  intro k hk
  rcases Nat.lt_or_ge k w.heap.size with hlt | hge
  · refine .inl ?_
    subst hsize
    subst hby
    rcases hown.2 with ⟨rfl, rfl⟩ | ⟨g, cap, cur, rfl, _, hgg, hnc, hcm, hcs, htake⟩
    · by_cases hm : m = 0
      · rw [h4.2 ⟨rfl, hm⟩] at hk; exact hk
      · have hr2 := run_append_nil (P := P) w t o.type e i z ht hi hz ad m c news hl hnews (by omega) (by simp only [maxLen] at h63; omega) (by have hb := hbytes; simp only [Nat.zero_add] at hb; omega)
        rw [hr2] at hr
        simp only [Result.ok.injEq] at hr
        rw [← hr.1] at hk
        simp [Value.ownBlock] at hk
        omega
    · by_cases hroom : n + m ≤ cap
      · have hfit : n * i.size + news.length ≤ cur.size := by rw [hl, hcs, ← Nat.add_mul]; exact Nat.mul_le_mul_right _ hroom
        have hr2 := run_append_room (P := P) w t o.type e i ht hi g n cap cur hgg ad m c news hl hnews h1 hroom hfit
        rw [hr2] at hr
        simp only [Result.ok.injEq] at hr
        rw [← hr.1] at hk
        simpa [Value.ownBlock] using hk
      · have holds := hown.cells (g := g) rfl
        have hr2 := run_append_grow (P := P) w t o.type e i z ht hi hz ⟨g, 0, none⟩ n cap xs hown.1 holds ad m c news hl hnews (by omega) (by simp only [maxLen] at h63; omega) (growslice_fits (by omega) hbytes)
        rw [hr2] at hr
        simp only [Result.ok.injEq] at hr
        rw [← hr.1] at hk
        simp [Value.ownBlock] at hk
        omega
  · exact .inr hge

theorem setRow_blk {w : World} {g : Nat} {c : Array Value} {e : TypeId} (h : Blk w g c e) (c' : Array Value) : Blk (w.setRow g c') g c' e := setRow_heap w g c c' e (0, 0) h
theorem setRow_keep (w : World) (g : Nat) (c' : Array Value) : Keep (fun b => b = g) w (w.setRow g c') :=
  ⟨rfl, rfl, rfl, by simp, fun k _ hk => setRow_other w g k _ hk⟩

/-- append within the capacity, in place. -/
theorem does_append_room {o : Oper} {a : Act} {w : World} {R : Value → World → Prop} (hg : o.guard = none) (s x : Operand) (t : TypeId)
    (ho : o.op = .call { callee := .builtin .append, args := #[s, x], argTypes := #[t, t] })
    (e : TypeId) (i : TypeInfo) (ht : P.underlying t = some (.slice e)) (hi : P.info? e = some i) (g n cap : Nat) (cur : Array Value) (hb : Blk w g cur e) (hs : a.eval s = .slice (some ⟨g, 0, none⟩) n cap)
    (ad : Addr) (m c : Nat) (news : List Value) (hx : a.eval x = .slice (some ad) m c) (hl : news.length = m * i.size) (hnews : ∀ j u, news[j]? = some u → w.cell? (ad.add j) = some u) (h1 : ∀ u ∈ news, u.oneCell' = true)
    (hroom : n + m ≤ cap) (hfit : n * i.size + news.length ≤ cur.size)
    (h : R (.slice (some ⟨g, 0, none⟩) (n + m) cap) (w.setRow g (cur.toList.take (n * i.size) ++ news ++ cur.toList.drop (n * i.size + news.length)).toArray)) : does P ops o a w R :=
  does_of_run hg (run_exec_append s x t ho hs hx (run_append_room w t o.type e i ht hi g n cap cur hb ad m c news hl hnews h1 hroom hfit)) h

/-- clear of one. -/
theorem run_clear_one (w : World) (t ty e : TypeId) (i : TypeInfo) (z : Value) (ht : P.underlying t = some (.slice e)) (hi : P.info? e = some i) (hz : i.zero = some z) (hz1 : z.cells = #[z]) (hzo : z.oneCell' = true)
    (g off n cap : Nat) (hn : n = 1) (c : Array Value) (hb : Blk w g c e) (hlt : off < c.size) :
    (Builtin.clear_ #[t] ty #[.slice (some ⟨g, off, none⟩) n cap]).run P w = .ok (.tuple #[]) (w.setCell ⟨g, off, none⟩ z) := by
  subst hn
  have h0 : w.cell? ⟨g, off, none⟩ = some c[off] := by
    have := hb.cell off
    simpa [hlt] using this
  have h1 : w.frozen? ⟨g, off, none⟩ = false := hb.free off
  have h2 : (Builtin.zeroCells z.cells 1).toList = [z] := by rw [hz1]; simp [Builtin.zeroCells, List.ofFn_succ]
  simp [Builtin.clear_, run_underlying ht, zeroValue, typeInfo, hi, hz, h2, storeCells, run_store, hzo, h0, h1, Addr.add]

theorem run_exec_copy {o : Oper} {a : Act} {w w' : World} (s x : Operand) (t u : TypeId) (ho : o.op = .call { callee := .builtin .copy, args := #[s, x], argTypes := #[t, u] })
    {v1 v2 v : Value} (h1 : a.eval s = v1) (h2 : a.eval x = v2) (hr : (Builtin.copy_ #[t, u] o.type #[v1, v2]).run P w = .ok v w') : (execOp a.eval o).run P w = .ok (.value v) w' := by
  unfold execOp
  simp only [ho, resolve, invoke, builtin, Sem.run_bind, Sem.run_pure, Result.andThen_ok, List.map_toArray, List.map_cons, List.map_nil, h1, h2, hr]
/-- copy within one block or from another. -/
theorem does_copy {o : Oper} {a : Act} {w : World} {R : Value → World → Prop} (hg : o.guard = none) (s x : Operand) (t u : TypeId)
    (ho : o.op = .call { callee := .builtin .copy, args := #[s, x], argTypes := #[t, u] }) (e : TypeId) (ht : P.underlying t = some (.slice e)) (hsz : (P.info? e).map (·.size) = some 1)
    (g off dLen dCap : Nat) (cur : Array Value) (e' : TypeId) (hb : Blk w g cur e') (hd : a.eval s = .slice (some ⟨g, off, none⟩) dLen dCap) (ad : Addr) (sLen sCap : Nat) (cs : List Value) (hx : a.eval x = .slice (some ad) sLen sCap)
    (hn : cs.length = Nat.min sLen dLen) (hsrc : ∀ j v, cs[j]? = some v → w.cell? (ad.add j) = some v) (hfit : off + cs.length ≤ cur.size) (h1 : ∀ v ∈ cs, v.oneCell' = true)
    (h : R (goInt cs.length) (w.setRow g (cur.toList.take off ++ cs ++ cur.toList.drop (off + cs.length)).toArray)) : does P ops o a w R :=
  does_of_run hg (run_exec_copy s x t u ho hd hx (run_copy_row P w t u o.type e g off dLen dCap ad sLen sCap cur e' cs ht hsz hb hn hsrc hfit h1)) h
/-- copy in a sequence. -/
theorem wpList_copy {Q : Exit → Act → World → Prop} {rest : List Oper} {o : Oper} {a : Act} {w : World} (hg : o.guard = none) (s x : Operand) (t u : TypeId)
    (ho : o.op = .call { callee := .builtin .copy, args := #[s, x], argTypes := #[t, u] }) {v1 v2 v : Value} {w' : World} (h1 : a.eval s = v1) (h2 : a.eval x = v2) (hr : (Builtin.copy_ #[t, u] o.type #[v1, v2]).run P w = .ok v w')
    (h : wpList P ops Q rest (a.put o.dst v) w') : wpList P ops Q (o :: rest) a w := by
  refine wpList_plain hg fun K hK => ?_
  unfold Oper.wp
  rw [run_exec_copy s x t u ho h1 h2 hr]
  exact hK _ _ h
end
end Go.Proofs.YtohfdecefikinaaGreatDoor


/- The frame: it is written. -/
namespace Go.Proofs.YtohfdecefikinaaGreatDoor
set_option linter.unusedSimpArgs false
set_option linter.unusedVariables false
open Go Go.RowKit

/-- The body of a frame's text; the text. -/
def Fr.body (f : Fr) : List UInt8 := [f.kind, UInt8.ofNat f.fr.toNat, UInt8.ofNat f.to.toNat] ++ high4 f.seq.toNat ++ [UInt8.ofNat f.nums.length] ++ f.nums.flatMap fun n => high4 n.toNat
def Fr.text (f : Fr) : List UInt8 := f.body ++ low4 (crc f.body)

theorem bytes_info : (Tryz.prog.info? 5).map (fun i => (i.zero, i.size, i.bytes)) = some (some (.int .u8 0), 1, 1) := by kernel_rfl

/-- What a right frame's numbers are. -/
theorem Fr.code_zero {f : Fr} (h : f.code = 0) : f.kind ∈ kinds ∧ (0 ≤ f.fr ∧ f.fr ≤ 5) ∧ (0 ≤ f.to ∧ f.to ≤ 5) ∧ (0 ≤ f.seq ∧ f.seq ≤ 2147483648) ∧ anyFar f.nums = false ∧ f.fr ≠ f.to ∧ f.nums.length ≤ 200 := by
  unfold Fr.code at h
  have key : ∀ k b1 b2 b3 far same full, codeOf k b1 b2 b3 far same full = 0 → k = true ∧ b1 = true ∧ b2 = true ∧ b3 = true ∧ far = false ∧ same = false ∧ full = false := by
    intro k b1 b2 b3 far same full
    cases k <;> cases b1 <;> cases b2 <;> cases b3 <;> cases far <;> cases same <;> cases full <;> simp [codeOf]
  obtain ⟨h1, h2, h3, h4, h5, h6, h7⟩ := key _ _ _ _ _ _ _ h
  simp [inB] at h1 h2 h3 h4 h6 h7
  exact ⟨h1, h2, h3, h4, h5, h6, h7⟩
end Go.Proofs.YtohfdecefikinaaGreatDoor
