
/- Slices that grow: append met inside a region whose order is drawn. -/
import Derived.Test.YtcfopaopcbjkeaaDoorBase
namespace Go.Proofs.YtcfopaopcbjkeaaDoor
set_option linter.unusedSimpArgs false
set_option linter.unusedVariables false
open Go Go.RowKit

theorem grown_keep {w w' : World} {row : Option Nat} (h : w.grownBy w' row) : Keep (fun k => row = some k) w w' :=
  ⟨h.os, h.tape, h.output, h.size, fun k hk hx => h.block k hk fun e => hx e.symm⟩

section
variable {P : Program} {ops : Array Oper}
theorem does_of_run {o : Oper} {a : Act} {w w' : World} {v : Value} {R : Value → World → Prop} (hg : o.guard = none) (hr : (execOp a.eval o).run P w = .ok (.value v) w') (h : R v w') : does P ops o a w R := by
  unfold does
  rw [if_pos (by simp [Region.wanted, hg]), hr]
  exact h
theorem run_exec_append {o : Oper} {a : Act} {w w' : World} (s x : Operand) (t : TypeId) (ho : o.op = .call { callee := .builtin .append, args := #[s, x], argTypes := #[t, t] })
    {v1 v2 v : Value} (h1 : a.eval s = v1) (h2 : a.eval x = v2) (hr : (Builtin.append_ #[t, t] o.type #[v1, v2]).run P w = .ok v w') : (execOp a.eval o).run P w = .ok (.value v) w' := by
  unfold execOp
  simp only [ho, resolve, invoke, builtin, Sem.run_bind, Sem.run_pure, Result.andThen_ok, List.map_toArray, List.map_cons, List.map_nil, h1, h2, hr]

/-- append of m elements that lie at an address to a slice of the call's own. -/
theorem does_append {o : Oper} {a : Act} {w : World} {R : Value → World → Prop} (hg : o.guard = none) (s x : Operand) (t : TypeId)
    (ho : o.op = .call { callee := .builtin .append, args := #[s, x], argTypes := #[t, t] })
    (e : TypeId) (i : TypeInfo) (z : Value) (size bytes : Nat) (ht : P.underlying t = some (.slice e)) (hi : P.info? e = some i) (hz : i.zero = some z)
    (hsize : i.size = size) (hby : i.bytes = bytes) (hzs : z.cells.size = size) (hsz : 0 < size)
    (v : Value) (n : Nat) (xs : List Value) (hs : a.eval s = v) (hown : w.ownsRow 0 e size v n xs)
    (ad : Addr) (m c : Nat) (news : List Value) (hx : a.eval x = .slice (some ad) m c) (hl : news.length = m * size) (hnews : ∀ j u, news[j]? = some u → w.cell? (ad.add j) = some u) (h1 : ∀ u ∈ news, u.oneCell' = true)
    (h63 : n + m ≤ maxLen) (hbytes : (n + m) * bytes ≤ 140737488355328)
    (h : ∀ v' w', w'.ownsRow 0 e size v' (n + m) (xs ++ news) → Keep (fun k => v.ownBlock = some k) w w' → (∀ k, v'.ownBlock = some k → v.ownBlock = some k ∨ w.heap.size ≤ k) → R v' w') : does P ops o a w R := by
  obtain ⟨v', w', hr, h2, h3, h4⟩ := run_append_own (P := P) w 0 t o.type e i z size bytes ht hi hz hsize hby hzs hsz v n xs hown ad m c news hl hnews h1 h63 hbytes (Nat.zero_le _)
  refine does_of_run hg (run_exec_append s x t ho hs hx hr) (h v' w' h2 (grown_keep h3) ?_)
  -- the block: of old, or new
  intro k hk
  rcases Nat.lt_or_ge k w.heap.size with hlt | hge
  · refine .inl ?_
    subst hsize
    subst hby
    rcases hown.2 with ⟨rfl, rfl⟩ | ⟨g, cap, cur, rfl, _, hgg, hnc, hcm, hcs, htake⟩
    · by_cases hm : m = 0
      · rw [h4.2 ⟨rfl, hm⟩] at hk; exact hk
      · have hr2 := run_append_nil (P := P) w t o.type e i z ht hi hz ad m c news hl hnews (by omega) (by simp only [maxLen] at h63; omega) (by have hb := hbytes; simp only [Nat.zero_add] at hb; omega)
        rw [hr2] at hr
        simp only [Result.ok.injEq] at hr
        rw [← hr.1] at hk
        simp [Value.ownBlock] at hk
        omega
    · by_cases hroom : n + m ≤ cap
      · have hfit : n * i.size + news.length ≤ cur.size := by rw [hl, hcs, ← Nat.add_mul]; exact Nat.mul_le_mul_right _ hroom
        have hr2 := run_append_room (P := P) w t o.type e i ht hi g n cap cur hgg ad m c news hl hnews h1 hroom hfit
        rw [hr2] at hr
        simp only [Result.ok.injEq] at hr
        rw [← hr.1] at hk
        simpa [Value.ownBlock] using hk
      · have holds := hown.cells (g := g) rfl
        have hr2 := run_append_grow (P := P) w t o.type e i z ht hi hz ⟨g, 0, none⟩ n cap xs hown.1 holds ad m c news hl hnews (by omega) (by simp only [maxLen] at h63; omega) (growslice_fits (by omega) hbytes)
        rw [hr2] at hr
        simp only [Result.ok.injEq] at hr
        rw [← hr.1] at hk
        simp [Value.ownBlock] at hk
        omega
  · exact .inr hge

theorem setRow_blk {w : World} {g : Nat} {c : Array Value} {e : TypeId} (h : Blk w g c e) (c' : Array Value) : Blk (w.setRow g c') g c' e := setRow_heap w g c c' e (0, 0) h
theorem setRow_keep (w : World) (g : Nat) (c' : Array Value) : Keep (fun b => b = g) w (w.setRow g c') :=
  ⟨rfl, rfl, rfl, by simp, fun k _ hk => setRow_other w g k _ hk⟩

/-- append within the capacity, in place. -/
theorem does_append_room {o : Oper} {a : Act} {w : World} {R : Value → World → Prop} (hg : o.guard = none) (s x : Operand) (t : TypeId)
    (ho : o.op = .call { callee := .builtin .append, args := #[s, x], argTypes := #[t, t] })
    (e : TypeId) (i : TypeInfo) (ht : P.underlying t = some (.slice e)) (hi : P.info? e = some i) (g n cap : Nat) (cur : Array Value) (hb : Blk w g cur e) (hs : a.eval s = .slice (some ⟨g, 0, none⟩) n cap)
    (ad : Addr) (m c : Nat) (news : List Value) (hx : a.eval x = .slice (some ad) m c) (hl : news.length = m * i.size) (hnews : ∀ j u, news[j]? = some u → w.cell? (ad.add j) = some u) (h1 : ∀ u ∈ news, u.oneCell' = true)
    (hroom : n + m ≤ cap) (hfit : n * i.size + news.length ≤ cur.size)
    (h : R (.slice (some ⟨g, 0, none⟩) (n + m) cap) (w.setRow g (cur.toList.take (n * i.size) ++ news ++ cur.toList.drop (n * i.size + news.length)).toArray)) : does P ops o a w R :=
  does_of_run hg (run_exec_append s x t ho hs hx (run_append_room w t o.type e i ht hi g n cap cur hb ad m c news hl hnews h1 hroom hfit)) h

/-- clear of one. -/
theorem run_clear_one (w : World) (t ty e : TypeId) (i : TypeInfo) (z : Value) (ht : P.underlying t = some (.slice e)) (hi : P.info? e = some i) (hz : i.zero = some z) (hz1 : z.cells = #[z]) (hzo : z.oneCell' = true)
    (g off n cap : Nat) (hn : n = 1) (c : Array Value) (hb : Blk w g c e) (hlt : off < c.size) :
    (Builtin.clear_ #[t] ty #[.slice (some ⟨g, off, none⟩) n cap]).run P w = .ok (.tuple #[]) (w.setCell ⟨g, off, none⟩ z) := by
  subst hn
  have h0 : w.cell? ⟨g, off, none⟩ = some c[off] := by
    have := hb.cell off
    simpa [hlt] using this
  have h1 : w.frozen? ⟨g, off, none⟩ = false := hb.free off
  have h2 : (Builtin.zeroCells z.cells 1).toList = [z] := by rw [hz1]; simp [Builtin.zeroCells, List.ofFn_succ]
  simp [Builtin.clear_, run_underlying ht, zeroValue, typeInfo, hi, hz, h2, storeCells, run_store, hzo, h0, h1, Addr.add]

theorem run_exec_copy {o : Oper} {a : Act} {w w' : World} (s x : Operand) (t u : TypeId) (ho : o.op = .call { callee := .builtin .copy, args := #[s, x], argTypes := #[t, u] })
    {v1 v2 v : Value} (h1 : a.eval s = v1) (h2 : a.eval x = v2) (hr : (Builtin.copy_ #[t, u] o.type #[v1, v2]).run P w = .ok v w') : (execOp a.eval o).run P w = .ok (.value v) w' := by
  unfold execOp
  simp only [ho, resolve, invoke, builtin, Sem.run_bind, Sem.run_pure, Result.andThen_ok, List.map_toArray, List.map_cons, List.map_nil, h1, h2, hr]
/-- copy within one block or from another. -/
theorem does_copy {o : Oper} {a : Act} {w : World} {R : Value → World → Prop} (hg : o.guard = none) (s x : Operand) (t u : TypeId)
    (ho : o.op = .call { callee := .builtin .copy, args := #[s, x], argTypes := #[t, u] }) (e : TypeId) (ht : P.underlying t = some (.slice e)) (hsz : (P.info? e).map (·.size) = some 1)
    (g off dLen dCap : Nat) (cur : Array Value) (e' : TypeId) (hb : Blk w g cur e') (hd : a.eval s = .slice (some ⟨g, off, none⟩) dLen dCap) (ad : Addr) (sLen sCap : Nat) (cs : List Value) (hx : a.eval x = .slice (some ad) sLen sCap)
    (hn : cs.length = Nat.min sLen dLen) (hsrc : ∀ j v, cs[j]? = some v → w.cell? (ad.add j) = some v) (hfit : off + cs.length ≤ cur.size) (h1 : ∀ v ∈ cs, v.oneCell' = true)
    (h : R (goInt cs.length) (w.setRow g (cur.toList.take off ++ cs ++ cur.toList.drop (off + cs.length)).toArray)) : does P ops o a w R :=
  does_of_run hg (run_exec_copy s x t u ho hd hx (run_copy_row P w t u o.type e g off dLen dCap ad sLen sCap cur e' cs ht hsz hb hn hsrc hfit h1)) h
/-- copy in a sequence. -/
theorem wpList_copy {Q : Exit → Act → World → Prop} {rest : List Oper} {o : Oper} {a : Act} {w : World} (hg : o.guard = none) (s x : Operand) (t u : TypeId)
    (ho : o.op = .call { callee := .builtin .copy, args := #[s, x], argTypes := #[t, u] }) {v1 v2 v : Value} {w' : World} (h1 : a.eval s = v1) (h2 : a.eval x = v2) (hr : (Builtin.copy_ #[t, u] o.type #[v1, v2]).run P w = .ok v w')
    (h : wpList P ops Q rest (a.put o.dst v) w') : wpList P ops Q (o :: rest) a w := by
  refine wpList_plain hg fun K hK => ?_
  unfold Oper.wp
  rw [run_exec_copy s x t u ho h1 h2 hr]
  exact hK _ _ h
end
end Go.Proofs.YtcfopaopcbjkeaaDoor
