/- Texts of one proof, put together: L4 L8 L9 LA. -/
import Derived.Test.YtohfdecefikinaaGreatDoorZCM09
import Derived.Test.YtohfdecefikinaaGreatDoorZCM10

/- Links: a frame is sent and kept. -/
namespace Go.Proofs.YtohfdecefikinaaGreatDoor
set_option linter.unusedSimpArgs false
set_option linter.unusedVariables false
open Go Go.RowKit

theorem fr_cells (f : Fr) (v : Value) (n : Int) : kcells (⟨f, v⟩, n) = [.int .u8 (f.kind.toNat : Int), .int .i64 f.fr, .int .i64 f.to, .int .i64 f.seq, v, .int .i64 n] := rfl

end Go.Proofs.YtohfdecefikinaaGreatDoor


/- Links: a tick. -/
namespace Go.Proofs.YtohfdecefikinaaGreatDoor
set_option linter.unusedSimpArgs false
set_option linter.unusedVariables false
open Go Go.RowKit

theorem FV.At.ints {w : World} {n0 : Nat} {t : Option Nat} {x : FV} {a : Option Addr} {cap : Nat} (h : x.At w n0 t) (hv : x.v = .slice a x.f.nums.length cap) : Ints w a x.f.nums.length x.f.nums := by
  obtain ⟨a', c', e, hi, _⟩ := NumsAt.form h
  rw [hv] at e
  simp only [Value.slice.injEq, true_and] at e
  rw [e.1]
  exact hi
def stampK (s : Snd) (x : FV × Int) : FV × Int := if s.late (x.1.f, x.2) then (x.1, s.now + 1) else x
def lateK (s : Snd) (x : FV × Int) : Bool := s.late (x.1.f, x.2)
theorem Snd.tick_eq {s : Snd} {ks : List (FV × Int)} (h : s.l = ks.map fun x => (x.1.f, x.2)) : s.tick.l = (ks.map (stampK s)).map fun x => (x.1.f, x.2) := by
  simp only [Snd.tick, h, List.map_map]
  apply List.map_congr_left
  intro x _
  simp only [Function.comp, Snd.stamp, stampK]
  split <;> rfl
theorem Snd.again_eq {s : Snd} {ks : List (FV × Int)} (h : s.l = ks.map fun x => (x.1.f, x.2)) : s.again = (ks.filter (lateK s)).map fun x => x.1.f := by
  simp only [Snd.again, h, List.filter_map, List.map_map]
  rfl
/-- The row while it is gone through. -/
def midK (s : Snd) (ks : List (FV × Int)) (i : Nat) : List (FV × Int) := (ks.take i).map (stampK s) ++ ks.drop i
theorem midK_len (s : Snd) (ks : List (FV × Int)) (i : Nat) (hi : i ≤ ks.length) : (midK s ks i).length = ks.length := by simp [midK]; omega
theorem midK_get (s : Snd) (ks : List (FV × Int)) (i : Nat) (x : FV × Int) (hx : ks[i]? = some x) : (midK s ks i)[i]? = some x := by
  have hi : i < ks.length := by
    rcases Nat.lt_or_ge i ks.length with h | h
    · exact h
    · rw [List.getElem?_eq_none h] at hx; cases hx
  unfold midK
  rw [List.getElem?_append_right (by simp; omega), List.getElem?_drop]
  simp only [List.length_map, List.length_take, Nat.min_eq_left (Nat.le_of_lt hi), Nat.sub_self, Nat.add_zero]
  exact hx
theorem midK_no (s : Snd) (ks : List (FV × Int)) (i : Nat) (x : FV × Int) (hx : ks[i]? = some x) (h : lateK s x = false) : midK s ks (i + 1) = midK s ks i := by
  have hi : i < ks.length := by
    rcases Nat.lt_or_ge i ks.length with h | h
    · exact h
    · rw [List.getElem?_eq_none h] at hx; cases hx
  have hd : ks.drop i = x :: ks.drop (i + 1) := by
    rw [List.drop_eq_getElem_cons hi]
    rw [List.getElem?_eq_getElem hi] at hx
    rw [Option.some.inj hx]
  unfold midK
  rw [List.take_add_one, hx, hd]
  simp only [Option.toList, List.map_append, List.map_cons, List.map_nil, List.append_assoc, List.cons_append, List.nil_append]
  congr 2
  unfold stampK
  rw [if_neg]
  unfold lateK at h
  simp [h]
theorem midK_yes (s : Snd) (ks : List (FV × Int)) (i : Nat) (x : FV × Int) (hx : ks[i]? = some x) (h : lateK s x = true) : midK s ks (i + 1) = (midK s ks i).set i (x.1, s.now + 1) := by
  have hi : i < ks.length := by
    rcases Nat.lt_or_ge i ks.length with h | h
    · exact h
    · rw [List.getElem?_eq_none h] at hx; cases hx
  have hd : ks.drop i = x :: ks.drop (i + 1) := by
    rw [List.drop_eq_getElem_cons hi]
    rw [List.getElem?_eq_getElem hi] at hx
    rw [Option.some.inj hx]
  unfold midK
  rw [List.take_add_one, hx, hd, List.set_append_right _ _ (by simp; omega)]
  simp only [Option.toList, List.map_append, List.map_cons, List.map_nil, List.append_assoc, List.cons_append, List.nil_append, List.length_map, List.length_take, Nat.min_eq_left (Nat.le_of_lt hi), Nat.sub_self, List.set_cons_zero]
  congr 2
  unfold stampK
  rw [if_pos]
  unfold lateK at h
  exact h
theorem midK_mem {s : Snd} {ks : List (FV × Int)} {i : Nat} {y : FV × Int} (h : y ∈ midK s ks i) : ∃ x ∈ ks, y.1 = x.1 := by
  rcases List.mem_append.1 h with h | h
  · obtain ⟨x, hx, rfl⟩ := List.mem_map.1 h
    refine ⟨x, List.mem_of_mem_take hx, ?_⟩
    unfold stampK
    split <;> rfl
  · exact ⟨y, List.mem_of_mem_drop h, rfl⟩
theorem late_snoc (s : Snd) (ks : List (FV × Int)) (j : Nat) (x : FV × Int) (hx : ks[j]? = some x) : ((ks.take (j + 1)).filter (lateK s)).map (fun x => x.1.f) = ((ks.take j).filter (lateK s)).map (fun x => x.1.f) ++ if lateK s x = true then [x.1.f] else [] := by
  rw [List.take_add_one, hx, List.filter_append, List.map_append]
  simp only [Option.toList, List.filter_cons, List.filter_nil]
  split <;> rfl

end Go.Proofs.YtohfdecefikinaaGreatDoor


/- Links: a frame is taken: refused, or old. -/
namespace Go.Proofs.YtohfdecefikinaaGreatDoor
set_option linter.unusedSimpArgs false
set_option linter.unusedVariables false
open Go Go.RowKit

/-- The map's find is the plain one. -/
theorem mfind_find (k : Int) : ∀ (ms : List FV) (i : Nat), mfind (ms.map fun x => (x.f.seq, x.val)) k i = match Rcv.find (ms.map FV.f) k with
    | none => none
    | some j => (ms[j]?).map fun x => (i + j, x.val)
  | [], i => rfl
  | x :: l, i => by
    have ih := mfind_find k l (i + 1)
    simp only [List.map_cons]
    unfold mfind
    simp only [Rcv.find, List.findIdx?_cons] at ih ⊢
    by_cases h : x.f.seq = k
    · simp [h]
    · rw [if_neg (by simp; exact fun e => h e.symm)]
      simp only [h, decide_false, Bool.false_eq_true, if_false]
      rw [ih]
      cases List.findIdx? (fun f => decide (f.seq = k)) (l.map FV.f) with
      | none => rfl
      | some j =>
        simp only [Option.map_some, List.getElem?_cons_succ]
        rw [show i + 1 + j = i + (j + 1) by omega]
theorem mval_none {ms : List FV} {k : Int} (h : Rcv.find (ms.map FV.f) k = none) : mval (ms.map fun x => (x.f.seq, x.val)) k = none := by
  unfold mval
  rw [mfind_find, h]
  rfl
theorem mval_some {ms : List FV} {k : Int} {j : Nat} (h : Rcv.find (ms.map FV.f) k = some j) : ∃ x, ms[j]? = some x ∧ x.f.seq = k ∧ mfind (ms.map fun x => (x.f.seq, x.val)) k 0 = some (j, x.val) ∧ mval (ms.map fun x => (x.f.seq, x.val)) k = some x.val := by
  obtain ⟨f, hf, hs⟩ := Rcv.find_get h
  rw [List.getElem?_map] at hf
  cases hx : ms[j]? with
  | none => rw [hx] at hf; cases hf
  | some x =>
    rw [hx] at hf
    obtain rfl := Option.some.inj hf
    have h1 : mfind (ms.map fun x => (x.f.seq, x.val)) k 0 = some (j, x.val) := by rw [mfind_find, h]; simp [hx]
    exact ⟨x, rfl, hs, h1, by unfold mval; rw [h1]; rfl⟩
section
variable {P : Program} {ops : Array Oper} {w : World} {o : Oper} {a : Act} {R : Value → World → Prop}
theorem does_map_new (hg : o.guard = none) (mo x vo : Operand) (t kt et : TypeId) (hop : o.op = Op.mapUpdate t mo x vo) (ht : P.underlying t = some (.map kt et)) (hk : P.underlying kt = some (.int .i64)) (b : Nat) (m : List (Int × Value)) (h : MapAt w b m)
    (hm : a.eval mo = .map (some b)) (k : Int) (hx : a.eval x = .int .i64 k) (v : Value) (hv : a.eval vo = v) (hn : mval m k = none)
    (hK : ∀ w', MapAt w' b (m ++ [(k, v)]) → Keep (fun k => k = b) w w' → R undef w') : does P ops o a w R := by
  obtain ⟨w', hrun, r1, r2⟩ := run_map_new ht hk h k v hn
  unfold does
  rw [if_pos (by simp [Region.wanted, hg])]
  simp [execOp, hop, hm, hx, hv, hrun, Result.andThen]
  exact hK w' r1 r2
theorem does_map_del (hg : o.guard = none) (mo x : Operand) (t kt et : TypeId) (hop : o.op = Op.call { callee := Callee.builtin Builtin.delete, args := #[mo, x], argTypes := #[t, kt] }) (ht : P.underlying t = some (.map kt et)) (hk : P.underlying kt = some (.int .i64)) (b : Nat) (m : List (Int × Value)) (h : MapAt w b m)
    (hm : a.eval mo = .map (some b)) (k : Int) (hx : a.eval x = .int .i64 k) (j : Nat) (v : Value) (hj : mfind m k 0 = some (j, v))
    (hK : ∀ w', MapAt w' b (m.eraseIdx j) → Keep (fun k => k = b) w w' → R (.tuple #[]) w') : does P ops o a w R := by
  obtain ⟨w', hrun, r1, r2⟩ := run_map_del ht hk h k j v hj o.type
  unfold does
  rw [if_pos (by simp [Region.wanted, hg])]
  simp [execOp, hop, resolve, invoke, builtin, hm, hx, hrun, Result.andThen]
  exact hK w' r1 r2
end

end Go.Proofs.YtohfdecefikinaaGreatDoor


/- Links: a frame is taken: an old one, or one that comes too early. -/
namespace Go.Proofs.YtohfdecefikinaaGreatDoor
set_option linter.unusedSimpArgs false
set_option linter.unusedVariables false
open Go Go.RowKit

end Go.Proofs.YtohfdecefikinaaGreatDoor
