/- Texts of one proof, put together: L4 L8 L9 LA LB LC LD LE LO LP V4 V5 V6 WA. -/
import Derived.Test.YtkabgmohgjljkaaGreatDoorZRD03
import Derived.Test.YtkabgmohgjljkaaGreatDoorZRD10
import Derived.Test.YtkabgmohgjljkaaGreatDoorZRD11
import Derived.Test.YtkabgmohgjljkaaGreatDoorZRD12

/- Links: a frame is sent and kept. -/
namespace Go.Proofs.YtkabgmohgjljkaaGreatDoor
set_option linter.unusedSimpArgs false
set_option linter.unusedVariables false
open Go Go.RowKit

theorem fr_cells (f : Fr) (v : Value) (n : Int) : kcells (⟨f, v⟩, n) = [.int .u8 (f.kind.toNat : Int), .int .i64 f.fr, .int .i64 f.to, .int .i64 f.seq, v, .int .i64 n] := rfl

end Go.Proofs.YtkabgmohgjljkaaGreatDoor


/- Links: a tick. -/
namespace Go.Proofs.YtkabgmohgjljkaaGreatDoor
set_option linter.unusedSimpArgs false
set_option linter.unusedVariables false
open Go Go.RowKit

theorem FV.At.ints {w : World} {n0 : Nat} {t : Option Nat} {x : FV} {a : Option Addr} {cap : Nat} (h : x.At w n0 t) (hv : x.v = .slice a x.f.nums.length cap) : Ints w a x.f.nums.length x.f.nums := by
  obtain ⟨a', c', e, hi, _⟩ := NumsAt.form h
  rw [hv] at e
  simp only [Value.slice.injEq, true_and] at e
  rw [e.1]
  exact hi
def stampK (s : Snd) (x : FV × Int) : FV × Int := if s.late (x.1.f, x.2) then (x.1, s.now + 1) else x
def lateK (s : Snd) (x : FV × Int) : Bool := s.late (x.1.f, x.2)
theorem Snd.tick_eq {s : Snd} {ks : List (FV × Int)} (h : s.l = ks.map fun x => (x.1.f, x.2)) : s.tick.l = (ks.map (stampK s)).map fun x => (x.1.f, x.2) := by
  simp only [Snd.tick, h, List.map_map]
  apply List.map_congr_left
  intro x _
  simp only [Function.comp, Snd.stamp, stampK]
  split <;> rfl
theorem Snd.again_eq {s : Snd} {ks : List (FV × Int)} (h : s.l = ks.map fun x => (x.1.f, x.2)) : s.again = (ks.filter (lateK s)).map fun x => x.1.f := by
  simp only [Snd.again, h, List.filter_map, List.map_map]
  rfl
/-- The row while it is gone through. -/
def midK (s : Snd) (ks : List (FV × Int)) (i : Nat) : List (FV × Int) := (ks.take i).map (stampK s) ++ ks.drop i
theorem midK_len (s : Snd) (ks : List (FV × Int)) (i : Nat) (hi : i ≤ ks.length) : (midK s ks i).length = ks.length := by simp [midK]; omega
theorem midK_get (s : Snd) (ks : List (FV × Int)) (i : Nat) (x : FV × Int) (hx : ks[i]? = some x) : (midK s ks i)[i]? = some x := by
  have hi : i < ks.length := by
    rcases Nat.lt_or_ge i ks.length with h | h
    · exact h
    · rw [List.getElem?_eq_none h] at hx; cases hx
  unfold midK
  rw [List.getElem?_append_right (by simp; omega), List.getElem?_drop]
  simp only [List.length_map, List.length_take, Nat.min_eq_left (Nat.le_of_lt hi), Nat.sub_self, Nat.add_zero]
  exact hx
theorem midK_no (s : Snd) (ks : List (FV × Int)) (i : Nat) (x : FV × Int) (hx : ks[i]? = some x) (h : lateK s x = false) : midK s ks (i + 1) = midK s ks i := by
  have hi : i < ks.length := by
    rcases Nat.lt_or_ge i ks.length with h | h
    · exact h
    · rw [List.getElem?_eq_none h] at hx; cases hx
  have hd : ks.drop i = x :: ks.drop (i + 1) := by
    rw [List.drop_eq_getElem_cons hi]
    rw [List.getElem?_eq_getElem hi] at hx
    rw [Option.some.inj hx]
  unfold midK
  rw [List.take_add_one, hx, hd]
  simp only [Option.toList, List.map_append, List.map_cons, List.map_nil, List.append_assoc, List.cons_append, List.nil_append]
  congr 2
  unfold stampK
  rw [if_neg]
  unfold lateK at h
  simp [h]
theorem midK_yes (s : Snd) (ks : List (FV × Int)) (i : Nat) (x : FV × Int) (hx : ks[i]? = some x) (h : lateK s x = true) : midK s ks (i + 1) = (midK s ks i).set i (x.1, s.now + 1) := by
  have hi : i < ks.length := by
    rcases Nat.lt_or_ge i ks.length with h | h
    · exact h
    · rw [List.getElem?_eq_none h] at hx; cases hx
  have hd : ks.drop i = x :: ks.drop (i + 1) := by
    rw [List.drop_eq_getElem_cons hi]
    rw [List.getElem?_eq_getElem hi] at hx
    rw [Option.some.inj hx]
  unfold midK
  rw [List.take_add_one, hx, hd, List.set_append_right _ _ (by simp; omega)]
  simp only [Option.toList, List.map_append, List.map_cons, List.map_nil, List.append_assoc, List.cons_append, List.nil_append, List.length_map, List.length_take, Nat.min_eq_left (Nat.le_of_lt hi), Nat.sub_self, List.set_cons_zero]
  congr 2
  unfold stampK
  rw [if_pos]
  unfold lateK at h
  exact h
theorem midK_mem {s : Snd} {ks : List (FV × Int)} {i : Nat} {y : FV × Int} (h : y ∈ midK s ks i) : ∃ x ∈ ks, y.1 = x.1 := by
  rcases List.mem_append.1 h with h | h
  · obtain ⟨x, hx, rfl⟩ := List.mem_map.1 h
    refine ⟨x, List.mem_of_mem_take hx, ?_⟩
    unfold stampK
    split <;> rfl
  · exact ⟨y, List.mem_of_mem_drop h, rfl⟩
theorem late_snoc (s : Snd) (ks : List (FV × Int)) (j : Nat) (x : FV × Int) (hx : ks[j]? = some x) : ((ks.take (j + 1)).filter (lateK s)).map (fun x => x.1.f) = ((ks.take j).filter (lateK s)).map (fun x => x.1.f) ++ if lateK s x = true then [x.1.f] else [] := by
  rw [List.take_add_one, hx, List.filter_append, List.map_append]
  simp only [Option.toList, List.filter_cons, List.filter_nil]
  split <;> rfl

end Go.Proofs.YtkabgmohgjljkaaGreatDoor


/- Links: a frame is taken: refused, or old. -/
namespace Go.Proofs.YtkabgmohgjljkaaGreatDoor
set_option linter.unusedSimpArgs false
set_option linter.unusedVariables false
open Go Go.RowKit

/-- The map's find is the plain one. -/
theorem mfind_find (k : Int) : ∀ (ms : List FV) (i : Nat), mfind (ms.map fun x => (x.f.seq, x.val)) k i = match Rcv.find (ms.map FV.f) k with
    | none => none
    | some j => (ms[j]?).map fun x => (i + j, x.val)
  | [], i => rfl
  | x :: l, i => by
    have ih := mfind_find k l (i + 1)
    simp only [List.map_cons]
    unfold mfind
    simp only [Rcv.find, List.findIdx?_cons] at ih ⊢
    by_cases h : x.f.seq = k
    · simp [h]
    · rw [if_neg (by simp; exact fun e => h e.symm)]
      simp only [h, decide_false, Bool.false_eq_true, if_false]
      rw [ih]
      cases List.findIdx? (fun f => decide (f.seq = k)) (l.map FV.f) with
      | none => rfl
      | some j =>
        simp only [Option.map_some, List.getElem?_cons_succ]
        rw [show i + 1 + j = i + (j + 1) by omega]
theorem mval_none {ms : List FV} {k : Int} (h : Rcv.find (ms.map FV.f) k = none) : mval (ms.map fun x => (x.f.seq, x.val)) k = none := by
  unfold mval
  rw [mfind_find, h]
  rfl
theorem mval_some {ms : List FV} {k : Int} {j : Nat} (h : Rcv.find (ms.map FV.f) k = some j) : ∃ x, ms[j]? = some x ∧ x.f.seq = k ∧ mfind (ms.map fun x => (x.f.seq, x.val)) k 0 = some (j, x.val) ∧ mval (ms.map fun x => (x.f.seq, x.val)) k = some x.val := by
  obtain ⟨f, hf, hs⟩ := Rcv.find_get h
  rw [List.getElem?_map] at hf
  cases hx : ms[j]? with
  | none => rw [hx] at hf; cases hf
  | some x =>
    rw [hx] at hf
    obtain rfl := Option.some.inj hf
    have h1 : mfind (ms.map fun x => (x.f.seq, x.val)) k 0 = some (j, x.val) := by rw [mfind_find, h]; simp [hx]
    exact ⟨x, rfl, hs, h1, by unfold mval; rw [h1]; rfl⟩
section
variable {P : Program} {ops : Array Oper} {w : World} {o : Oper} {a : Act} {R : Value → World → Prop}
theorem does_map_new (hg : o.guard = none) (mo x vo : Operand) (t kt et : TypeId) (hop : o.op = Op.mapUpdate t mo x vo) (ht : P.underlying t = some (.map kt et)) (hk : P.underlying kt = some (.int .i64)) (b : Nat) (m : List (Int × Value)) (h : MapAt w b m)
    (hm : a.eval mo = .map (some b)) (k : Int) (hx : a.eval x = .int .i64 k) (v : Value) (hv : a.eval vo = v) (hn : mval m k = none)
    (hK : ∀ w', MapAt w' b (m ++ [(k, v)]) → Keep (fun k => k = b) w w' → R undef w') : does P ops o a w R := by
  obtain ⟨w', hrun, r1, r2⟩ := run_map_new ht hk h k v hn
  unfold does
  rw [if_pos (by simp [Region.wanted, hg])]
  simp [execOp, hop, hm, hx, hv, hrun, Result.andThen]
  exact hK w' r1 r2
theorem does_map_del (hg : o.guard = none) (mo x : Operand) (t kt et : TypeId) (hop : o.op = Op.call { callee := Callee.builtin Builtin.delete, args := #[mo, x], argTypes := #[t, kt] }) (ht : P.underlying t = some (.map kt et)) (hk : P.underlying kt = some (.int .i64)) (b : Nat) (m : List (Int × Value)) (h : MapAt w b m)
    (hm : a.eval mo = .map (some b)) (k : Int) (hx : a.eval x = .int .i64 k) (j : Nat) (v : Value) (hj : mfind m k 0 = some (j, v))
    (hK : ∀ w', MapAt w' b (m.eraseIdx j) → Keep (fun k => k = b) w w' → R (.tuple #[]) w') : does P ops o a w R := by
  obtain ⟨w', hrun, r1, r2⟩ := run_map_del ht hk h k j v hj o.type
  unfold does
  rw [if_pos (by simp [Region.wanted, hg])]
  simp [execOp, hop, resolve, invoke, builtin, hm, hx, hrun, Result.andThen]
  exact hK w' r1 r2
end

end Go.Proofs.YtkabgmohgjljkaaGreatDoor


/- Links: a frame is taken: an old one, or one that comes too early. -/
namespace Go.Proofs.YtkabgmohgjljkaaGreatDoor
set_option linter.unusedSimpArgs false
set_option linter.unusedVariables false
open Go Go.RowKit

end Go.Proofs.YtkabgmohgjljkaaGreatDoor


/- Links: a frame is taken that comes too early. -/
namespace Go.Proofs.YtkabgmohgjljkaaGreatDoor
set_option linter.unusedSimpArgs false
set_option linter.unusedVariables false
open Go Go.RowKit

theorem MapAt.qne {w : World} {b q : Nat} {m : List (Int × Value)} {c : Array Value} {e : TypeId} (h : MapAt w b m) (hq : Blk w q c e) : ¬ q = b := h.ne hq
theorem Wr.map {w : World} {n0 : Nat} {t : Option Nat} {b : Nat} {m : List (Int × Value)} (h : MapAt w b m) (hl : n0 ≤ b) : Wr w n0 t fun g => g = b := fun g hg _ => ⟨by omega, fun hi => by
  subst hg
  obtain ⟨es, c, hb, _⟩ := h
  obtain ⟨c', z, hi⟩ := hi
  rw [hb] at hi
  cases hi⟩


end Go.Proofs.YtkabgmohgjljkaaGreatDoor


/- Links: the frame that is due is taken, and what waited behind it. -/
namespace Go.Proofs.YtkabgmohgjljkaaGreatDoor
set_option linter.unusedSimpArgs false
set_option linter.unusedVariables false
open Go Go.RowKit

/-- How many entries a map has. -/
def mapSize (w : World) (b : Nat) : Nat := match w.heap[b]? with
  | some (.map es _) => es.size
  | _ => 0
theorem MapAt.size {w : World} {b : Nat} {m : List (Int × Value)} (h : MapAt w b m) : mapSize w b = m.length := by
  obtain ⟨es, c, hb, he⟩ := h
  unfold mapSize
  rw [hb]
  have := congrArg List.length he
  simpa using this
theorem Rcv.run_none {n : Nat} {r : Rcv} {out : List Fr} (h : find r.wait r.due = none) : run (n + 1) r out = (out, r) := by
  unfold run
  rw [h]
theorem Rcv.run_some {n : Nat} {r : Rcv} {out : List Fr} {k : Nat} {f : Fr} (h : find r.wait r.due = some k) (hf : r.wait[k]? = some f) : run (n + 1) r out = run n { r with due := r.due + 1, wait := r.wait.eraseIdx k } (out ++ [f]) := by
  conv => lhs; unfold run
  rw [h]
  simp [hf]

theorem map_eraseIdx {α β : Type} (g : α → β) (l : List α) (j : Nat) : (l.eraseIdx j).map g = (l.map g).eraseIdx j := by
  simp only [List.eraseIdx_eq_take_drop_succ, List.map_append, List.map_take, List.map_drop]
end Go.Proofs.YtkabgmohgjljkaaGreatDoor


/- Links: a frame is sent, or taken, in every case; the law's own trial. -/
namespace Go.Proofs.YtkabgmohgjljkaaGreatDoor
set_option linter.unusedSimpArgs false
set_option linter.unusedVariables false
open Go Go.RowKit

theorem errv_ne {ev : Nat → Value} {c : Nat} (h : c ≠ 0) : errv ev c = ev c := by unfold errv; rw [if_neg h]
end Go.Proofs.YtkabgmohgjljkaaGreatDoor


/- Links: the law's own trial. -/
namespace Go.Proofs.YtkabgmohgjljkaaGreatDoor
set_option linter.unusedSimpArgs false
set_option linter.unusedVariables false
open Go Go.RowKit

theorem ints_new (w : World) (vs : List Int) (hi : ∀ i, vs.getD i 0 ≤ 9223372036854775807) (hl : vs.length ≤ 1000) : Ints (w.alloc (.cells (icells vs).toArray 3)) (some ⟨w.heap.size, 0, none⟩) vs.length vs := by
  have h : IRow w.heap.size (w.alloc (.cells (icells vs).toArray 3)) (.slice (some ⟨w.heap.size, 0, none⟩) vs.length vs.length) vs :=
    own_of_blk (Blk.new _ _ _) (Nat.le_refl _) (Nat.le_refl _) (by unfold maxLen; omega) (by simp [icells]) (by rw [List.toList_toArray, Nat.mul_one, List.take_of_length_le (by simp [icells])])
  exact h.ints hi

end Go.Proofs.YtkabgmohgjljkaaGreatDoor


/- LinkOnce, plainly. -/
namespace Go.Proofs.YtkabgmohgjljkaaGreatDoor
set_option linter.unusedSimpArgs false
set_option linter.unusedVariables false

/-- The frame of the k-th number. -/
def ofr (N : List Int) (k : Nat) : Fr := ⟨100, 2, 4, (k : Int), [N.getD k 0]⟩
def oks (N : List Int) : Nat → Snd
  | 0 => Snd.new 2 4
  | i + 1 => (oks N i).sent 100 [N.getD i 0]
theorem oks_eq (N : List Int) (i : Nat) : oks N i = ⟨2, 4, (i : Int), 0, (List.range i).map fun j => (ofr N j, (0 : Int))⟩ := by
  induction i with
  | zero => rfl
  | succ i ih =>
    show (oks N i).sent 100 [N.getD i 0] = _
    rw [ih]
    simp only [Snd.sent, Snd.frame, List.range_succ, List.map_append, List.map_cons, List.map_nil, ofr]
    rfl
theorem ofr_code (N : List Int) (k : Nat) (hk : k ≤ 1000) (h : 0 ≤ N.getD k 0 ∧ N.getD k 0 ≤ 2147483648) : (ofr N k).code = 0 := by
  have h1 : inB (k : Int) 2147483648 = true := by simp [inB]; omega
  have h2 : anyFar [N.getD k 0] = false := by
    generalize N.getD k 0 = v at *
    simp only [anyFar, List.any_cons, List.any_nil, farB]
    simp
    omega
  unfold Fr.code ofr
  simp only
  rw [h1, h2]
  rfl
theorem oks_err (N : List Int) (i : Nat) (hi : i < 200) (h : 0 ≤ N.getD i 0 ∧ N.getD i 0 ≤ 2147483648) : (oks N i).err 100 [N.getD i 0] = 0 := by
  have hc : ((oks N i).frame 100 [N.getD i 0]).code = 0 := by
    rw [oks_eq]
    exact ofr_code N i (by omega) h
  have hl : (oks N i).l.length = i := by rw [oks_eq]; simp
  unfold Snd.err
  rw [if_neg (fun e => e hc), if_neg (by decide), if_neg (by omega)]
theorem oks_ok (N : List Int) (i : Nat) (hi : i ≤ 200) : (oks N i).Ok i := by
  rw [oks_eq]
  exact ⟨by simp only; omega, by simp only; omega, fun k hk => by
    obtain ⟨j, _, rfl⟩ := List.mem_map.1 hk
    simp, by simp; exact hi⟩

/-- The sender, while what is told is answered: those from a on are kept, each sent last at c. -/
def osn (N : List Int) (n a : Nat) (now c : Int) : Snd := ⟨2, 4, (n : Int), now, (List.range' a (n - a)).map fun j => (ofr N j, c)⟩
theorem oks_osn (N : List Int) (n : Nat) : oks N n = osn N n 0 0 0 := by rw [oks_eq, osn, Nat.sub_zero, List.range_eq_range']
theorem osn_ok (N : List Int) (n a : Nat) (now c : Int) (hn : n ≤ 40) (h0 : 0 ≤ c) (h1 : c ≤ now) (h2 : now ≤ 1000) : (osn N n a now c).Ok 1000 :=
  ⟨by simp only [osn]; omega, by simp only [osn]; omega, fun x hx => by
    simp only [osn] at hx ⊢
    obtain ⟨j, _, rfl⟩ := List.mem_map.1 hx
    exact ⟨h0, h1⟩, by simp [osn]; omega⟩
theorem osn_nums (N : List Int) (n a : Nat) (now c : Int) : ∀ x ∈ (osn N n a now c).l, x.1.nums.length ≤ 1000 := fun x hx => by
  simp only [osn] at hx
  obtain ⟨j, _, rfl⟩ := List.mem_map.1 hx
  simp [ofr]
theorem osn_tick (N : List Int) (n a : Nat) (now c : Int) : (osn N n a now c).tick = osn N n a (now + 1) (if now + 1 - c = 3 then now + 1 else c) := by
  have hl : (osn N n a now c).l.map (osn N n a now c).stamp = (osn N n a (now + 1) (if now + 1 - c = 3 then now + 1 else c)).l := by
    show ((List.range' a (n - a)).map fun j => (ofr N j, c)).map (osn N n a now c).stamp = (List.range' a (n - a)).map fun j => (ofr N j, if now + 1 - c = 3 then now + 1 else c)
    rw [List.map_map]
    refine List.map_congr_left fun j _ => ?_
    show (osn N n a now c).stamp (ofr N j, c) = _
    unfold Snd.stamp
    have hL : (osn N n a now c).late (ofr N j, c) = decide (now + 1 - c = 3) := rfl
    rw [hL]
    by_cases h : now + 1 - c = 3
    · rw [if_pos (decide_eq_true h), if_pos h]; rfl
    · rw [if_neg (by simp [h]), if_neg h]
  unfold Snd.tick
  rw [hl]
  rfl
theorem osn_again (N : List Int) (n a : Nat) (now c : Int) : (osn N n a now c).again = if now + 1 - c = 3 then (List.range' a (n - a)).map (ofr N) else [] := by
  unfold Snd.again
  by_cases h : now + 1 - c = 3
  · rw [if_pos h, List.filter_eq_self.2 fun x hx => ?_]
    · simp [osn, Function.comp]
    · simp only [osn] at hx
      obtain ⟨j, _, rfl⟩ := List.mem_map.1 hx
      exact decide_eq_true (show now + 1 - c = 3 from h)
  · rw [if_neg h, List.filter_eq_nil_iff.2 fun x hx => ?_]
    · rfl
    · simp only [osn] at hx
      obtain ⟨j, _, rfl⟩ := List.mem_map.1 hx
      exact fun e => h (of_decide_eq_true e)
theorem range'_filter (a m d : Nat) (h : a ≤ d) : (List.range' a m).filter (fun j : Nat => decide ((d : Int) ≤ (j : Int))) = List.range' d (a + m - d) := by
  induction m with
  | zero => simp; omega
  | succ m ih =>
    rw [List.range'_1_concat, List.filter_append, ih]
    by_cases hd : d ≤ a + m
    · have h1 : a + (m + 1) - d = (a + m - d) + 1 := by omega
      rw [h1, List.range'_1_concat]
      have : (d : Int) ≤ ((a + m : Nat) : Int) := by omega
      rw [List.filter_cons_of_pos (by simpa using this)]
      simp only [List.filter_nil]
      congr 2
      omega
    · have h1 : a + (m + 1) - d = 0 := by omega
      have h2 : a + m - d = 0 := by omega
      rw [h1, h2]
      have : ¬ (d : Int) ≤ ((a + m : Nat) : Int) := by omega
      rw [List.filter_cons_of_neg (by simpa using this)]
      simp
theorem osn_acked (N : List Int) (n a d : Nat) (now c : Int) (h : a ≤ d) (hn : a ≤ n) (hd : d ≤ n) : (osn N n a now c).acked (d : Int) = osn N n d now c := by
  unfold Snd.acked osn
  simp only [List.filter_map, Snd.mk.injEq, true_and]
  rw [show n - d = a + (n - a) - d by omega, ← range'_filter a (n - a) d h]
  rfl

/-- All are frames of the numbers. -/
def AllOf (N : List Int) (n : Nat) (l : List Fr) : Prop := ∀ f ∈ l, ∃ j, j < n ∧ f = ofr N j
/-- A receiver, while it takes frames of the numbers. -/
structure ORcv (N : List Int) (n d : Nat) (r : Rcv) : Prop where
  fr : r.fr = 2
  to : r.to = 4
  due : r.due = (d : Int)
  le : d ≤ n
  wait : AllOf N n r.wait
  len : r.wait.length ≤ 8
theorem run_of {N : List Int} {n : Nat} : ∀ (k : Nat) (d : Nat) (r : Rcv) (out : List Fr), ORcv N n d r → ∃ d' r', Rcv.run k r out = (out ++ (List.range' d (d' - d)).map (ofr N), r') ∧ ORcv N n d' r' ∧ d ≤ d' ∧ (r.wait.length < k → Rcv.find r'.wait r'.due = none)
  | 0, d, r, out, h => ⟨d, r, by simp [Rcv.run], h, Nat.le_refl _, fun h => by omega⟩
  | k + 1, d, r, out, h => by
    unfold Rcv.run
    cases hf : Rcv.find r.wait r.due with
    | none => exact ⟨d, r, by simp, h, Nat.le_refl _, fun _ => hf⟩
    | some j =>
      obtain ⟨f, hg, hs⟩ := Rcv.find_get hf
      obtain ⟨i, hi, rfl⟩ := h.wait f (List.mem_of_getElem? hg)
      have hid : i = d := by
        have h1 := h.due
        have h2 : ((i : Nat) : Int) = r.due := hs
        omega
      subst hid
      have h' : ORcv N n (i + 1) { r with due := r.due + 1, wait := r.wait.eraseIdx j } :=
        ⟨h.fr, h.to, by simp only; rw [h.due]; omega, by omega, fun g hg => h.wait g (List.mem_of_mem_eraseIdx hg), Nat.le_trans (List.length_eraseIdx_le ..) h.len⟩
      obtain ⟨d', r', e1, e2, e3, e4⟩ := run_of k (i + 1) _ (out ++ [ofr N i]) h'
      refine ⟨d', r', ?_, e2, by omega, fun hk => e4 ?_⟩
      rotate_left
      · have hj := Rcv.find_lt hf
        simp only [List.length_eraseIdx]
        rw [if_pos hj]
        omega
      simp only [hg, Option.toList]
      rw [e1, List.append_assoc]
      congr 2
      rw [show d' - i = (d' - (i + 1)) + 1 by omega, List.range'_succ]
      simp
theorem took_of {N : List Int} {n d j : Nat} {r : Rcv} (h : ORcv N n d r) (hst : Rcv.find r.wait r.due = none) (hj : j < n) : ∃ d' r', r.took (ofr N j) = ((List.range' d (d' - d)).map (ofr N), r') ∧ ORcv N n d' r' ∧ d ≤ d' ∧ (j ≤ d → j + 1 ≤ d') ∧ Rcv.find r'.wait r'.due = none := by
  unfold Rcv.took
  have hs : (ofr N j).seq = (j : Int) := rfl
  by_cases h1 : (ofr N j).seq < r.due ∨ (Rcv.find r.wait (ofr N j).seq).isSome = true
  · rw [if_pos h1]
    refine ⟨d, r, by simp, h, Nat.le_refl _, fun hd => ?_, hst⟩
    have hdu := h.due
    rcases h1 with h1 | h1
    · omega
    · rcases Nat.lt_or_ge j d with h2 | h2
      · omega
      · have : j = d := by omega
        subst this
        rw [hs, ← hdu, hst] at h1
        cases h1
  · rw [if_neg h1]
    by_cases h2 : r.due < (ofr N j).seq
    · rw [if_pos h2]
      have hdj : d < j := by have := h.due; omega
      by_cases h3 : r.wait.length < 8
      · rw [if_pos h3]
        refine ⟨d, { r with wait := r.wait ++ [ofr N j] }, by simp, ⟨h.fr, h.to, h.due, h.le, fun f hf => ?_, by simp; omega⟩, Nat.le_refl _, fun hd => by omega, ?_⟩
        rotate_left
        · show List.findIdx? _ (r.wait ++ [ofr N j]) = none
          rw [List.findIdx?_append, show List.findIdx? (fun f => decide (f.seq = r.due)) r.wait = none from hst]
          have : ¬ (ofr N j).seq = r.due := by omega
          simp [this]
        rcases List.mem_append.1 hf with hf | hf
        · exact h.wait f hf
        · exact ⟨j, hj, List.mem_singleton.1 hf⟩
      · rw [if_neg h3]
        exact ⟨d, r, by simp, h, Nat.le_refl _, fun hd => by omega, hst⟩
    · rw [if_neg h2]
      have hdj : j = d := by
        have h3 : ¬ (ofr N j).seq < r.due := fun e => h1 (.inl e)
        have := h.due
        omega
      subst hdj
      have h' : ORcv N n (j + 1) { r with due := r.due + 1 } := ⟨h.fr, h.to, by simp only; rw [h.due]; omega, by omega, h.wait, h.len⟩
      obtain ⟨d', r', e1, e2, e3, e4⟩ := run_of (r.wait.length + 1) (j + 1) _ [ofr N j] h'
      refine ⟨d', r', ?_, e2, by omega, fun _ => e3, e4 (Nat.lt_succ_self _)⟩
      rw [e1]
      rw [show d' - j = (d' - (j + 1)) + 1 by omega, List.range'_succ]
      simp

theorem took_take {N : List Int} {n d j : Nat} {r : Rcv} (h : ORcv N n d r) (hj : j < n) (hn : n ≤ 1000) (hv : ∀ k, k < n → 0 ≤ N.getD k 0 ∧ N.getD k 0 ≤ 2147483648) : r.err (ofr N j) = 0 ∧ r.take (ofr N j) = r.took (ofr N j) := by
  have hc := ofr_code N j (by omega) (hv j hj)
  have he : r.err (ofr N j) = 0 := by
    unfold Rcv.err
    rw [if_neg (fun e => e hc), if_neg]
    rintro (h1 | h1 | h1)
    · exact h1 h.fr.symm
    · exact h1 h.to.symm
    · cases h1
  exact ⟨he, by unfold Rcv.take; rw [if_pos he]⟩
theorem take_more (N : List Int) (d d' : Nat) (h : d ≤ d') (hn : d' ≤ N.length) : N.take d' = N.take d ++ (List.range' d (d' - d)).map fun j => N.getD j 0 := by
  obtain ⟨k, rfl⟩ : ∃ k, d' = d + k := ⟨d' - d, by omega⟩
  rw [Nat.add_sub_cancel_left]
  induction k with
  | zero => simp
  | succ k ih =>
    rw [List.range'_1_concat, List.map_append, ← List.append_assoc, ← ih (by omega) (by omega), ← Nat.add_assoc, List.take_succ_eq_append_getElem (by omega)]
    simp [show d + k < N.length by omega]
end Go.Proofs.YtkabgmohgjljkaaGreatDoor


/- Links: what lies where in LinkOnce. -/
namespace Go.Proofs.YtkabgmohgjljkaaGreatDoor
set_option linter.unusedSimpArgs false
set_option linter.unusedVariables false
open Go Go.RowKit

theorem own_nilSrc {w : World} {base : Nat} {t e : TypeId} {i : TypeInfo} {size n : Nat} {v : Value} {xs : List Value} (ht : Tryz.prog.underlying t = some (.slice e)) (hi : Tryz.prog.info? e = some i) (h : w.ownsRow base e size v n xs) (ty : TypeId) (c : Nat) : (Builtin.append_ #[t, t] ty #[v, .slice none 0 c]).run Tryz.prog w = .ok v w := by
  rcases h.2 with ⟨h2, h3⟩ | ⟨g, cap, cur, h2, _, _, hnc, _⟩
  · subst h2
    simp [Builtin.append_, run_underlying ht, sizeOf, typeInfo, hi, Builtin.lenOf, Builtin.firstCells]
  · subst h2
    simp [Builtin.append_, run_underlying ht, sizeOf, typeInfo, hi, Builtin.lenOf, Builtin.firstCells, hnc, storeCells]
/-- Cells that lie at an address. -/
structure Src (w : World) (a : Option Addr) (m : Nat) (size : Nat) (us : List Value) : Prop where
  len : us.length = m * size
  sm : 0 < m → ∃ x, a = some x
  cl : ∀ x, a = some x → ∀ j u, us[j]? = some u → w.cell? (x.add j) = some u
  one : ∀ u ∈ us, u.oneCell' = true
theorem run_append_src (w : World) (base : Nat) (hbase : base ≤ w.heap.size) (t e : TypeId) (z : Value) (size bytes : Nat) (ht : Tryz.prog.underlying t = some (.slice e)) (hinf : (Tryz.prog.info? e).map (fun i => (i.zero, i.size, i.bytes)) = some (some z, size, bytes)) (hz1 : z.cells.size = size) (hsz : 0 < size) (hb8 : bytes ≤ 64) (ty : TypeId)
    (v : Value) (n : Nat) (xs : List Value) (hown : w.ownsRow base e size v n xs) (a : Option Addr) (m c : Nat) (us : List Value) (hs : Src w a m size us) (hl : n + m ≤ 1000000) :
    ∃ v' w', (Builtin.append_ #[t, t] ty #[v, .slice a m c]).run Tryz.prog w = .ok v' w' ∧ w'.ownsRow base e size v' (n + m) (xs ++ us) ∧ Keep (fun k => v.ownBlock = some k) w w' ∧ ∀ k, v'.ownBlock = some k → v.ownBlock = some k ∨ w.heap.size ≤ k := by
  obtain ⟨ti, hi, hz0, hz, hz2⟩ := info_parts hinf
  rcases a with _ | ad
  · have hm : m = 0 := by
      rcases Nat.eq_zero_or_pos m with h0 | h0
      · exact h0
      · obtain ⟨x, hx⟩ := hs.sm h0; cases hx
    subst hm
    obtain rfl : us = [] := List.eq_nil_of_length_eq_zero (by have := hs.len; omega)
    exact ⟨v, w, own_nilSrc ht hi hown ty c, by simpa using hown, Keep.refl _ _, fun k hk => .inl hk⟩
  · obtain ⟨v', w', hr, h2, h3, _, h4⟩ := run_append_own_at (P := Tryz.prog) w base t ty e ti z size bytes ht hi hz0 hz hz2 hz1 hsz v n xs hown ad m c us hs.len (hs.cl ad rfl) hs.one (by simp only [maxLen]; omega) (by
      have : (n + m) * bytes ≤ (n + m) * 64 := Nat.mul_le_mul_left _ hb8
      omega) hbase
    refine ⟨v', w', hr, h2, grown_keep h3, fun k hk => ?_⟩
    rcases h4 with h4 | h4
    · exact .inl (h4 ▸ hk)
    · rw [h4] at hk
      have := Option.some.inj hk
      exact .inr (by omega)
theorem wpList_append_src {ops : Array Oper} {Q : Exit → Act → World → Prop} {rest : List Oper} {o : Oper} {a : Act} {w : World} (base : Nat) (hbase : base ≤ w.heap.size) (t e : TypeId) (z : Value) (size bytes : Nat) (ht : Tryz.prog.underlying t = some (.slice e)) (hinf : (Tryz.prog.info? e).map (fun i => (i.zero, i.size, i.bytes)) = some (some z, size, bytes)) (hz1 : z.cells.size = size) (hsz : 0 < size)
    (hb8 : bytes ≤ 64) (hg : o.guard = none) (s x : Operand) (ho : o.op = .call { callee := .builtin .append, args := #[s, x], argTypes := #[t, t] })
    (v : Value) (n : Nat) (xs : List Value) (hs : a.eval s = v) (hown : w.ownsRow base e size v n xs) (ad : Option Addr) (m c : Nat) (us : List Value) (hx : a.eval x = .slice ad m c) (hsrc : Src w ad m size us) (hl : n + m ≤ 1000000)
    (h : ∀ v' w', w'.ownsRow base e size v' (n + m) (xs ++ us) → Keep (fun k => v.ownBlock = some k) w w' → (∀ k, v'.ownBlock = some k → v.ownBlock = some k ∨ w.heap.size ≤ k) → wpList Tryz.prog ops Q rest (a.put o.dst v') w') : wpList Tryz.prog ops Q (o :: rest) a w := by
  obtain ⟨v', w', hr, h2, h3, h4⟩ := run_append_src w base hbase t e z size bytes ht hinf hz1 hsz hb8 o.type v n xs hown ad m c us hsrc hl
  refine wpList_plain hg fun K hK => ?_
  unfold Oper.wp
  rw [run_exec_append s x t ho hs hx hr]
  exact hK _ _ (h v' w' h2 h3 h4)
theorem Src.ints {w : World} {a : Option Addr} {m : Nat} {vs : List Int} (h : Ints w a m vs) : Src w a m 1 (icells vs) := by
  refine ⟨by simp [icells, h.ln], h.sm, fun x hx j u hu => ?_, icells_one⟩
  simp only [icells, List.getElem?_map] at hu
  have hj : j < vs.length := by
    rcases Nat.lt_or_ge j vs.length with h1 | h1
    · exact h1
    · rw [List.getElem?_eq_none h1] at hu; cases hu
  rw [h.cl x hx j (by have := h.ln; omega), List.getD_eq_getElem?_getD, List.getElem?_eq_getElem hj]
  rw [List.getElem?_eq_getElem hj] at hu
  exact hu
theorem FV.one {w : World} {n0 : Nat} {t : Option Nat} {fs : List FV} (h : ∀ x ∈ fs, x.At w n0 t) : ∀ u ∈ fs.flatMap FV.cells, u.oneCell' = true := by
  intro u hu
  obtain ⟨x, hx, hu⟩ := List.mem_flatMap.1 hu
  obtain ⟨a, c, _, hv, _⟩ := (h x hx).form
  simp only [FV.cells, hv, List.mem_cons, List.not_mem_nil, or_false] at hu
  rcases hu with rfl | rfl | rfl | rfl | rfl <;> rfl
/-- A part of a row of frames. -/
theorem Src.part {w : World} {n0 : Nat} {t : Option Nat} {base g n cap : Nat} {e : TypeId} {fs : List FV} (h : FRow w n0 t base e (.slice (some ⟨g, 0, none⟩) n cap) fs) (hn : fs.length = n) (i m : Nat) (him : i + m ≤ n) : Src w (some ⟨g, i * 5, none⟩) m 5 (((fs.drop i).take m).flatMap FV.cells) := by
  have hr := h.row
  rw [hn] at hr
  refine ⟨?_, fun _ => ⟨_, rfl⟩, fun x hx j u hu => ?_, FV.one (w := w) (n0 := n0) (t := t) fun x hx => h.nums x (List.mem_of_mem_drop (List.mem_of_mem_take hx))⟩
  · rw [fm_len FV.cells 5 FV.cells_len]
    simp
    omega
  · obtain rfl := Option.some.inj hx
    rw [show (⟨g, i * 5, none⟩ : Addr).add j = ⟨g, i * 5 + j, none⟩ from by by_cases h0 : j = 0 <;> simp [Addr.add, h0]]
    refine own_get hr _ ?_
    rw [← fm_take FV.cells 5 FV.cells_len, ← fm_drop FV.cells 5 FV.cells_len, List.getElem?_take, List.getElem?_drop] at hu
    split at hu
    · exact hu
    · cases hu
theorem Src.head {w : World} {n0 : Nat} {t : Option Nat} {base g n cap : Nat} {e : TypeId} {fs : List FV} (h : FRow w n0 t base e (.slice (some ⟨g, 0, none⟩) n cap) fs) (hn : fs.length = n) (k : Nat) (hk : k ≤ n) : Src w (some ⟨g, 0, none⟩) k 5 ((fs.take k).flatMap FV.cells) := by
  have := Src.part h hn 0 k (by omega)
  rwa [List.drop_zero, Nat.zero_mul] at this
theorem Src.tail {w : World} {n0 : Nat} {t : Option Nat} {base g n cap : Nat} {e : TypeId} {fs : List FV} (h : FRow w n0 t base e (.slice (some ⟨g, 0, none⟩) n cap) fs) (hn : fs.length = n) (k : Nat) (hk : k ≤ n) : Src w (some ⟨g, k * 5, none⟩) (n - k) 5 ((fs.drop k).flatMap FV.cells) := by
  have := Src.part h hn k (n - k) (by omega)
  rwa [List.take_of_length_le (by simp; omega)] at this
theorem Src.zero (w : World) (ad : Addr) (nets : List FV) (kk : Nat) (h : nets.length ≤ kk + 1) : Src w (some ad) (nets.length - (kk + 1)) 5 ((nets.drop (kk + 1)).flatMap FV.cells) := by
  have h1 : nets.drop (kk + 1) = [] := List.drop_of_length_le h
  rw [h1]
  exact ⟨by simp; omega, fun _ => ⟨_, rfl⟩, fun x _ j u hu => by simp at hu, fun u hu => by simp at hu⟩
theorem Src.all {w : World} {n0 : Nat} {t : Option Nat} {base n cap : Nat} {a : Option Addr} {e : TypeId} {fs : List FV} (h : FRow w n0 t base e (.slice a n cap) fs) (hn : fs.length = n) : Src w a n 5 (fs.flatMap FV.cells) := by
  rcases Nat.eq_zero_or_pos n with h0 | h0
  · subst h0
    obtain rfl := List.eq_nil_of_length_eq_zero hn
    exact ⟨rfl, fun h => by omega, fun x _ j u hu => by simp at hu, fun u hu => by simp at hu⟩
  · have hr := h.row
    obtain ⟨g, cp, he⟩ := own_some hr (by omega)
    simp only [Value.slice.injEq] at he
    obtain ⟨rfl, _, rfl⟩ := he
    have := Src.part h hn 0 n (by omega)
    rw [List.drop_zero, List.take_of_length_le (by omega), Nat.zero_mul] at this
    exact this

theorem FRow.getp {w : World} {n0 : Nat} {t : Option Nat} {base g n cap : Nat} {e : TypeId} {fs : List FV} (h : FRow w n0 t base e (.slice (some ⟨g, 0, none⟩) n cap) fs) (hn : fs.length = n) {j : Nat} {x : FV} (hx : fs[j]? = some x) :
    w.cell? ⟨g, j * 5, none⟩ = some (.int .u8 (x.f.kind.toNat : Int)) ∧ w.cell? ⟨g, j * 5 + 1, none⟩ = some (.int .i64 x.f.fr) ∧ w.cell? ⟨g, j * 5 + 2, none⟩ = some (.int .i64 x.f.to) ∧ w.cell? ⟨g, j * 5 + 3, none⟩ = some (.int .i64 x.f.seq) ∧ w.cell? ⟨g, j * 5 + 4, none⟩ = some x.v := by
  have hr := h.row
  rw [hn] at hr
  have c : ∀ i v, (FV.cells x)[i]? = some v → i < 5 → w.cell? ⟨g, j * 5 + i, none⟩ = some v := fun i v hv hi => own_get hr _ ((fm_get FV.cells 5 FV.cells_len fs j i x hx hi).trans hv)
  exact ⟨c 0 _ rfl (by omega), c 1 _ rfl (by omega), c 2 _ rfl (by omega), c 3 _ rfl (by omega), c 4 _ rfl (by omega)⟩
/-- Told turns: all else stays. -/
theorem Wr.told {w : World} {n0 : Nat} {t : Option Nat} (h : ∀ b, t = some b → n0 ≤ b) : Wr w n0 t fun b => t = some b := fun b hb _ => ⟨h b hb, fun _ => hb⟩
structure Told (w w' : World) (n0 : Nat) (t t' : Option Nat) : Prop where
  keep : Keep (fun b => t = some b) w w'
  lo : ∀ b, t = some b → n0 ≤ b
  int : ∀ b, t = some b → IsInt w b
  new : ∀ b, t' = some b → t = some b ∨ w.heap.size ≤ b
theorem NumsAt.told {w w' : World} {n0 : Nat} {t t' : Option Nat} {v : Value} {l : List Int} (h : NumsAt w n0 t v l) (k : Told w w' n0 t t') : NumsAt w' n0 t' v l := by
  obtain ⟨a, cap, rfl, hi, hb⟩ := h
  have hne : ∀ x, a = some x → 0 < l.length → ¬ t = some x.block := fun x hx hl e => by
    rcases hb x hx hl with h1 | h1
    · have := k.lo _ e; omega
    · exact h1.2 e
  refine ⟨a, cap, rfl, hi.keep k.keep hne, fun x hx hl => (hb x hx hl).imp id fun h1 => ⟨h1.1.keep k.keep (hne x hx hl), fun e => ?_⟩⟩
  rcases k.new _ e with h2 | h2
  · exact h1.2 h2
  · have := hi.blt hx hl; omega
theorem Told.ne {w w' : World} {n0 : Nat} {t t' : Option Nat} (k : Told w w' n0 t t') {b : Nat} {c : Array Value} {e : TypeId} (hb : Blk w b c e) (hne : e ≠ 3) : ¬ t = some b := fun h => IsInt.not hb hne (k.int b h)
theorem FRow.told {w w' : World} {n0 : Nat} {t t' : Option Nat} {base : Nat} {e : TypeId} {v : Value} {fs : List FV} (h : FRow w n0 t base e v fs) (k : Told w w' n0 t t') (he : e ≠ 3) : FRow w' n0 t' base e v fs :=
  ⟨row_keep h.row k.keep (fun b hb => by
    obtain ⟨c, hc⟩ := own_ty h.row hb
    exact k.ne hc he), fun x hx => NumsAt.told (h.nums x hx) k⟩

section
variable {w0 : World} {N : List Int} {n p q b a d e : Nat} {now c : Int} {r : Rcv} {nv tv : Value} {nets : List FV} {wr : World}
end
theorem AllOf.mono {N : List Int} {n m : Nat} {l : List Fr} (h : AllOf N n l) (hn : n ≤ m) : AllOf N m l := fun f hf => by
  obtain ⟨j, hj, e⟩ := h f hf
  exact ⟨j, by omega, e⟩
end Go.Proofs.YtkabgmohgjljkaaGreatDoor


/- Programs that are copied: numbers, names. -/
namespace Go.Proofs.YtkabgmohgjljkaaGreatDoor
set_option linter.unusedSimpArgs false
set_option linter.unusedVariables false
open Go Go.RowKit

theorem add_add (a : Addr) (i j : Nat) : (a.add i).add j = a.add (i + j) := by
  by_cases hi : i = 0
  · subst hi; simp [Addr.add]
  · by_cases hj : j = 0
    · subst hj; simp [Addr.add]
    · simp only [add_posU _ _ hi, add_posU _ _ hj, add_posU _ _ (show i + j ≠ 0 by omega)]
      congr 1
      omega
theorem IntsR.src {w : World} {n0 : Nat} {a : Option Addr} {n cap : Nat} {l : List Int} (h : IntsR w n0 (.slice a n cap) l) : Src w a n 1 (icells l) := by
  obtain ⟨a', cap', h1, h2, h3, h4, h5⟩ := h
  obtain ⟨rfl, rfl, rfl⟩ : a = a' ∧ n = l.length ∧ cap = cap' := by simpa using h1
  refine ⟨by simp [icells], h4, fun x hx j u hu => ?_, icells_one⟩
  have hj : j < l.length := by
    rcases Nat.lt_or_ge j l.length with h | h
    · exact h
    · rw [List.getElem?_eq_none (by simpa [icells] using h)] at hu; cases hu
  unfold icells at hu
  rw [List.getElem?_map, List.getElem?_eq_getElem hj] at hu
  obtain rfl := Option.some.inj hu
  exact (h5 x hx (by omega)).2 j hj _ (List.getElem?_eq_getElem hj)
theorem StrsR.src {w : World} {n0 : Nat} {a : Option Addr} {n cap : Nat} {l : List ByteArray} (h : StrsR w n0 (.slice a n cap) l) : Src w a n 1 (l.map .string) := by
  obtain ⟨a', cap', h1, h2, h3, h4, h5⟩ := h
  obtain ⟨rfl, rfl, rfl⟩ : a = a' ∧ n = l.length ∧ cap = cap' := by simpa using h1
  refine ⟨by simp, h4, fun x hx j u hu => ?_, fun u hu => ?_⟩
  · have hj : j < l.length := by
      rcases Nat.lt_or_ge j l.length with h | h
      · exact h
      · rw [List.getElem?_eq_none (by simpa using h)] at hu; cases hu
    rw [List.getElem?_map, List.getElem?_eq_getElem hj] at hu
    obtain rfl := Option.some.inj hu
    exact (h5 x hx (by omega)).2 j hj _ (List.getElem?_eq_getElem hj)
  · obtain ⟨s, _, rfl⟩ := List.mem_map.1 hu
    rfl
set_option maxRecDepth 100000 in
set_option maxHeartbeats 800000 in
theorem ownintsR_any (v : Value) (l : List Int) (w : World) (n0 : Nat) (h : IntsR w n0 v l) (hl : l.length ≤ 1000) :
    Calls Tryz.prog 8 #[v] w fun e w' => ∃ v', e = .returned v' ∧ Ext w w' ∧ w'.ownsRow w.heap.size 3 1 v' l.length (icells l) := by
  obtain ⟨a, cap, rfl, h'⟩ := id h
  have Hs := hid h.src
  have hl2 : 0 + l.length ≤ 1000000 := by omega
  clear h h'
  go_enter Tryz.func8, Tryz.ntmps8
  go_wp2_with (at_builtin; refine wpList_append_src w.heap.size (Nat.le_refl _) 27 3 (.int .i64 0) 1 8 Tryz.underlying27 ints_info rfl (by omega) (by omega) rfl _ _ rfl (.slice none 0 0) 0 [] rfl (World.ownsRow_nil _ _ _ _) a l.length cap (icells l) rfl Hs.out hl2 ?_; intro v' w' h1 h2 h4; have h3 := Keep.new (Ext.refl w) h2 (fun k hk => by cases hk))
  go_ret
  exact ⟨_, rfl, h3, by simpa using h1⟩

/-- Numbers in a block of numbers, wherever it is. -/
def IntsT (w : World) (v : Value) (l : List Int) : Prop := IntsR w w.heap.size v l ∧ ∀ b, v.ownBlock = some b → IsInt w b
theorem IntsT.of_row {w : World} {base : Nat} {v : Value} {l : List Int} (h : w.ownsRow base 3 1 v l.length (icells l)) : IntsT w v l :=
  ⟨IntsR.own h (Nat.le_refl _), fun b hb => by
    obtain ⟨c, hc⟩ := own_ty h hb
    exact ⟨c, _, hc⟩⟩
theorem IntsT.keep {X : Nat → Prop} {w w' : World} {v : Value} {l : List Int} (h : IntsT w v l) (k : Keep X w w') (hX : ∀ b, X b → ¬ IsInt w b) : IntsT w' v l := by
  obtain ⟨⟨a, cap, h1, h2, h3, h4, h5⟩, hi⟩ := h
  subst h1
  refine ⟨⟨a, cap, rfl, h2, h3, h4, fun y hy h0 => ⟨Nat.lt_of_lt_of_le (h5 y hy h0).1 k.size, fun i hl s hs => ?_⟩⟩, fun b hb => (hi b hb).keep k fun hx => hX b hx (hi b hb)⟩
  subst hy
  exact k.cellx ((h5 y rfl h0).2 i hl s hs) fun hx => hX _ hx (by rw [add_block]; exact hi y.block rfl)
theorem IntsT.ext {w w' : World} {v : Value} {l : List Int} (h : IntsT w v l) (x : Ext w w') : IntsT w' v l := h.keep (x.keep fun _ => False) fun _ h => h.elim
theorem IntsT.form {w : World} {v : Value} {l : List Int} (h : IntsT w v l) : ∃ a c, v = .slice a l.length c := by
  obtain ⟨⟨a, cap, h1, _⟩, _⟩ := h
  exact ⟨a, cap, h1⟩
/-- A function, a statement, with the slice in which its numbers lie. -/
structure F2 where
  f : PF
  v : Value
def F2.cells (x : F2) : List Value := [.string x.f.name, x.v, .int .i64 x.f.ret]
theorem F2.cells_len (x : F2) : x.cells.length = 3 := rfl
structure S2 where
  s : PS
  v : Value
def S2.cells (x : S2) : List Value := [.string x.s.kind, .int .i64 x.s.x, .int .i64 x.s.y, x.v]
theorem S2.cells_len (x : S2) : x.cells.length = 4 := rfl
theorem FunsR.own {w : World} {base : Nat} {v : Value} {fs : List F2} {l : List PF} (h : w.ownsRow base 60 3 v fs.length (fs.flatMap F2.cells)) (hl : fs.map F2.f = l) (hn : ∀ x ∈ fs, IntsT w x.v x.f.params) : FunsR w w.heap.size v l := by
  have hll : l.length = fs.length := by rw [← hl, List.length_map]
  unfold FunsR
  rw [hll]
  refine ElR.own h (Nat.le_refl _) fun g hc i hi f hf => ?_
  rw [← hl, List.getElem?_map] at hf
  obtain ⟨x, hx, rfl⟩ := Option.map_eq_some_iff.1 hf
  have c : ∀ j u, x.cells[j]? = some u → j < 3 → w.cell? (((⟨g, 0, none⟩ : Addr).add (i * 3)).add j) = some u := fun j u hu hj => by
    rw [add_add]
    exact hc _ _ ((fm_get F2.cells 3 F2.cells_len fs i j x hx hj).trans hu)
  exact ⟨x.v, by simpa [Addr.add] using c 0 _ rfl (by omega), c 1 _ rfl (by omega), c 2 _ rfl (by omega), (hn x (List.mem_of_getElem? hx)).1⟩
theorem StmtsR.own {w : World} {base : Nat} {v : Value} {ss : List S2} {l : List PS} (h : w.ownsRow base 58 4 v ss.length (ss.flatMap S2.cells)) (hl : ss.map S2.s = l) (hn : ∀ x ∈ ss, IntsT w x.v x.s.args) : StmtsR w w.heap.size v l := by
  have hll : l.length = ss.length := by rw [← hl, List.length_map]
  unfold StmtsR
  rw [hll]
  refine ElR.own h (Nat.le_refl _) fun g hc i hi f hf => ?_
  rw [← hl, List.getElem?_map] at hf
  obtain ⟨x, hx, rfl⟩ := Option.map_eq_some_iff.1 hf
  have c : ∀ j u, x.cells[j]? = some u → j < 4 → w.cell? (((⟨g, 0, none⟩ : Addr).add (i * 4)).add j) = some u := fun j u hu hj => by
    rw [add_add]
    exact hc _ _ ((fm_get S2.cells 4 S2.cells_len ss i j x hx hj).trans hu)
  exact ⟨x.v, by simpa [Addr.add] using c 0 _ rfl (by omega), c 1 _ rfl (by omega), c 2 _ rfl (by omega), c 3 _ rfl (by omega), (hn x (List.mem_of_getElem? hx)).1⟩
theorem fun_info : (Tryz.prog.info? 60).map (fun i => (i.zero, i.size, i.bytes)) = some (some (.agg #[.string ⟨#[]⟩, .slice none 0 0, .int .i64 0]), 3, 48) := by kernel_rfl
theorem stmt_info : (Tryz.prog.info? 58).map (fun i => (i.zero, i.size, i.bytes)) = some (some (.agg #[.string ⟨#[]⟩, .int .i64 0, .int .i64 0, .slice none 0 0]), 4, 56) := by kernel_rfl
end Go.Proofs.YtkabgmohgjljkaaGreatDoor


/- Programs that are copied, whole. -/
namespace Go.Proofs.YtkabgmohgjljkaaGreatDoor
set_option linter.unusedSimpArgs false
set_option linter.unusedVariables false
open Go Go.RowKit

/-- A copy that is being made. -/
structure OwnP (w : World) (n1 : Nat) (vv fv sv : Value) (P : PP) (fs : List F2) (ss : List S2) : Prop where
  blk : Blk w n1 #[vv, fv, sv] 26
  vars : w.ownsRow 0 9 1 vv P.vars.length (P.vars.map .string)
  funs : w.ownsRow n1 60 3 fv fs.length (fs.flatMap F2.cells)
  stmts : w.ownsRow n1 58 4 sv ss.length (ss.flatMap S2.cells)
  fi : ∀ x ∈ fs, IntsT w x.v x.f.params
  si : ∀ x ∈ ss, IntsT w x.v x.s.args
theorem OwnP.ext {w w' : World} {n1 : Nat} {vv fv sv : Value} {P : PP} {fs : List F2} {ss : List S2} (h : OwnP w n1 vv fv sv P fs ss) (x : Ext w w') : OwnP w' n1 vv fv sv P fs ss :=
  ⟨h.blk.ext x, own_ext h.vars x, own_ext h.funs x, own_ext h.stmts x, fun y hy => (h.fi y hy).ext x, fun y hy => (h.si y hy).ext x⟩
theorem notInt {w : World} {b : Nat} {c : Array Value} {t : TypeId} (h : Blk w b c t) (hne : t ≠ 3) : ¬ IsInt w b := IsInt.not h hne
/-- A function is appended. -/
theorem OwnP.fun {w w1 w' : World} {n1 : Nat} {vv fv sv fv' : Value} {P : PP} {fs : List F2} {ss : List S2} (h : OwnP w n1 vv fv sv P fs ss) (x : F2) (hx : IntsT w x.v x.f.params)
    (ho : w'.ownsRow n1 60 3 fv' (fs.length + 1) (fs.flatMap F2.cells ++ F2.cells x)) (k : Keep (fun q => fv.ownBlock = some q) w w') (hw : w1 = w'.setCell ⟨n1, 1, none⟩ fv') : OwnP w1 n1 vv fv' sv P (fs ++ [x]) ss := by
  subst hw
  have hb : Blk w' n1 #[vv, fv, sv] 26 := h.blk.keep k fun e => by
    obtain ⟨c, hc⟩ := own_ty h.funs e
    exact Blk.ty_ne hc h.blk (by decide) rfl
  have k2 : Keep (fun q => q = n1) w' (w'.setCell ⟨n1, 1, none⟩ fv') := Keep.set (X := fun q => q = n1) (Keep.refl _ _) rfl _
  have hb2 := hb.set 1 fv'
  simp only [List.setIfInBounds_toArray, List.set_cons_zero, List.set_cons_succ] at hb2
  have nf : ∀ b, fv.ownBlock = some b → ¬ IsInt w b := fun b e => by
    obtain ⟨c, hc⟩ := own_ty h.funs e
    exact notInt hc (by decide)
  have kk : ∀ v l, IntsT w v l → IntsT (w'.setCell ⟨n1, 1, none⟩ fv') v l := fun v l hi => (hi.keep k nf).keep k2 fun b e => by subst e; exact notInt hb (by decide)
  have r2 : ∀ {base : Nat} {e : TypeId} {size : Nat} {v : Value} {n : Nat} {xs : List Value}, w'.ownsRow base e size v n xs → e ≠ 26 → (w'.setCell ⟨n1, 1, none⟩ fv').ownsRow base e size v n xs := fun hr hne => row_keep hr k2 fun i hi e => by
    subst e
    obtain ⟨c, hc⟩ := own_ty hr hi
    exact Blk.ty_ne hc hb hne rfl
  have r1 : ∀ {base : Nat} {e : TypeId} {size : Nat} {v : Value} {n : Nat} {xs : List Value}, w.ownsRow base e size v n xs → e ≠ 60 → w'.ownsRow base e size v n xs := fun hr hne => row_keep hr k fun i hi e => by
    obtain ⟨c, hc⟩ := own_ty hr hi
    obtain ⟨d, hd⟩ := own_ty h.funs e
    exact Blk.ty_ne hc hd hne rfl
  refine ⟨hb2, r2 (r1 h.vars (by decide)) (by decide), r2 (by simpa using ho) (by decide), r2 (r1 h.stmts (by decide)) (by decide), fun y hy => ?_, fun y hy => kk _ _ (h.si y hy)⟩
  rcases List.mem_append.1 hy with hy | hy
  · exact kk _ _ (h.fi y hy)
  · rw [List.mem_singleton.1 hy]; exact kk _ _ hx
/-- A statement is appended. -/
theorem OwnP.stmt {w w1 w' : World} {n1 : Nat} {vv fv sv sv' : Value} {P : PP} {fs : List F2} {ss : List S2} (h : OwnP w n1 vv fv sv P fs ss) (x : S2) (hx : IntsT w x.v x.s.args)
    (ho : w'.ownsRow n1 58 4 sv' (ss.length + 1) (ss.flatMap S2.cells ++ S2.cells x)) (k : Keep (fun q => sv.ownBlock = some q) w w') (hw : w1 = w'.setCell ⟨n1, 2, none⟩ sv') : OwnP w1 n1 vv fv sv' P fs (ss ++ [x]) := by
  subst hw
  have hb : Blk w' n1 #[vv, fv, sv] 26 := h.blk.keep k fun e => by
    obtain ⟨c, hc⟩ := own_ty h.stmts e
    exact Blk.ty_ne hc h.blk (by decide) rfl
  have k2 : Keep (fun q => q = n1) w' (w'.setCell ⟨n1, 2, none⟩ sv') := Keep.set (X := fun q => q = n1) (Keep.refl _ _) rfl _
  have hb2 := hb.set 2 sv'
  simp only [List.setIfInBounds_toArray, List.set_cons_zero, List.set_cons_succ] at hb2
  have nf : ∀ b, sv.ownBlock = some b → ¬ IsInt w b := fun b e => by
    obtain ⟨c, hc⟩ := own_ty h.stmts e
    exact notInt hc (by decide)
  have kk : ∀ v l, IntsT w v l → IntsT (w'.setCell ⟨n1, 2, none⟩ sv') v l := fun v l hi => (hi.keep k nf).keep k2 fun b e => by subst e; exact notInt hb (by decide)
  have r2 : ∀ {base : Nat} {e : TypeId} {size : Nat} {v : Value} {n : Nat} {xs : List Value}, w'.ownsRow base e size v n xs → e ≠ 26 → (w'.setCell ⟨n1, 2, none⟩ sv').ownsRow base e size v n xs := fun hr hne => row_keep hr k2 fun i hi e => by
    subst e
    obtain ⟨c, hc⟩ := own_ty hr hi
    exact Blk.ty_ne hc hb hne rfl
  have r1 : ∀ {base : Nat} {e : TypeId} {size : Nat} {v : Value} {n : Nat} {xs : List Value}, w.ownsRow base e size v n xs → e ≠ 58 → w'.ownsRow base e size v n xs := fun hr hne => row_keep hr k fun i hi e => by
    obtain ⟨c, hc⟩ := own_ty hr hi
    obtain ⟨d, hd⟩ := own_ty h.stmts e
    exact Blk.ty_ne hc hd hne rfl
  refine ⟨hb2, r2 (r1 h.vars (by decide)) (by decide), r2 (r1 h.funs (by decide)) (by decide), r2 (by simpa using ho) (by decide), fun y hy => kk _ _ (h.fi y hy), fun y hy => ?_⟩
  rcases List.mem_append.1 hy with hy | hy
  · exact kk _ _ (h.si y hy)
  · rw [List.mem_singleton.1 hy]; exact kk _ _ hx
end Go.Proofs.YtkabgmohgjljkaaGreatDoor


/- Programs that are copied: the walk. -/
namespace Go.Proofs.YtkabgmohgjljkaaGreatDoor
set_option linter.unusedSimpArgs false
set_option linter.unusedVariables false
open Go Go.RowKit

theorem Blk.new_setU (w : World) (a : Addr) (v : Value) (c : Array Value) (e : TypeId) : Blk ((w.setCell a v).alloc (.cells c e)) w.heap.size c e := by
  have := Blk.new (w.setCell a v) c e
  simpa [World.setCell] using this
set_option maxRecDepth 100000 in
set_option maxHeartbeats 12800000 in
theorem ownprogram_any (a1 a2 a3 : Option Addr) (c1 c2 c3 : Nat) (P : PP) (w : World) (h : ProgR w w.heap.size (.slice a1 P.vars.length c1) (.slice a2 P.funs.length c2) (.slice a3 P.stmts.length c3) P) (hs : P.Small) :
    Calls Tryz.prog 6 #[pval a1 a2 a3 c1 c2 c3 P] w fun e w' => Ext w w' ∧ ∃ b1 b2 b3 d1 d2 d3, e = .returned (pval b1 b2 b3 d1 d2 d3 P) ∧ ProgR w' w'.heap.size (.slice b1 P.vars.length d1) (.slice b2 P.funs.length d2) (.slice b3 P.stmts.length d3) P := by
  have HP := hid h
  have Hs := hid hs
  have hl1 := hs.vl
  have hl2 := hs.fl
  have hl3 := hs.sl
  obtain ⟨W1, hW1⟩ : ∃ W1, W1 = w.alloc (.cells (pcells a1 a2 a3 c1 c2 c3 P) 26) := ⟨_, rfl⟩
  have hx1 : Ext w W1 := by rw [hW1]; exact (Ext.refl _).alloc _
  obtain ⟨W2, hW2⟩ : ∃ W2, W2 = W1.alloc (.cells #[.slice none 0 0, .slice none 0 0, .slice none 0 0] 26) := ⟨_, rfl⟩
  have hx2 : Ext W1 W2 := by rw [hW2]; exact (Ext.refl _).alloc _
  have HW2 := hid (hx1.trans hx2)
  have HB1 : Hid (Blk W2 w.heap.size (pcells a1 a2 a3 c1 c2 c3 P) 26) := hid (by
    have : Blk W1 w.heap.size (pcells a1 a2 a3 c1 c2 c3 P) 26 := by rw [hW1]; exact Blk.new _ _ _
    exact this.ext hx2)
  have hs1 : W1.heap.size = w.heap.size + 1 := by rw [hW1, heap_size_alloc]
  have HB2 : Hid (Blk W2 (w.heap.size + 1) #[.slice none 0 0, .slice none 0 0, .slice none 0 0] 26) := hid (by
    rw [← hs1, hW2]; exact Blk.new _ _ _)
  have HW2e : Hid (W2 = (w.alloc (.cells #[.slice a1 P.vars.length c1, .slice a2 P.funs.length c2, .slice a3 P.stmts.length c3] 26)).alloc (.cells #[.slice none 0 0, .slice none 0 0, .slice none 0 0] 26)) := hid (by rw [hW2, hW1]; rfl)
  have Hsrc := hid ((h.ext HW2.out).vars.src)
  have hlv : 0 + P.vars.length ≤ 1000000 := by omega
  unfold pval
  clear h hs hW1 hW2 hx1 hx2 hs1
  go_enter Tryz.func6, Tryz.ntmps6
  go_wp2_with (at_builtin; rw [← HW2e.out]; refine wpList_append_src W2.heap.size (Nat.le_refl _) 22 9 (.string ⟨#[]⟩) 1 16 Tryz.underlying22 str_info rfl (by omega) (by omega) rfl _ _ rfl (.slice none 0 0) 0 [] rfl (World.ownsRow_nil _ _ _ _) a1 P.vars.length c1 (P.vars.map .string) rfl Hsrc.out hlv ?_; intro v3 w3 h1 h2 h4; have HX3 := hid (Keep.new (Ext.refl W2) h2 (fun k hk => by cases hk)); have HV3 := hid (show w3.ownsRow W2.heap.size 9 1 v3 P.vars.length (P.vars.map .string) by simpa using h1); clear h1 h2 h4; obtain ⟨va, vc, rfl⟩ := row_form HV3.out)
  obtain ⟨W4, hW4⟩ : ∃ W4, W4 = w3.alloc (.cells #[.slice va P.vars.length vc, .slice none 0 0, .slice none 0 0] 26) := ⟨_, rfl⟩
  rw [← hW4]
  have hx4 : Ext w3 W4 := by rw [hW4]; exact (Ext.refl _).alloc _
  have HO4 : Hid (OwnP W4 w3.heap.size (.slice va P.vars.length vc) (.slice none 0 0) (.slice none 0 0) P [] []) := hid
    ⟨by rw [hW4]; exact Blk.new _ _ _, own_low (own_ext HV3.out hx4) (Nat.zero_le _), World.ownsRow_nil _ _ _ _, World.ownsRow_nil _ _ _ _, fun _ h => by (cases h), fun _ h => by (cases h)⟩
  have HW4 := hid ((HW2.out.trans HX3.out).trans hx4)
  have HB14 := hid (HB1.out.ext (HX3.out.trans hx4))
  have HB24 := hid (HB2.out.ext (HX3.out.trans hx4))
  have Hn1 : Hid (w.heap.size + 1 < w3.heap.size) := hid (Nat.lt_of_lt_of_le HB2.out.lt HX3.out.size)
  clear hW4 hx4 Hsrc hlv
  generalize w3.heap.size = n1 at *
  go_loopw [5] (fun t5 wr => ∃ (k : Nat) (fv : Value) (fs : List F2), t5 = .int .i64 (k : Int) ∧ k ≤ P.funs.length ∧ OwnP wr n1 (.slice va P.vars.length vc) fv (.slice none 0 0) P fs [] ∧ fs.map F2.f = P.funs.take k ∧ Old n1 W4 wr) (fun t5 _ => P.funs.length - (intOf t5).toNat)
  case atStart => exact ⟨0, _, [], rfl, Nat.zero_le _, HO4.out, rfl, Old.refl _ _⟩
  case round =>
    clear HO4
    obtain ⟨k, fv, fs, rfl, hk, hO, hm, hw⟩ := hrel
    have HO := hid hO
    have Hm := hid hm
    have Hw := hid hw
    have Hww : Hid (Old w.heap.size w wr) := hid ((HW4.out.old _).trans (hw.mono fun q _ e => by have := Hn1.out; omega))
    have HBp : Hid (Blk wr w.heap.size (pcells a1 a2 a3 c1 c2 c3 P) 26) := hid (HB14.out.keep hw fun e => by have := Hn1.out; omega)
    have HBr : Hid (Blk wr (w.heap.size + 1) #[.slice none 0 0, .slice none 0 0, .slice none 0 0] 26) := hid (HB24.out.keep hw fun e => by have := Hn1.out; omega)
    have p0 := HBp.out.av 0 rfl
    have p1 := HBp.out.av 1 rfl
    have p2 := HBp.out.av 2 rfl
    simp only [pcells, List.getElem_toArray, List.getElem_cons_zero, List.getElem_cons_succ] at p0 p1 p2
    clear hO hm hw
    by_cases hlt : k < P.funs.length
    · obtain ⟨y, f, av, cv, rfl, hq, e0, e1, e2, hI⟩ := (HP.out.old Hww.out).funs.at hlt
      have hfl : fs.length = k := by
        have := congrArg List.length Hm.out
        rw [List.length_map, List.length_take] at this
        omega
      obtain ⟨fa, fc, hfv⟩ := row_form HO.out.funs
      rw [hfl] at hfv
      subst hfv
      obtain ⟨W5, hW5⟩ : ∃ W5, W5 = wr.alloc (.cells #[.string f.name, .slice av f.params.length cv, .int .i64 f.ret] 60) := ⟨_, rfl⟩
      have hx5 : Ext wr W5 := by rw [hW5]; exact (Ext.refl _).alloc _
      have HB5 : Hid (Blk W5 wr.heap.size #[.string f.name, .slice av f.params.length cv, .int .i64 f.ret] 60) := hid (by rw [hW5]; exact Blk.new _ _ _)
      have hfs := Hs.out.fs f (List.mem_of_getElem? hq)
      have HN := hid (ownintsR_any _ f.params W5 w.heap.size (hI.old (hx5.old _)) (by omega))
      have Hnx : Hid (∀ v, (fs ++ [(⟨f, v⟩ : F2)]).map F2.f = P.funs.take (k + 1)) := hid fun v => by
        rw [List.map_append, Hm.out, List.take_add_one, hq]; rfl
      have Hx5 := hid hx5
      have HW5 := hid hW5
      have Hfl := hid hfl
      clear hq hI hfl hx5 hW5 hfs
      go_wp2_with fail
      rw [← HW5.out]
      refine HN.out.mono ?_
      intro e w6 hx
      obtain ⟨v6, rfl, hx6, hr6⟩ := hx
      obtain ⟨b6, c6, rfl⟩ := row_form hr6
      have hB6 := HB5.out.ext hx6
      have z1 := hB6.av 1 rfl
      have f1 := hB6.free 1
      have hB7 := hB6.set 1 (.slice b6 f.params.length c6)
      have k7 : Keep (fun q => q = wr.heap.size) w6 (w6.setCell ⟨wr.heap.size, 1, none⟩ (.slice b6 f.params.length c6)) := Keep.set (X := fun q => q = wr.heap.size) (Keep.refl _ _) rfl _
      simp only [List.setIfInBounds_toArray, List.set_cons_zero, List.set_cons_succ, List.getElem_toArray, List.getElem_cons_zero, List.getElem_cons_succ] at z1 hB7
      have hx7 : Ext wr (w6.setCell ⟨wr.heap.size, 1, none⟩ (.slice b6 f.params.length c6)) := Keep.new (Hx5.out.trans hx6) k7 fun q e => Nat.le_of_eq e.symm
      have HO7 := hid (HO.out.ext hx7)
      have HT7 := hid ((IntsT.of_row hr6).keep k7 fun q e => by subst e; exact notInt hB6 (by decide))
      have y0 := hB7.av 0 rfl
      have y1 := hB7.av 1 rfl
      have y2 := hB7.av 2 rfl
      have q1 := HO7.out.blk.av 1 rfl
      simp only [List.getElem_toArray, List.getElem_cons_zero, List.getElem_cons_succ] at y0 y1 y2 q1
      have Hx7 := hid hx7
      have Hn8 : Hid (n1 ≤ ((w6.setCell ⟨wr.heap.size, 1, none⟩ (.slice b6 f.params.length c6)).alloc (.cells #[.string f.name, .slice b6 f.params.length c6, .int .i64 f.ret] 60)).heap.size) := hid (Nat.le_trans (Nat.le_of_lt HO7.out.blk.lt) ((Ext.refl _).alloc _).size)
      have Hkl : Hid (k ≤ 1000000) := hid (by omega)
      have HRo : Hid ((w6.setCell ⟨wr.heap.size, 1, none⟩ (.slice b6 f.params.length c6)).ownsRow n1 60 3 (.slice fa k fc) k (fs.flatMap F2.cells)) := hid (by have := HO7.out.funs; rwa [Hfl.out] at this)
      clear HN hx6 hr6 hB6 hB7 k7 hx7
      go_wp2_with (at_builtin; refine wpList_append_el n1 Hn8.out 23 60 (.agg #[.string ⟨#[]⟩, .slice none 0 0, .int .i64 0]) 3 48 Tryz.underlying23 fun_info rfl (by omega) (by omega) rfl _ _ rfl (.slice fa k fc) k (fs.flatMap F2.cells) rfl (own_ext HRo.out ((Ext.refl _).alloc _)) w6.heap.size (F2.cells ⟨f, .slice b6 f.params.length c6⟩) rfl (by simp [F2.cells, Value.oneCell']) rfl (Blk.new_setU _ _ _ _ _) Hkl.out ?_; intro v9 w9 ho9 hk9 hl9; obtain ⟨a9, c9, rfl⟩ := row_form ho9; have HO8 := hid (HO7.out.ext ((Ext.refl _).alloc (.cells #[.string f.name, .slice b6 f.params.length c6, .int .i64 f.ret] 60))); have HT8 := hid (HT7.out.ext ((Ext.refl _).alloc (.cells #[.string f.name, .slice b6 f.params.length c6, .int .i64 f.ret] 60))); have Hk9 := hid hk9; have Ho9 := hid ho9; have hb9 := HO8.out.blk.keep hk9 (fun e => by obtain ⟨c, hc⟩ := own_ty HO8.out.funs e; exact Blk.ty_ne hc HO8.out.blk (by decide) rfl); have s1 := hb9.av 1 rfl; have t1 := hb9.free 1; clear ho9 hk9 hb9)
      have HO10 := hid (HO8.out.fun ⟨f, .slice b6 f.params.length c6⟩ HT8.out (by rw [Hfl.out]; exact Ho9.out) Hk9.out rfl)
      have HO11 : Hid (Old n1 W4 (w9.setCell ⟨n1, 1, none⟩ (.slice a9 (k + 1) c9))) := hid (by
        refine Hw.out.trans (((Hx7.out.trans ((Ext.refl _).alloc _)).old n1).trans ((Hk9.out.mono fun q _ e => (World.ownsRow.lt HO8.out.funs q e).1).trans ?_))
        exact Keep.set (X := fun q => n1 ≤ q) (Keep.refl _ _) (Nat.le_refl _) _)
      go_roundw
      case rel => exact ⟨k + 1, _, _, by go_num, by omega, HO10.out, Hnx.out _, HO11.out⟩
      case measure => simp [intOf]; omega
    · obtain rfl : k = P.funs.length := by omega
      rw [List.take_of_length_le (Nat.le_refl _)] at Hm
      have Hmf := Hm
      have HOf := HO
      have Hwf := Hw
      clear Hm HO Hw HBr Hww HBp
      go_wp2
      clear p0 p1 p2
      rename World => w7
      go_loopw [7] (fun t7 wr => ∃ (k : Nat) (sv : Value) (ss : List S2), t7 = .int .i64 (k : Int) ∧ k ≤ P.stmts.length ∧ OwnP wr n1 (.slice va P.vars.length vc) fv sv P fs ss ∧ ss.map S2.s = P.stmts.take k ∧ Old n1 W4 wr) (fun t7 _ => P.stmts.length - (intOf t7).toNat)
      case atStart => exact ⟨0, _, [], rfl, Nat.zero_le _, HOf.out, rfl, Hwf.out⟩
      case round =>
        clear HOf Hwf
        obtain ⟨k, sv, ss, rfl, hk, hO, hm, hw⟩ := hrel
        have HO := hid hO
        have Hm := hid hm
        have Hw := hid hw
        have Hww : Hid (Old w.heap.size w wr) := hid ((HW4.out.old _).trans (hw.mono fun q _ e => by have := Hn1.out; omega))
        have HBp : Hid (Blk wr w.heap.size (pcells a1 a2 a3 c1 c2 c3 P) 26) := hid (HB14.out.keep hw fun e => by have := Hn1.out; omega)
        have HBr : Hid (Blk wr (w.heap.size + 1) #[.slice none 0 0, .slice none 0 0, .slice none 0 0] 26) := hid (HB24.out.keep hw fun e => by have := Hn1.out; omega)
        have p0 := HBp.out.av 0 rfl
        have p1 := HBp.out.av 1 rfl
        have p2 := HBp.out.av 2 rfl
        simp only [pcells, List.getElem_toArray, List.getElem_cons_zero, List.getElem_cons_succ] at p0 p1 p2
        clear hO hm hw
        by_cases hlt : k < P.stmts.length
        · obtain ⟨y, f, av, cv, rfl, hq, e0, e1, e2, e3, hI⟩ := (HP.out.old Hww.out).stmts.at hlt
          have hfl : ss.length = k := by
            have := congrArg List.length Hm.out
            rw [List.length_map, List.length_take] at this
            omega
          obtain ⟨fa, fc, hfv⟩ := row_form HO.out.stmts
          rw [hfl] at hfv
          subst hfv
          obtain ⟨W5, hW5⟩ : ∃ W5, W5 = wr.alloc (.cells #[.string f.kind, .int .i64 f.x, .int .i64 f.y, .slice av f.args.length cv] 58) := ⟨_, rfl⟩
          have hx5 : Ext wr W5 := by rw [hW5]; exact (Ext.refl _).alloc _
          have HB5 : Hid (Blk W5 wr.heap.size #[.string f.kind, .int .i64 f.x, .int .i64 f.y, .slice av f.args.length cv] 58) := hid (by rw [hW5]; exact Blk.new _ _ _)
          have hfs := Hs.out.ss f (List.mem_of_getElem? hq)
          have HN := hid (ownintsR_any _ f.args W5 w.heap.size (hI.old (hx5.old _)) (by omega))
          have Hnx : Hid (∀ v, (ss ++ [(⟨f, v⟩ : S2)]).map S2.s = P.stmts.take (k + 1)) := hid fun v => by
            rw [List.map_append, Hm.out, List.take_add_one, hq]; rfl
          have Hx5 := hid hx5
          have HW5 := hid hW5
          have Hfl := hid hfl
          clear hq hI hfl hx5 hW5 hfs
          go_wp2_with fail
          rw [← HW5.out]
          refine HN.out.mono ?_
          intro e w6 hx
          obtain ⟨v6, rfl, hx6, hr6⟩ := hx
          obtain ⟨b6, c6, rfl⟩ := row_form hr6
          have hB6 := HB5.out.ext hx6
          have z1 := hB6.av 3 rfl
          have f1 := hB6.free 3
          have hB7 := hB6.set 3 (.slice b6 f.args.length c6)
          have k7 : Keep (fun q => q = wr.heap.size) w6 (w6.setCell ⟨wr.heap.size, 3, none⟩ (.slice b6 f.args.length c6)) := Keep.set (X := fun q => q = wr.heap.size) (Keep.refl _ _) rfl _
          simp only [List.setIfInBounds_toArray, List.set_cons_zero, List.set_cons_succ, List.getElem_toArray, List.getElem_cons_zero, List.getElem_cons_succ] at z1 hB7
          have hx7 : Ext wr (w6.setCell ⟨wr.heap.size, 3, none⟩ (.slice b6 f.args.length c6)) := Keep.new (Hx5.out.trans hx6) k7 fun q e => Nat.le_of_eq e.symm
          have HO7 := hid (HO.out.ext hx7)
          have HT7 := hid ((IntsT.of_row hr6).keep k7 fun q e => by subst e; exact notInt hB6 (by decide))
          have y0 := hB7.av 0 rfl
          have y1 := hB7.av 1 rfl
          have y2 := hB7.av 2 rfl
          have y3 := hB7.av 3 rfl
          have q1 := HO7.out.blk.av 2 rfl
          simp only [List.getElem_toArray, List.getElem_cons_zero, List.getElem_cons_succ] at y0 y1 y2 y3 q1
          have Hx7 := hid hx7
          have Hn8 : Hid (n1 ≤ ((w6.setCell ⟨wr.heap.size, 3, none⟩ (.slice b6 f.args.length c6)).alloc (.cells #[.string f.kind, .int .i64 f.x, .int .i64 f.y, .slice b6 f.args.length c6] 58)).heap.size) := hid (Nat.le_trans (Nat.le_of_lt HO7.out.blk.lt) ((Ext.refl _).alloc _).size)
          have Hkl : Hid (k ≤ 1000000) := hid (by omega)
          have HRo : Hid ((w6.setCell ⟨wr.heap.size, 3, none⟩ (.slice b6 f.args.length c6)).ownsRow n1 58 4 (.slice fa k fc) k (ss.flatMap S2.cells)) := hid (by have := HO7.out.stmts; rwa [Hfl.out] at this)
          clear HN hx6 hr6 hB6 hB7 k7 hx7
          go_wp2_with (at_builtin; refine wpList_append_el n1 Hn8.out 24 58 (.agg #[.string ⟨#[]⟩, .int .i64 0, .int .i64 0, .slice none 0 0]) 4 56 Tryz.underlying24 stmt_info rfl (by omega) (by omega) rfl _ _ rfl (.slice fa k fc) k (ss.flatMap S2.cells) rfl (own_ext HRo.out ((Ext.refl _).alloc _)) w6.heap.size (S2.cells ⟨f, .slice b6 f.args.length c6⟩) rfl (by simp [S2.cells, Value.oneCell']) rfl (Blk.new_setU _ _ _ _ _) Hkl.out ?_; intro v9 w9 ho9 hk9 hl9; obtain ⟨a9, c9, rfl⟩ := row_form ho9; have HO8 := hid (HO7.out.ext ((Ext.refl _).alloc (.cells #[.string f.kind, .int .i64 f.x, .int .i64 f.y, .slice b6 f.args.length c6] 58))); have HT8 := hid (HT7.out.ext ((Ext.refl _).alloc (.cells #[.string f.kind, .int .i64 f.x, .int .i64 f.y, .slice b6 f.args.length c6] 58))); have Hk9 := hid hk9; have Ho9 := hid ho9; have hb9 := HO8.out.blk.keep hk9 (fun e => by obtain ⟨c, hc⟩ := own_ty HO8.out.stmts e; exact Blk.ty_ne hc HO8.out.blk (by decide) rfl); have s1 := hb9.av 2 rfl; have t1 := hb9.free 2; clear ho9 hk9 hb9)
          have HO10 := hid (HO8.out.stmt ⟨f, .slice b6 f.args.length c6⟩ HT8.out (by rw [Hfl.out]; exact Ho9.out) Hk9.out rfl)
          have HO11 : Hid (Old n1 W4 (w9.setCell ⟨n1, 2, none⟩ (.slice a9 (k + 1) c9))) := hid (by
            refine Hw.out.trans (((Hx7.out.trans ((Ext.refl _).alloc _)).old n1).trans ((Hk9.out.mono fun q _ e => (World.ownsRow.lt HO8.out.stmts q e).1).trans ?_))
            exact Keep.set (X := fun q => n1 ≤ q) (Keep.refl _ _) (Nat.le_refl _) _)
          go_roundw
          case rel => exact ⟨k + 1, _, _, by go_num, by omega, HO10.out, Hnx.out _, HO11.out⟩
          case measure => simp [intOf]; omega
        · obtain rfl : k = P.stmts.length := by omega
          rw [List.take_of_length_le (Nat.le_refl _)] at Hm
          have hfl : fs.length = P.funs.length := by rw [← Hmf.out, List.length_map]
          have hsl : ss.length = P.stmts.length := by rw [← Hm.out, List.length_map]
          obtain ⟨fa, fc, hfv⟩ := row_form HO.out.funs
          obtain ⟨sa, sc, hsv⟩ := row_form HO.out.stmts
          rw [hfl] at hfv
          rw [hsl] at hsv
          subst hfv hsv
          have q0 := HO.out.blk.av 0 rfl
          have q1 := HO.out.blk.av 1 rfl
          have q2 := HO.out.blk.av 2 rfl
          have z0 := HBr.out.av 0 rfl
          have z1 := HBr.out.av 1 rfl
          have z2 := HBr.out.av 2 rfl
          have f0 := HBr.out.free 0
          have f1 := HBr.out.free 1
          have f2 := HBr.out.free 2
          simp only [List.getElem_toArray, List.getElem_cons_zero, List.getElem_cons_succ] at q0 q1 q2 z0 z1 z2
          have HBz := hid (store3 (v0 := .slice va P.vars.length vc) (v1 := .slice fa P.funs.length fc) (v2 := .slice sa P.stmts.length sc) HBr.out)
          have HKz := hid (store3_keep wr (w.heap.size + 1) (.slice va P.vars.length vc) (.slice fa P.funs.length fc) (.slice sa P.stmts.length sc))
          obtain ⟨W10, hW10⟩ : ∃ W10, W10 = (((wr.setCell ⟨w.heap.size + 1, 0, none⟩ (.slice va P.vars.length vc)).setCell ⟨w.heap.size + 1, 1, none⟩ (.slice fa P.funs.length fc)).setCell ⟨w.heap.size + 1, 2, none⟩ (.slice sa P.stmts.length sc)) := ⟨_, rfl⟩
          rw [← hW10] at HBz HKz
          have HW10 := hid hW10
          have Hfs := hid (And.intro hfl hsl)
          clear hfl hsl p0 p1 hW10
          go_wp2
          rw [← HW10.out]
          have c0 := HBz.out.av 0 rfl
          have c1' := HBz.out.av 1 rfl
          have c2' := HBz.out.av 2 rfl
          have hX := Keep.new (Ext.refl w) (Hww.out.trans (HKz.out.mono fun b _ e => by omega)) fun b hb => hb
          have hni : ∀ b, b = w.heap.size + 1 → ¬ IsInt wr b := fun b e => by subst e; exact notInt HBr.out (by decide)
          have hrk : ∀ {base : Nat} {e : TypeId} {size : Nat} {v : Value} {n : Nat} {xs : List Value}, wr.ownsRow base e size v n xs → e ≠ 26 → W10.ownsRow base e size v n xs := fun hr hne => row_keep hr HKz.out fun i hi e => by
            subst e
            obtain ⟨c, hc⟩ := own_ty hr hi
            exact Blk.ty_ne hc HBr.out hne rfl
          have hP' : ProgR W10 W10.heap.size (.slice va P.vars.length vc) (.slice fa P.funs.length fc) (.slice sa P.stmts.length sc) P :=
            ⟨StrsR.own (hrk HO.out.vars (by decide)) (Nat.le_refl _), FunsR.own (by have := hrk HO.out.funs (by decide); rw [Hfs.out.1]; rw [Hfs.out.1] at this; exact this) Hmf.out fun x hx => (HO.out.fi x hx).keep HKz.out hni, StmtsR.own (by have := hrk HO.out.stmts (by decide); rw [Hfs.out.2]; rw [Hfs.out.2] at this; exact this) Hm.out fun x hx => (HO.out.si x hx).keep HKz.out hni⟩
          exact bodyPost_ret (v := pval va fa sa vc fc sc P) (by simp [results, pval, Tryz.results6, go_sem, c0, c1', c2']) rfl ⟨hX, _, _, _, _, _, _, rfl, hP'⟩
end Go.Proofs.YtkabgmohgjljkaaGreatDoor


/- The reference's runs: a new thing. -/
namespace Go.Proofs.YtkabgmohgjljkaaGreatDoor
set_option linter.unusedSimpArgs false
set_option linter.unusedVariables false
open Go Go.RowKit

theorem r1val_info : (Tryz.prog.info? 52).map (fun i => (i.zero, i.size, i.bytes)) = some (some (.agg #[.string ⟨#[]⟩, .int .i64 0]), 2, 24) := by kernel_rfl
/-- The state while a thing is being made: the words of the state, its rows. -/
structure RfMid (w : World) (n0 sb : Nat) (vv tb pb tv pv : Value) (s : Rn) : Prop where
  blk : Blk w sb #[vv, tb, pb] 55
  lo : n0 ≤ sb
  vars : w.ownsRow n0 52 2 vv s.vars.length (s.vars.flatMap Vl.cells)
  things : w.ownsRow n0 52 2 tv s.things.length (s.things.flatMap Vl.cells)
  places : w.ownsRow n0 3 1 pv s.places.length (icells s.pl)
  ne : ∀ b, vv.ownBlock = some b → tv.ownBlock ≠ some b
theorem RfAt.mid {w : World} {n0 sb : Nat} {vv tv pv : Value} {s : Rn} (h : RfAt w n0 sb vv tv pv s) : RfMid w n0 sb vv tv pv tv pv s := ⟨h.blk, h.lo, h.vars, h.things, h.places, h.ne⟩
theorem RfMid.at {w : World} {n0 sb : Nat} {vv tv pv : Value} {s : Rn} (h : RfMid w n0 sb vv tv pv tv pv s) : RfAt w n0 sb vv tv pv s := ⟨h.blk, h.lo, h.vars, h.things, h.places, h.ne⟩
theorem RfMid.ext {w w' : World} {n0 sb : Nat} {vv tb pb tv pv : Value} {s : Rn} (h : RfMid w n0 sb vv tb pb tv pv s) (x : Ext w w') : RfMid w' n0 sb vv tb pb tv pv s :=
  ⟨h.blk.ext x, h.lo, own_ext h.vars x, own_ext h.things x, own_ext h.places x, h.ne⟩
theorem RfMid.grow {w w' : World} {n0 sb : Nat} {vv tb pb tv pv : Value} {s : Rn} (h : RfMid w n0 sb vv tb pb tv pv s) {t' : Value} (ho : w'.ownsRow n0 52 2 t' (s.things.length + 1) (s.things.flatMap Vl.cells ++ Vl.cells .none)) (k : Keep (fun q => tv.ownBlock = some q) w w') (hl : t'.ownBlock = tv.ownBlock ∨ t'.ownBlock = some w.heap.size) : RfMid w' n0 sb vv tb pb t' pv { s with things := s.things ++ [.none] } := by
  refine ⟨h.blk.keep k fun e => ?_, h.lo, row_keep h.vars k fun b hb e => h.ne b hb e, ?_, row_keep h.places k fun b hb e => ?_, fun b hb e => ?_⟩
  · obtain ⟨c, hc⟩ := own_ty h.things e
    exact Blk.ty_ne hc h.blk (by decide) rfl
  · have e : (s.things ++ [Vl.none]).flatMap Vl.cells = s.things.flatMap Vl.cells ++ Vl.cells .none := flat_snoc _ _
    simp only [List.length_append, List.length_singleton]
    rw [e]; exact ho
  · obtain ⟨c, hc⟩ := own_ty h.things e
    obtain ⟨d, hd⟩ := own_ty h.places hb
    exact Blk.ty_ne hc hd (by decide) rfl
  · rcases hl with hl | hl
    · exact h.ne b hb (hl ▸ e)
    · rw [hl] at e
      have := (World.ownsRow.lt h.vars b hb).2
      have : w.heap.size = b := by simpa using e
      omega
theorem RfMid.place {w w' : World} {n0 sb k : Nat} {vv tb pb tv pv : Value} {s : Rn} (h : RfMid w n0 sb vv tb pb tv pv s) {p' : Value} (ho : w'.ownsRow n0 3 1 p' (s.places.length + 1) (icells s.pl ++ [.int .i64 (k : Int)])) (kp : Keep (fun q => pv.ownBlock = some q) w w') : RfMid w' n0 sb vv tb pb tv p' { s with places := s.places ++ [k] } := by
  refine ⟨h.blk.keep kp fun e => ?_, h.lo, row_keep h.vars kp fun b hb e => ?_, row_keep h.things kp fun b hb e => ?_, ?_, h.ne⟩
  · obtain ⟨c, hc⟩ := own_ty h.places e
    exact Blk.ty_ne hc h.blk (by decide) rfl
  · obtain ⟨c, hc⟩ := own_ty h.vars hb
    obtain ⟨d, hd⟩ := own_ty h.places e
    exact Blk.ty_ne hc hd (by decide) rfl
  · obtain ⟨c, hc⟩ := own_ty h.things hb
    obtain ⟨d, hd⟩ := own_ty h.places e
    exact Blk.ty_ne hc hd (by decide) rfl
  · have e : icells (Rn.pl { s with places := s.places ++ [k] }) = icells s.pl ++ [.int .i64 (k : Int)] := by simp [Rn.pl, icells]
    simp only [List.length_append, List.length_singleton]
    rw [e]; exact ho
theorem RfMid.sets {w : World} {n0 sb : Nat} {vv tb pb tv pv : Value} {s : Rn} (h : RfMid w n0 sb vv tb pb tv pv s) : RfMid (w.setCell ⟨sb, 1, none⟩ tv) n0 sb vv tv pb tv pv s := by
  have k : Keep (fun q => q = sb) w (w.setCell ⟨sb, 1, none⟩ tv) := Keep.set (X := fun q => q = sb) (Keep.refl _ _) rfl _
  have hb := h.blk.set 1 tv
  simp only [List.setIfInBounds_toArray, List.set_cons_zero, List.set_cons_succ] at hb
  refine ⟨hb, h.lo, row_keep h.vars k fun b hb e => ?_, row_keep h.things k fun b hb e => ?_, row_keep h.places k fun b hb e => ?_, h.ne⟩
  · subst e; obtain ⟨c, hc⟩ := own_ty h.vars (by assumption); exact Blk.ty_ne hc h.blk (by decide) rfl
  · subst e; obtain ⟨c, hc⟩ := own_ty h.things (by assumption); exact Blk.ty_ne hc h.blk (by decide) rfl
  · subst e; obtain ⟨c, hc⟩ := own_ty h.places (by assumption); exact Blk.ty_ne hc h.blk (by decide) rfl
theorem RfMid.setp {w : World} {n0 sb : Nat} {vv tb pb tv pv : Value} {s : Rn} (h : RfMid w n0 sb vv tb pb tv pv s) : RfMid (w.setCell ⟨sb, 2, none⟩ pv) n0 sb vv tb pv tv pv s := by
  have k : Keep (fun q => q = sb) w (w.setCell ⟨sb, 2, none⟩ pv) := Keep.set (X := fun q => q = sb) (Keep.refl _ _) rfl _
  have hb := h.blk.set 2 pv
  simp only [List.setIfInBounds_toArray, List.set_cons_zero, List.set_cons_succ] at hb
  refine ⟨hb, h.lo, row_keep h.vars k fun b hb e => ?_, row_keep h.things k fun b hb e => ?_, row_keep h.places k fun b hb e => ?_, h.ne⟩
  · subst e; obtain ⟨c, hc⟩ := own_ty h.vars (by assumption); exact Blk.ty_ne hc h.blk (by decide) rfl
  · subst e; obtain ⟨c, hc⟩ := own_ty h.things (by assumption); exact Blk.ty_ne hc h.blk (by decide) rfl
  · subst e; obtain ⟨c, hc⟩ := own_ty h.places (by assumption); exact Blk.ty_ne hc h.blk (by decide) rfl


set_option maxRecDepth 100000 in
set_option maxHeartbeats 12800000 in
theorem rstdo_new (a1 a2 a3 : Option Addr) (c1 c2 c3 : Nat) (P : PP) (k : Nat) (x : PS) (hxk : P.stmts[k]? = some x) (hg : P.Good x) (hkx : x.isK kNew = true)  (s : Rn) (hs : s.Ok P) (w : World) (n0 sb : Nat) (vv tv pv : Value) (hR : RfAt w n0 sb vv tv pv s) (hP : ProgR w n0 (.slice a1 P.vars.length c1) (.slice a2 P.funs.length c2) (.slice a3 P.stmts.length c3) P) (hn0 : n0 ≤ w.heap.size) (hsm : s.things.length ≤ 100000) :
    Calls Tryz.prog 13 #[.pointer (some ⟨sb, 0, none⟩), pval a1 a2 a3 c1 c2 c3 P, .int .i64 (k : Int)] w fun e w' => e = .returned (.tuple #[]) ∧ (∃ vv' tv' pv', RfAt w' n0 sb vv' tv' pv' (s.stmt P k x)) ∧ Old n0 w w' := by
  have hk : k < P.stmts.length := by
    rcases Nat.lt_or_ge k P.stmts.length with h | h
    · exact h
    · rw [List.getElem?_eq_none h] at hxk; cases hxk
  have hml := hP.stmts.len
  obtain ⟨W1, hW1⟩ : ∃ W1, W1 = w.alloc (.cells (pcells a1 a2 a3 c1 c2 c3 P) 26) := ⟨_, rfl⟩
  have hx1 : Ext w W1 := by rw [hW1]; exact (Ext.refl _).alloc _
  obtain ⟨y, x', av, cv, rfl, hxk', e0, e1, e2, e3, hI⟩ := (hP.ext hx1).stmts.at hk
  obtain rfl := Option.some.inj (hxk.symm.trans hxk')
  obtain ⟨W2, hW2⟩ : ∃ W2, W2 = W1.alloc (.cells (scells x av cv) 58) := ⟨_, rfl⟩
  have hx2 : Ext W1 W2 := by rw [hW2]; exact (Ext.refl _).alloc _
  have HW2 := hid (hx1.trans hx2)
  have HB1 : Hid (Blk W2 w.heap.size (pcells a1 a2 (some y) c1 c2 c3 P) 26) := hid (by
    have : Blk W1 w.heap.size (pcells a1 a2 (some y) c1 c2 c3 P) 26 := by rw [hW1]; exact Blk.new _ _ _
    exact this.ext hx2)
  have hs1 : W1.heap.size = w.heap.size + 1 := by rw [hW1, heap_size_alloc]
  have HB2 : Hid (Blk W2 (w.heap.size + 1) (scells x av cv) 58) := hid (by
    rw [← hs1, hW2]; exact Blk.new _ _ _)
  have HR2 := hid (hR.ext HW2.out)
  have HP2 := hid (hP.ext HW2.out)
  have HI := hid (hI.old (hx2.old n0))
  have Hs := hid hs
  have Hg := hid hg
  have Hn0 := hid hn0
  have hgx := hg.gx
  rw [hW1] at e0 e1 e2 e3
  have HW2e : Hid (W2 = (w.alloc (.cells #[.slice a1 P.vars.length c1, .slice a2 P.funs.length c2, .slice (some y) P.stmts.length c3] 26)).alloc (.cells #[.string x.kind, .int .i64 x.x, .int .i64 x.y, .slice av x.args.length cv] 58)) := hid (by rw [hW2, hW1]; rfl)
  unfold pcells at e0 e1 e2 e3
  obtain ⟨X, hX⟩ := Int.eq_ofNat_of_zero_le hgx.1
  have HX : Hid (X < s.vars.length) := hid (by rw [hs.lv]; omega)
  have HXe := hid hX
  have hXl := HX.out
  obtain ⟨g, cap, hvv⟩ := own_some hR.vars (by have := HX.out; omega)
  subst hvv
  have hnv : s.vars.length = P.vars.length := hs.lv
  have d0 := HR2.out.blk.kc (X := fun _ => False) (fun e => e) 0 rfl
  have d1 := HR2.out.blk.kc (X := fun _ => False) (fun e => e) 1 rfl
  have d2 := HR2.out.blk.kc (X := fun _ => False) (fun e => e) 2 rfl
  have m1 := HB2.out.kc (X := fun _ => False) (fun e => e) 1 rfl
  have m2 := HB2.out.kc (X := fun _ => False) (fun e => e) 2 rfl
  have m3 := HB2.out.kc (X := fun _ => False) (fun e => e) 3 rfl
  simp only [scells, List.getElem_toArray, List.getElem_cons_zero, List.getElem_cons_succ] at d0 d1 d2 m1 m2 m3
  rw [hX] at m1
  have hsbl := hR.blk.lt
  have Hkx := hid hkx
  have hkk := hkx
  unfold PS.isK kNew at hkk
  clear hxk hxk' hW1 hW2 hx1 hx2 hs1 hR hP hI hs hg hX hgx hkx hn0
  unfold pval
  have h1 : (x.kind.toList == [97, 100, 100, 114]) = false := isK_ne Hkx.out (k' := kAddr) rfl
  have h2 : (x.kind.toList == [99, 111, 112, 121]) = false := isK_ne Hkx.out (k' := kCopy) rfl
  have h3 : (x.kind.toList == [108, 111, 97, 100]) = false := isK_ne Hkx.out (k' := kLoad) rfl
  have h4 : (x.kind.toList == [115, 116, 111, 114, 101]) = false := isK_ne Hkx.out (k' := kStore) rfl
  obtain ⟨ta, tc, rfl⟩ := row_form HR2.out.things
  obtain ⟨pa, pc, rfl⟩ := row_form HR2.out.places
  have Hsp : Hid (s.places.length ≤ 1000000) := hid (by rw [Hs.out.lp]; omega)
  have Hst : Hid (s.things.length ≤ 1000000) := hid (by omega)
  have Hnb : Hid (n0 ≤ W2.heap.size) := hid (Nat.le_trans Hn0.out HW2.out.size)
  have Hnv := hid hnv
  clear m2 m3 hnv
  go_enter Tryz.func13, Tryz.ntmps13
  go_wp2
  rw [← HW2e.out]
  refine wp_flowT (fun _ => False) (by kernel_rfl) (by kernel_rfl) ?_
  repeat (apply FlowT.d; (intro w1 hk; unfold does; go_simp; (try go_ints); (first | exact DetR.mk | (simp only [↓IntWalk.iteOmega, Oper.doesUpon_value]; exact DetR.mk) | (simp only [↓IntWalk.iteOmega]; go_simp; (try go_ints); exact DetR.mk))); simp only [Act.put, List.setIfInBounds_toArray, List.set_cons_zero, List.set_cons_succ])
  refine FlowT.last (fun _ w' => ∃ w2, Ext W2 w2 ∧ w' = store2 w2 g (X * 2) (.thing s.things.length)) 13 rfl (by kernel_rfl) (by kernel_rfl) (fun w2 hx hk => ?_) (fun _ w4 hR4 => ?_)
  · have hV := (HR2.out.ext hx).vars
    obtain ⟨q0, q1⟩ := own_v hV (at_some HX.out)
    have f0 := own_free hV (X * 2)
    have f1 := own_free hV (X * 2 + 1)
    unfold does
    go_simp
    exact ⟨w2, hx, rfl⟩
  obtain ⟨w2, hx2, e4⟩ := hR4
  simp only [Act.put]
  have HM4 : Hid (RfMid w4 n0 sb (.slice (some ⟨g, 0, none⟩) s.vars.length cap) (.slice ta s.things.length tc) (.slice pa s.places.length pc) (.slice ta s.things.length tc) (.slice pa s.places.length pc) { s with vars := s.vars.set X (.thing s.things.length) }) := hid (by
    rw [e4]; exact ((HR2.out.ext hx2).putV X HX.out (.thing s.things.length)).mid)
  have HO4 : Hid (Old n0 w w4) := hid (by rw [e4]; exact ((HW2.out.trans hx2).old n0).trans (store2_old (y := .thing s.things.length) (i := X * 2) (HR2.out.vlo (b := g) rfl)))
  have Hn4 : Hid (n0 ≤ w4.heap.size) := hid (Nat.le_trans Hn0.out HO4.out.size)
  have y1 := HM4.out.blk.av 1 rfl
  simp only [List.getElem_toArray, List.getElem_cons_zero, List.getElem_cons_succ] at y1
  clear hx2 e4 d0 d1 d2 m1
  go_wp2_with (first
    | (at_builtin; refine wpList_append_el n0 (Nat.le_trans Hn4.out ((Ext.refl _).alloc _).size) 53 52 (.agg #[.string ⟨#[]⟩, .int .i64 0]) 2 24 Tryz.underlying53 r1val_info rfl (by omega) (by omega) rfl _ _ rfl (.slice ta s.things.length tc) s.things.length (s.things.flatMap Vl.cells) rfl (own_ext HM4.out.things ((Ext.refl _).alloc _)) w4.heap.size (Vl.cells .none) rfl (by simp [Vl.cells, Value.oneCell']) rfl (Blk.new _ _ _) Hst.out ?_; intro v6 w6 ho6 hk6 hl6; obtain ⟨a6, c6, rfl⟩ := row_form ho6; have HM6 := hid ((HM4.out.ext ((Ext.refl _).alloc _)).grow ho6 hk6 hl6); have HO6 : Hid (Old n0 w w6) := hid (HO4.out.trans ((((Ext.refl w4).alloc _).old n0).trans (hk6.mono fun q _ e => (World.ownsRow.lt HM4.out.things q e).1))); have z1 := HM6.out.blk.av 1 rfl; have t1 := HM6.out.blk.free 1; have HM7 := hid HM6.out.sets; have y2 := HM7.out.blk.av 2 rfl; have Hn7 : Hid (n0 ≤ ((w6.setCell ⟨sb, 1, none⟩ (.slice a6 (s.things.length + 1) c6)).alloc (.cells #[.int .i64 (k : Int)] 3)).heap.size) := hid (Nat.le_trans (Nat.le_of_lt (Nat.lt_of_le_of_lt HM7.out.lo HM7.out.blk.lt)) ((Ext.refl _).alloc _).size); have HO7 : Hid (Old n0 w (w6.setCell ⟨sb, 1, none⟩ (.slice a6 (s.things.length + 1) c6))) := hid (HO6.out.trans (Keep.set (X := fun q => n0 ≤ q) (Keep.refl _ _) HM6.out.lo _)); clear ho6 hk6 hl6)
    | (at_builtin; refine wpList_append_el n0 Hn7.out 27 3 (.int .i64 0) 1 8 Tryz.underlying27 ints_info rfl (by omega) (by omega) rfl _ _ rfl (.slice pa s.places.length pc) s.places.length (icells s.pl) rfl (own_ext HM7.out.places ((Ext.refl _).alloc _)) w6.heap.size [.int .i64 (k : Int)] rfl (by simp [Value.oneCell']) rfl (Blk.new_setU _ _ _ _ _) Hsp.out ?_; intro v9 w9 ho9 hk9 hl9; obtain ⟨a9, c9, rfl⟩ := row_form ho9; have HM9 := hid ((HM7.out.ext ((Ext.refl _).alloc _)).place ho9 hk9); have HO9 : Hid (Old n0 w w9) := hid (HO7.out.trans ((((Ext.refl _).alloc (.cells #[.int .i64 (k : Int)] 3)).old n0).trans (hk9.mono fun q _ e => (World.ownsRow.lt HM7.out.places q e).1))); have z2 := HM9.out.blk.av 2 rfl; have t2 := HM9.out.blk.free 2; clear ho9 hk9 hl9))
  have HS : Hid (s.stmt P k x = { s with vars := s.vars.set X (.thing s.things.length), things := s.things ++ [.none], places := s.places ++ [k] }) := hid (by
    unfold Rn.stmt; rw [isK_ne Hkx.out (k' := kAddr) rfl, isK_ne Hkx.out (k' := kCopy) rfl, isK_ne Hkx.out (k' := kLoad) rfl, isK_ne Hkx.out (k' := kStore) rfl, Hkx.out]; simp only [cond_true, cond_false, Rn.set, HXe.out, Int.toNat_natCast])
  have HR10 := hid HM9.out.setp.at
  have HO10 := hid (HO9.out.trans (Keep.set (X := fun q => n0 ≤ q) (Keep.refl _ w9) HM9.out.lo (p := ⟨sb, 2, none⟩) (.slice a9 (s.places.length + 1) c9)))
  go_end0
  exact ⟨rfl, ⟨_, _, _, by rw [HS.out]; exact HR10.out⟩, HO10.out⟩
end Go.Proofs.YtkabgmohgjljkaaGreatDoor
