/- Texts of one proof, put together: L4 L8 L9 LA LB LC LD LE LO LP. -/
import Derived.Test.YtnpnhbfbklibhaaGreatDoorZFO04

/- Links: a frame is sent and kept. -/
namespace Go.Proofs.YtnpnhbfbklibhaaGreatDoor
set_option linter.unusedSimpArgs false
set_option linter.unusedVariables false
open Go Go.RowKit

theorem fr_cells (f : Fr) (v : Value) (n : Int) : kcells (⟨f, v⟩, n) = [.int .u8 (f.kind.toNat : Int), .int .i64 f.fr, .int .i64 f.to, .int .i64 f.seq, v, .int .i64 n] := rfl

end Go.Proofs.YtnpnhbfbklibhaaGreatDoor


/- Links: a tick. -/
namespace Go.Proofs.YtnpnhbfbklibhaaGreatDoor
set_option linter.unusedSimpArgs false
set_option linter.unusedVariables false
open Go Go.RowKit

theorem FV.At.ints {w : World} {n0 : Nat} {t : Option Nat} {x : FV} {a : Option Addr} {cap : Nat} (h : x.At w n0 t) (hv : x.v = .slice a x.f.nums.length cap) : Ints w a x.f.nums.length x.f.nums := by
  obtain ⟨a', c', e, hi, _⟩ := NumsAt.form h
  rw [hv] at e
  simp only [Value.slice.injEq, true_and] at e
  rw [e.1]
  exact hi
def stampK (s : Snd) (x : FV × Int) : FV × Int := if s.late (x.1.f, x.2) then (x.1, s.now + 1) else x
def lateK (s : Snd) (x : FV × Int) : Bool := s.late (x.1.f, x.2)
theorem Snd.tick_eq {s : Snd} {ks : List (FV × Int)} (h : s.l = ks.map fun x => (x.1.f, x.2)) : s.tick.l = (ks.map (stampK s)).map fun x => (x.1.f, x.2) := by
  simp only [Snd.tick, h, List.map_map]
  apply List.map_congr_left
  intro x _
  simp only [Function.comp, Snd.stamp, stampK]
  split <;> rfl
theorem Snd.again_eq {s : Snd} {ks : List (FV × Int)} (h : s.l = ks.map fun x => (x.1.f, x.2)) : s.again = (ks.filter (lateK s)).map fun x => x.1.f := by
  simp only [Snd.again, h, List.filter_map, List.map_map]
  rfl
/-- The row while it is gone through. -/
def midK (s : Snd) (ks : List (FV × Int)) (i : Nat) : List (FV × Int) := (ks.take i).map (stampK s) ++ ks.drop i
theorem midK_len (s : Snd) (ks : List (FV × Int)) (i : Nat) (hi : i ≤ ks.length) : (midK s ks i).length = ks.length := by simp [midK]; omega
theorem midK_get (s : Snd) (ks : List (FV × Int)) (i : Nat) (x : FV × Int) (hx : ks[i]? = some x) : (midK s ks i)[i]? = some x := by
  have hi : i < ks.length := by
    rcases Nat.lt_or_ge i ks.length with h | h
    · exact h
    · rw [List.getElem?_eq_none h] at hx; cases hx
  unfold midK
  rw [List.getElem?_append_right (by simp; omega), List.getElem?_drop]
  simp only [List.length_map, List.length_take, Nat.min_eq_left (Nat.le_of_lt hi), Nat.sub_self, Nat.add_zero]
  exact hx
theorem midK_no (s : Snd) (ks : List (FV × Int)) (i : Nat) (x : FV × Int) (hx : ks[i]? = some x) (h : lateK s x = false) : midK s ks (i + 1) = midK s ks i := by
  have hi : i < ks.length := by
    rcases Nat.lt_or_ge i ks.length with h | h
    · exact h
    · rw [List.getElem?_eq_none h] at hx; cases hx
  have hd : ks.drop i = x :: ks.drop (i + 1) := by
    rw [List.drop_eq_getElem_cons hi]
    rw [List.getElem?_eq_getElem hi] at hx
    rw [Option.some.inj hx]
  unfold midK
  rw [List.take_add_one, hx, hd]
  simp only [Option.toList, List.map_append, List.map_cons, List.map_nil, List.append_assoc, List.cons_append, List.nil_append]
  congr 2
  unfold stampK
  rw [if_neg]
  unfold lateK at h
  simp [h]
theorem midK_yes (s : Snd) (ks : List (FV × Int)) (i : Nat) (x : FV × Int) (hx : ks[i]? = some x) (h : lateK s x = true) : midK s ks (i + 1) = (midK s ks i).set i (x.1, s.now + 1) := by
  have hi : i < ks.length := by
    rcases Nat.lt_or_ge i ks.length with h | h
    · exact h
    · rw [List.getElem?_eq_none h] at hx; cases hx
  have hd : ks.drop i = x :: ks.drop (i + 1) := by
    rw [List.drop_eq_getElem_cons hi]
    rw [List.getElem?_eq_getElem hi] at hx
    rw [Option.some.inj hx]
  unfold midK
  rw [List.take_add_one, hx, hd, List.set_append_right _ _ (by simp; omega)]
  simp only [Option.toList, List.map_append, List.map_cons, List.map_nil, List.append_assoc, List.cons_append, List.nil_append, List.length_map, List.length_take, Nat.min_eq_left (Nat.le_of_lt hi), Nat.sub_self, List.set_cons_zero]
  congr 2
  unfold stampK
  rw [if_pos]
  unfold lateK at h
  exact h
theorem midK_mem {s : Snd} {ks : List (FV × Int)} {i : Nat} {y : FV × Int} (h : y ∈ midK s ks i) : ∃ x ∈ ks, y.1 = x.1 := by
  rcases List.mem_append.1 h with h | h
  · obtain ⟨x, hx, rfl⟩ := List.mem_map.1 h
    refine ⟨x, List.mem_of_mem_take hx, ?_⟩
    unfold stampK
    split <;> rfl
  · exact ⟨y, List.mem_of_mem_drop h, rfl⟩
theorem late_snoc (s : Snd) (ks : List (FV × Int)) (j : Nat) (x : FV × Int) (hx : ks[j]? = some x) : ((ks.take (j + 1)).filter (lateK s)).map (fun x => x.1.f) = ((ks.take j).filter (lateK s)).map (fun x => x.1.f) ++ if lateK s x = true then [x.1.f] else [] := by
  rw [List.take_add_one, hx, List.filter_append, List.map_append]
  simp only [Option.toList, List.filter_cons, List.filter_nil]
  split <;> rfl

end Go.Proofs.YtnpnhbfbklibhaaGreatDoor


/- Links: a frame is taken: refused, or old. -/
namespace Go.Proofs.YtnpnhbfbklibhaaGreatDoor
set_option linter.unusedSimpArgs false
set_option linter.unusedVariables false
open Go Go.RowKit

/-- The map's find is the plain one. -/
theorem mfind_find (k : Int) : ∀ (ms : List FV) (i : Nat), mfind (ms.map fun x => (x.f.seq, x.val)) k i = match Rcv.find (ms.map FV.f) k with
    | none => none
    | some j => (ms[j]?).map fun x => (i + j, x.val)
  | [], i => rfl
  | x :: l, i => by
    have ih := mfind_find k l (i + 1)
    simp only [List.map_cons]
    unfold mfind
    simp only [Rcv.find, List.findIdx?_cons] at ih ⊢
    by_cases h : x.f.seq = k
    · simp [h]
    · rw [if_neg (by simp; exact fun e => h e.symm)]
      simp only [h, decide_false, Bool.false_eq_true, if_false]
      rw [ih]
      cases List.findIdx? (fun f => decide (f.seq = k)) (l.map FV.f) with
      | none => rfl
      | some j =>
        simp only [Option.map_some, List.getElem?_cons_succ]
        rw [show i + 1 + j = i + (j + 1) by omega]
theorem mval_none {ms : List FV} {k : Int} (h : Rcv.find (ms.map FV.f) k = none) : mval (ms.map fun x => (x.f.seq, x.val)) k = none := by
  unfold mval
  rw [mfind_find, h]
  rfl
theorem mval_some {ms : List FV} {k : Int} {j : Nat} (h : Rcv.find (ms.map FV.f) k = some j) : ∃ x, ms[j]? = some x ∧ x.f.seq = k ∧ mfind (ms.map fun x => (x.f.seq, x.val)) k 0 = some (j, x.val) ∧ mval (ms.map fun x => (x.f.seq, x.val)) k = some x.val := by
  obtain ⟨f, hf, hs⟩ := Rcv.find_get h
  rw [List.getElem?_map] at hf
  cases hx : ms[j]? with
  | none => rw [hx] at hf; cases hf
  | some x =>
    rw [hx] at hf
    obtain rfl := Option.some.inj hf
    have h1 : mfind (ms.map fun x => (x.f.seq, x.val)) k 0 = some (j, x.val) := by rw [mfind_find, h]; simp [hx]
    exact ⟨x, rfl, hs, h1, by unfold mval; rw [h1]; rfl⟩
section
variable {P : Program} {ops : Array Oper} {w : World} {o : Oper} {a : Act} {R : Value → World → Prop}
theorem does_map_new (hg : o.guard = none) (mo x vo : Operand) (t kt et : TypeId) (hop : o.op = Op.mapUpdate t mo x vo) (ht : P.underlying t = some (.map kt et)) (hk : P.underlying kt = some (.int .i64)) (b : Nat) (m : List (Int × Value)) (h : MapAt w b m)
    (hm : a.eval mo = .map (some b)) (k : Int) (hx : a.eval x = .int .i64 k) (v : Value) (hv : a.eval vo = v) (hn : mval m k = none)
    (hK : ∀ w', MapAt w' b (m ++ [(k, v)]) → Keep (fun k => k = b) w w' → R undef w') : does P ops o a w R := by
  obtain ⟨w', hrun, r1, r2⟩ := run_map_new ht hk h k v hn
  unfold does
  rw [if_pos (by simp [Region.wanted, hg])]
  simp [execOp, hop, hm, hx, hv, hrun, Result.andThen]
  exact hK w' r1 r2
theorem does_map_del (hg : o.guard = none) (mo x : Operand) (t kt et : TypeId) (hop : o.op = Op.call { callee := Callee.builtin Builtin.delete, args := #[mo, x], argTypes := #[t, kt] }) (ht : P.underlying t = some (.map kt et)) (hk : P.underlying kt = some (.int .i64)) (b : Nat) (m : List (Int × Value)) (h : MapAt w b m)
    (hm : a.eval mo = .map (some b)) (k : Int) (hx : a.eval x = .int .i64 k) (j : Nat) (v : Value) (hj : mfind m k 0 = some (j, v))
    (hK : ∀ w', MapAt w' b (m.eraseIdx j) → Keep (fun k => k = b) w w' → R (.tuple #[]) w') : does P ops o a w R := by
  obtain ⟨w', hrun, r1, r2⟩ := run_map_del ht hk h k j v hj o.type
  unfold does
  rw [if_pos (by simp [Region.wanted, hg])]
  simp [execOp, hop, resolve, invoke, builtin, hm, hx, hrun, Result.andThen]
  exact hK w' r1 r2
end

end Go.Proofs.YtnpnhbfbklibhaaGreatDoor


/- Links: a frame is taken: an old one, or one that comes too early. -/
namespace Go.Proofs.YtnpnhbfbklibhaaGreatDoor
set_option linter.unusedSimpArgs false
set_option linter.unusedVariables false
open Go Go.RowKit

end Go.Proofs.YtnpnhbfbklibhaaGreatDoor


/- Links: a frame is taken that comes too early. -/
namespace Go.Proofs.YtnpnhbfbklibhaaGreatDoor
set_option linter.unusedSimpArgs false
set_option linter.unusedVariables false
open Go Go.RowKit

theorem MapAt.qne {w : World} {b q : Nat} {m : List (Int × Value)} {c : Array Value} {e : TypeId} (h : MapAt w b m) (hq : Blk w q c e) : ¬ q = b := h.ne hq
theorem Wr.map {w : World} {n0 : Nat} {t : Option Nat} {b : Nat} {m : List (Int × Value)} (h : MapAt w b m) (hl : n0 ≤ b) : Wr w n0 t fun g => g = b := fun g hg _ => ⟨by omega, fun hi => by
  subst hg
  obtain ⟨es, c, hb, _⟩ := h
  obtain ⟨c', z, hi⟩ := hi
  rw [hb] at hi
  cases hi⟩


end Go.Proofs.YtnpnhbfbklibhaaGreatDoor


/- Links: the frame that is due is taken, and what waited behind it. -/
namespace Go.Proofs.YtnpnhbfbklibhaaGreatDoor
set_option linter.unusedSimpArgs false
set_option linter.unusedVariables false
open Go Go.RowKit

/-- How many entries a map has. -/
def mapSize (w : World) (b : Nat) : Nat := match w.heap[b]? with
  | some (.map es _) => es.size
  | _ => 0
theorem MapAt.size {w : World} {b : Nat} {m : List (Int × Value)} (h : MapAt w b m) : mapSize w b = m.length := by
  obtain ⟨es, c, hb, he⟩ := h
  unfold mapSize
  rw [hb]
  have := congrArg List.length he
  simpa using this
theorem Rcv.run_none {n : Nat} {r : Rcv} {out : List Fr} (h : find r.wait r.due = none) : run (n + 1) r out = (out, r) := by
  unfold run
  rw [h]
theorem Rcv.run_some {n : Nat} {r : Rcv} {out : List Fr} {k : Nat} {f : Fr} (h : find r.wait r.due = some k) (hf : r.wait[k]? = some f) : run (n + 1) r out = run n { r with due := r.due + 1, wait := r.wait.eraseIdx k } (out ++ [f]) := by
  conv => lhs; unfold run
  rw [h]
  simp [hf]

theorem map_eraseIdx {α β : Type} (g : α → β) (l : List α) (j : Nat) : (l.eraseIdx j).map g = (l.map g).eraseIdx j := by
  simp only [List.eraseIdx_eq_take_drop_succ, List.map_append, List.map_take, List.map_drop]
end Go.Proofs.YtnpnhbfbklibhaaGreatDoor


/- Links: a frame is sent, or taken, in every case; the law's own trial. -/
namespace Go.Proofs.YtnpnhbfbklibhaaGreatDoor
set_option linter.unusedSimpArgs false
set_option linter.unusedVariables false
open Go Go.RowKit

theorem errv_ne {ev : Nat → Value} {c : Nat} (h : c ≠ 0) : errv ev c = ev c := by unfold errv; rw [if_neg h]
end Go.Proofs.YtnpnhbfbklibhaaGreatDoor


/- Links: the law's own trial. -/
namespace Go.Proofs.YtnpnhbfbklibhaaGreatDoor
set_option linter.unusedSimpArgs false
set_option linter.unusedVariables false
open Go Go.RowKit

theorem ints_new (w : World) (vs : List Int) (hi : ∀ i, vs.getD i 0 ≤ 9223372036854775807) (hl : vs.length ≤ 1000) : Ints (w.alloc (.cells (icells vs).toArray 3)) (some ⟨w.heap.size, 0, none⟩) vs.length vs := by
  have h : IRow w.heap.size (w.alloc (.cells (icells vs).toArray 3)) (.slice (some ⟨w.heap.size, 0, none⟩) vs.length vs.length) vs :=
    own_of_blk (Blk.new _ _ _) (Nat.le_refl _) (Nat.le_refl _) (by unfold maxLen; omega) (by simp [icells]) (by rw [List.toList_toArray, Nat.mul_one, List.take_of_length_le (by simp [icells])])
  exact h.ints hi

end Go.Proofs.YtnpnhbfbklibhaaGreatDoor


/- LinkOnce, plainly. -/
namespace Go.Proofs.YtnpnhbfbklibhaaGreatDoor
set_option linter.unusedSimpArgs false
set_option linter.unusedVariables false

/-- The frame of the k-th number. -/
def ofr (N : List Int) (k : Nat) : Fr := ⟨100, 2, 4, (k : Int), [N.getD k 0]⟩
def oks (N : List Int) : Nat → Snd
  | 0 => Snd.new 2 4
  | i + 1 => (oks N i).sent 100 [N.getD i 0]
theorem oks_eq (N : List Int) (i : Nat) : oks N i = ⟨2, 4, (i : Int), 0, (List.range i).map fun j => (ofr N j, (0 : Int))⟩ := by
  induction i with
  | zero => rfl
  | succ i ih =>
    show (oks N i).sent 100 [N.getD i 0] = _
    rw [ih]
    simp only [Snd.sent, Snd.frame, List.range_succ, List.map_append, List.map_cons, List.map_nil, ofr]
    rfl
theorem ofr_code (N : List Int) (k : Nat) (hk : k ≤ 1000) (h : 0 ≤ N.getD k 0 ∧ N.getD k 0 ≤ 2147483648) : (ofr N k).code = 0 := by
  have h1 : inB (k : Int) 2147483648 = true := by simp [inB]; omega
  have h2 : anyFar [N.getD k 0] = false := by
    generalize N.getD k 0 = v at *
    simp only [anyFar, List.any_cons, List.any_nil, farB]
    simp
    omega
  unfold Fr.code ofr
  simp only
  rw [h1, h2]
  rfl
theorem oks_err (N : List Int) (i : Nat) (hi : i < 200) (h : 0 ≤ N.getD i 0 ∧ N.getD i 0 ≤ 2147483648) : (oks N i).err 100 [N.getD i 0] = 0 := by
  have hc : ((oks N i).frame 100 [N.getD i 0]).code = 0 := by
    rw [oks_eq]
    exact ofr_code N i (by omega) h
  have hl : (oks N i).l.length = i := by rw [oks_eq]; simp
  unfold Snd.err
  rw [if_neg (fun e => e hc), if_neg (by decide), if_neg (by omega)]
theorem oks_ok (N : List Int) (i : Nat) (hi : i ≤ 200) : (oks N i).Ok i := by
  rw [oks_eq]
  exact ⟨by simp only; omega, by simp only; omega, fun k hk => by
    obtain ⟨j, _, rfl⟩ := List.mem_map.1 hk
    simp, by simp; exact hi⟩

/-- The sender, while what is told is answered: those from a on are kept, each sent last at c. -/
def osn (N : List Int) (n a : Nat) (now c : Int) : Snd := ⟨2, 4, (n : Int), now, (List.range' a (n - a)).map fun j => (ofr N j, c)⟩
theorem oks_osn (N : List Int) (n : Nat) : oks N n = osn N n 0 0 0 := by rw [oks_eq, osn, Nat.sub_zero, List.range_eq_range']
theorem osn_ok (N : List Int) (n a : Nat) (now c : Int) (hn : n ≤ 40) (h0 : 0 ≤ c) (h1 : c ≤ now) (h2 : now ≤ 1000) : (osn N n a now c).Ok 1000 :=
  ⟨by simp only [osn]; omega, by simp only [osn]; omega, fun x hx => by
    simp only [osn] at hx ⊢
    obtain ⟨j, _, rfl⟩ := List.mem_map.1 hx
    exact ⟨h0, h1⟩, by simp [osn]; omega⟩
theorem osn_nums (N : List Int) (n a : Nat) (now c : Int) : ∀ x ∈ (osn N n a now c).l, x.1.nums.length ≤ 1000 := fun x hx => by
  simp only [osn] at hx
  obtain ⟨j, _, rfl⟩ := List.mem_map.1 hx
  simp [ofr]
theorem osn_tick (N : List Int) (n a : Nat) (now c : Int) : (osn N n a now c).tick = osn N n a (now + 1) (if now + 1 - c = 3 then now + 1 else c) := by
  have hl : (osn N n a now c).l.map (osn N n a now c).stamp = (osn N n a (now + 1) (if now + 1 - c = 3 then now + 1 else c)).l := by
    show ((List.range' a (n - a)).map fun j => (ofr N j, c)).map (osn N n a now c).stamp = (List.range' a (n - a)).map fun j => (ofr N j, if now + 1 - c = 3 then now + 1 else c)
    rw [List.map_map]
    refine List.map_congr_left fun j _ => ?_
    show (osn N n a now c).stamp (ofr N j, c) = _
    unfold Snd.stamp
    have hL : (osn N n a now c).late (ofr N j, c) = decide (now + 1 - c = 3) := rfl
    rw [hL]
    by_cases h : now + 1 - c = 3
    · rw [if_pos (decide_eq_true h), if_pos h]; rfl
    · rw [if_neg (by simp [h]), if_neg h]
  unfold Snd.tick
  rw [hl]
  rfl
theorem osn_again (N : List Int) (n a : Nat) (now c : Int) : (osn N n a now c).again = if now + 1 - c = 3 then (List.range' a (n - a)).map (ofr N) else [] := by
  unfold Snd.again
  by_cases h : now + 1 - c = 3
  · rw [if_pos h, List.filter_eq_self.2 fun x hx => ?_]
    · simp [osn, Function.comp]
    · simp only [osn] at hx
      obtain ⟨j, _, rfl⟩ := List.mem_map.1 hx
      exact decide_eq_true (show now + 1 - c = 3 from h)
  · rw [if_neg h, List.filter_eq_nil_iff.2 fun x hx => ?_]
    · rfl
    · simp only [osn] at hx
      obtain ⟨j, _, rfl⟩ := List.mem_map.1 hx
      exact fun e => h (of_decide_eq_true e)
theorem range'_filter (a m d : Nat) (h : a ≤ d) : (List.range' a m).filter (fun j : Nat => decide ((d : Int) ≤ (j : Int))) = List.range' d (a + m - d) := by
  induction m with
  | zero => simp; omega
  | succ m ih =>
    rw [List.range'_1_concat, List.filter_append, ih]
    by_cases hd : d ≤ a + m
    · have h1 : a + (m + 1) - d = (a + m - d) + 1 := by omega
      rw [h1, List.range'_1_concat]
      have : (d : Int) ≤ ((a + m : Nat) : Int) := by omega
      rw [List.filter_cons_of_pos (by simpa using this)]
      simp only [List.filter_nil]
      congr 2
      omega
    · have h1 : a + (m + 1) - d = 0 := by omega
      have h2 : a + m - d = 0 := by omega
      rw [h1, h2]
      have : ¬ (d : Int) ≤ ((a + m : Nat) : Int) := by omega
      rw [List.filter_cons_of_neg (by simpa using this)]
      simp
theorem osn_acked (N : List Int) (n a d : Nat) (now c : Int) (h : a ≤ d) (hn : a ≤ n) (hd : d ≤ n) : (osn N n a now c).acked (d : Int) = osn N n d now c := by
  unfold Snd.acked osn
  simp only [List.filter_map, Snd.mk.injEq, true_and]
  rw [show n - d = a + (n - a) - d by omega, ← range'_filter a (n - a) d h]
  rfl

/-- All are frames of the numbers. -/
def AllOf (N : List Int) (n : Nat) (l : List Fr) : Prop := ∀ f ∈ l, ∃ j, j < n ∧ f = ofr N j
/-- A receiver, while it takes frames of the numbers. -/
structure ORcv (N : List Int) (n d : Nat) (r : Rcv) : Prop where
  fr : r.fr = 2
  to : r.to = 4
  due : r.due = (d : Int)
  le : d ≤ n
  wait : AllOf N n r.wait
  len : r.wait.length ≤ 8
theorem run_of {N : List Int} {n : Nat} : ∀ (k : Nat) (d : Nat) (r : Rcv) (out : List Fr), ORcv N n d r → ∃ d' r', Rcv.run k r out = (out ++ (List.range' d (d' - d)).map (ofr N), r') ∧ ORcv N n d' r' ∧ d ≤ d' ∧ (r.wait.length < k → Rcv.find r'.wait r'.due = none)
  | 0, d, r, out, h => ⟨d, r, by simp [Rcv.run], h, Nat.le_refl _, fun h => by omega⟩
  | k + 1, d, r, out, h => by
    unfold Rcv.run
    cases hf : Rcv.find r.wait r.due with
    | none => exact ⟨d, r, by simp, h, Nat.le_refl _, fun _ => hf⟩
    | some j =>
      obtain ⟨f, hg, hs⟩ := Rcv.find_get hf
      obtain ⟨i, hi, rfl⟩ := h.wait f (List.mem_of_getElem? hg)
      have hid : i = d := by
        have h1 := h.due
        have h2 : ((i : Nat) : Int) = r.due := hs
        omega
      subst hid
      have h' : ORcv N n (i + 1) { r with due := r.due + 1, wait := r.wait.eraseIdx j } :=
        ⟨h.fr, h.to, by simp only; rw [h.due]; omega, by omega, fun g hg => h.wait g (List.mem_of_mem_eraseIdx hg), Nat.le_trans (List.length_eraseIdx_le ..) h.len⟩
      obtain ⟨d', r', e1, e2, e3, e4⟩ := run_of k (i + 1) _ (out ++ [ofr N i]) h'
      refine ⟨d', r', ?_, e2, by omega, fun hk => e4 ?_⟩
      rotate_left
      · have hj := Rcv.find_lt hf
        simp only [List.length_eraseIdx]
        rw [if_pos hj]
        omega
      simp only [hg, Option.toList]
      rw [e1, List.append_assoc]
      congr 2
      rw [show d' - i = (d' - (i + 1)) + 1 by omega, List.range'_succ]
      simp
theorem took_of {N : List Int} {n d j : Nat} {r : Rcv} (h : ORcv N n d r) (hst : Rcv.find r.wait r.due = none) (hj : j < n) : ∃ d' r', r.took (ofr N j) = ((List.range' d (d' - d)).map (ofr N), r') ∧ ORcv N n d' r' ∧ d ≤ d' ∧ (j ≤ d → j + 1 ≤ d') ∧ Rcv.find r'.wait r'.due = none := by
  unfold Rcv.took
  have hs : (ofr N j).seq = (j : Int) := rfl
  by_cases h1 : (ofr N j).seq < r.due ∨ (Rcv.find r.wait (ofr N j).seq).isSome = true
  · rw [if_pos h1]
    refine ⟨d, r, by simp, h, Nat.le_refl _, fun hd => ?_, hst⟩
    have hdu := h.due
    rcases h1 with h1 | h1
    · omega
    · rcases Nat.lt_or_ge j d with h2 | h2
      · omega
      · have : j = d := by omega
        subst this
        rw [hs, ← hdu, hst] at h1
        cases h1
  · rw [if_neg h1]
    by_cases h2 : r.due < (ofr N j).seq
    · rw [if_pos h2]
      have hdj : d < j := by have := h.due; omega
      by_cases h3 : r.wait.length < 8
      · rw [if_pos h3]
        refine ⟨d, { r with wait := r.wait ++ [ofr N j] }, by simp, ⟨h.fr, h.to, h.due, h.le, fun f hf => ?_, by simp; omega⟩, Nat.le_refl _, fun hd => by omega, ?_⟩
        rotate_left
        · show List.findIdx? _ (r.wait ++ [ofr N j]) = none
          rw [List.findIdx?_append, show List.findIdx? (fun f => decide (f.seq = r.due)) r.wait = none from hst]
          have : ¬ (ofr N j).seq = r.due := by omega
          simp [this]
        rcases List.mem_append.1 hf with hf | hf
        · exact h.wait f hf
        · exact ⟨j, hj, List.mem_singleton.1 hf⟩
      · rw [if_neg h3]
        exact ⟨d, r, by simp, h, Nat.le_refl _, fun hd => by omega, hst⟩
    · rw [if_neg h2]
      have hdj : j = d := by
        have h3 : ¬ (ofr N j).seq < r.due := fun e => h1 (.inl e)
        have := h.due
        omega
      subst hdj
      have h' : ORcv N n (j + 1) { r with due := r.due + 1 } := ⟨h.fr, h.to, by simp only; rw [h.due]; omega, by omega, h.wait, h.len⟩
      obtain ⟨d', r', e1, e2, e3, e4⟩ := run_of (r.wait.length + 1) (j + 1) _ [ofr N j] h'
      refine ⟨d', r', ?_, e2, by omega, fun _ => e3, e4 (Nat.lt_succ_self _)⟩
      rw [e1]
      rw [show d' - j = (d' - (j + 1)) + 1 by omega, List.range'_succ]
      simp

theorem took_take {N : List Int} {n d j : Nat} {r : Rcv} (h : ORcv N n d r) (hj : j < n) (hn : n ≤ 1000) (hv : ∀ k, k < n → 0 ≤ N.getD k 0 ∧ N.getD k 0 ≤ 2147483648) : r.err (ofr N j) = 0 ∧ r.take (ofr N j) = r.took (ofr N j) := by
  have hc := ofr_code N j (by omega) (hv j hj)
  have he : r.err (ofr N j) = 0 := by
    unfold Rcv.err
    rw [if_neg (fun e => e hc), if_neg]
    rintro (h1 | h1 | h1)
    · exact h1 h.fr.symm
    · exact h1 h.to.symm
    · cases h1
  exact ⟨he, by unfold Rcv.take; rw [if_pos he]⟩
theorem take_more (N : List Int) (d d' : Nat) (h : d ≤ d') (hn : d' ≤ N.length) : N.take d' = N.take d ++ (List.range' d (d' - d)).map fun j => N.getD j 0 := by
  obtain ⟨k, rfl⟩ : ∃ k, d' = d + k := ⟨d' - d, by omega⟩
  rw [Nat.add_sub_cancel_left]
  induction k with
  | zero => simp
  | succ k ih =>
    rw [List.range'_1_concat, List.map_append, ← List.append_assoc, ← ih (by omega) (by omega), ← Nat.add_assoc, List.take_succ_eq_append_getElem (by omega)]
    simp [show d + k < N.length by omega]
end Go.Proofs.YtnpnhbfbklibhaaGreatDoor


/- Links: what lies where in LinkOnce. -/
namespace Go.Proofs.YtnpnhbfbklibhaaGreatDoor
set_option linter.unusedSimpArgs false
set_option linter.unusedVariables false
open Go Go.RowKit

theorem own_nilSrc {w : World} {base : Nat} {t e : TypeId} {i : TypeInfo} {size n : Nat} {v : Value} {xs : List Value} (ht : Tryz.prog.underlying t = some (.slice e)) (hi : Tryz.prog.info? e = some i) (h : w.ownsRow base e size v n xs) (ty : TypeId) (c : Nat) : (Builtin.append_ #[t, t] ty #[v, .slice none 0 c]).run Tryz.prog w = .ok v w := by
  rcases h.2 with ⟨h2, h3⟩ | ⟨g, cap, cur, h2, _, _, hnc, _⟩
  · subst h2
    simp [Builtin.append_, run_underlying ht, sizeOf, typeInfo, hi, Builtin.lenOf, Builtin.firstCells]
  · subst h2
    simp [Builtin.append_, run_underlying ht, sizeOf, typeInfo, hi, Builtin.lenOf, Builtin.firstCells, hnc, storeCells]
/-- Cells that lie at an address. -/
structure Src (w : World) (a : Option Addr) (m : Nat) (size : Nat) (us : List Value) : Prop where
  len : us.length = m * size
  sm : 0 < m → ∃ x, a = some x
  cl : ∀ x, a = some x → ∀ j u, us[j]? = some u → w.cell? (x.add j) = some u
  one : ∀ u ∈ us, u.oneCell' = true
theorem run_append_src (w : World) (base : Nat) (hbase : base ≤ w.heap.size) (t e : TypeId) (z : Value) (size bytes : Nat) (ht : Tryz.prog.underlying t = some (.slice e)) (hinf : (Tryz.prog.info? e).map (fun i => (i.zero, i.size, i.bytes)) = some (some z, size, bytes)) (hz1 : z.cells.size = size) (hsz : 0 < size) (hb8 : bytes ≤ 64) (ty : TypeId)
    (v : Value) (n : Nat) (xs : List Value) (hown : w.ownsRow base e size v n xs) (a : Option Addr) (m c : Nat) (us : List Value) (hs : Src w a m size us) (hl : n + m ≤ 1000000) :
    ∃ v' w', (Builtin.append_ #[t, t] ty #[v, .slice a m c]).run Tryz.prog w = .ok v' w' ∧ w'.ownsRow base e size v' (n + m) (xs ++ us) ∧ Keep (fun k => v.ownBlock = some k) w w' ∧ ∀ k, v'.ownBlock = some k → v.ownBlock = some k ∨ w.heap.size ≤ k := by
  obtain ⟨ti, hi, hz0, hz, hz2⟩ := info_parts hinf
  rcases a with _ | ad
  · have hm : m = 0 := by
      rcases Nat.eq_zero_or_pos m with h0 | h0
      · exact h0
      · obtain ⟨x, hx⟩ := hs.sm h0; cases hx
    subst hm
    obtain rfl : us = [] := List.eq_nil_of_length_eq_zero (by have := hs.len; omega)
    exact ⟨v, w, own_nilSrc ht hi hown ty c, by simpa using hown, Keep.refl _ _, fun k hk => .inl hk⟩
  · obtain ⟨v', w', hr, h2, h3, _, h4⟩ := run_append_own_at (P := Tryz.prog) w base t ty e ti z size bytes ht hi hz0 hz hz2 hz1 hsz v n xs hown ad m c us hs.len (hs.cl ad rfl) hs.one (by simp only [maxLen]; omega) (by
      have : (n + m) * bytes ≤ (n + m) * 64 := Nat.mul_le_mul_left _ hb8
      omega) hbase
    refine ⟨v', w', hr, h2, grown_keep h3, fun k hk => ?_⟩
    rcases h4 with h4 | h4
    · exact .inl (h4 ▸ hk)
    · rw [h4] at hk
      have := Option.some.inj hk
      exact .inr (by omega)
theorem wpList_append_src {ops : Array Oper} {Q : Exit → Act → World → Prop} {rest : List Oper} {o : Oper} {a : Act} {w : World} (base : Nat) (hbase : base ≤ w.heap.size) (t e : TypeId) (z : Value) (size bytes : Nat) (ht : Tryz.prog.underlying t = some (.slice e)) (hinf : (Tryz.prog.info? e).map (fun i => (i.zero, i.size, i.bytes)) = some (some z, size, bytes)) (hz1 : z.cells.size = size) (hsz : 0 < size)
    (hb8 : bytes ≤ 64) (hg : o.guard = none) (s x : Operand) (ho : o.op = .call { callee := .builtin .append, args := #[s, x], argTypes := #[t, t] })
    (v : Value) (n : Nat) (xs : List Value) (hs : a.eval s = v) (hown : w.ownsRow base e size v n xs) (ad : Option Addr) (m c : Nat) (us : List Value) (hx : a.eval x = .slice ad m c) (hsrc : Src w ad m size us) (hl : n + m ≤ 1000000)
    (h : ∀ v' w', w'.ownsRow base e size v' (n + m) (xs ++ us) → Keep (fun k => v.ownBlock = some k) w w' → (∀ k, v'.ownBlock = some k → v.ownBlock = some k ∨ w.heap.size ≤ k) → wpList Tryz.prog ops Q rest (a.put o.dst v') w') : wpList Tryz.prog ops Q (o :: rest) a w := by
  obtain ⟨v', w', hr, h2, h3, h4⟩ := run_append_src w base hbase t e z size bytes ht hinf hz1 hsz hb8 o.type v n xs hown ad m c us hsrc hl
  refine wpList_plain hg fun K hK => ?_
  unfold Oper.wp
  rw [run_exec_append s x t ho hs hx hr]
  exact hK _ _ (h v' w' h2 h3 h4)
theorem Src.ints {w : World} {a : Option Addr} {m : Nat} {vs : List Int} (h : Ints w a m vs) : Src w a m 1 (icells vs) := by
  refine ⟨by simp [icells, h.ln], h.sm, fun x hx j u hu => ?_, icells_one⟩
  simp only [icells, List.getElem?_map] at hu
  have hj : j < vs.length := by
    rcases Nat.lt_or_ge j vs.length with h1 | h1
    · exact h1
    · rw [List.getElem?_eq_none h1] at hu; cases hu
  rw [h.cl x hx j (by have := h.ln; omega), List.getD_eq_getElem?_getD, List.getElem?_eq_getElem hj]
  rw [List.getElem?_eq_getElem hj] at hu
  exact hu
theorem FV.one {w : World} {n0 : Nat} {t : Option Nat} {fs : List FV} (h : ∀ x ∈ fs, x.At w n0 t) : ∀ u ∈ fs.flatMap FV.cells, u.oneCell' = true := by
  intro u hu
  obtain ⟨x, hx, hu⟩ := List.mem_flatMap.1 hu
  obtain ⟨a, c, _, hv, _⟩ := (h x hx).form
  simp only [FV.cells, hv, List.mem_cons, List.not_mem_nil, or_false] at hu
  rcases hu with rfl | rfl | rfl | rfl | rfl <;> rfl
/-- A part of a row of frames. -/
theorem Src.part {w : World} {n0 : Nat} {t : Option Nat} {base g n cap : Nat} {e : TypeId} {fs : List FV} (h : FRow w n0 t base e (.slice (some ⟨g, 0, none⟩) n cap) fs) (hn : fs.length = n) (i m : Nat) (him : i + m ≤ n) : Src w (some ⟨g, i * 5, none⟩) m 5 (((fs.drop i).take m).flatMap FV.cells) := by
  have hr := h.row
  rw [hn] at hr
  refine ⟨?_, fun _ => ⟨_, rfl⟩, fun x hx j u hu => ?_, FV.one (w := w) (n0 := n0) (t := t) fun x hx => h.nums x (List.mem_of_mem_drop (List.mem_of_mem_take hx))⟩
  · rw [fm_len FV.cells 5 FV.cells_len]
    simp
    omega
  · obtain rfl := Option.some.inj hx
    rw [show (⟨g, i * 5, none⟩ : Addr).add j = ⟨g, i * 5 + j, none⟩ from by by_cases h0 : j = 0 <;> simp [Addr.add, h0]]
    refine own_get hr _ ?_
    rw [← fm_take FV.cells 5 FV.cells_len, ← fm_drop FV.cells 5 FV.cells_len, List.getElem?_take, List.getElem?_drop] at hu
    split at hu
    · exact hu
    · cases hu
theorem Src.head {w : World} {n0 : Nat} {t : Option Nat} {base g n cap : Nat} {e : TypeId} {fs : List FV} (h : FRow w n0 t base e (.slice (some ⟨g, 0, none⟩) n cap) fs) (hn : fs.length = n) (k : Nat) (hk : k ≤ n) : Src w (some ⟨g, 0, none⟩) k 5 ((fs.take k).flatMap FV.cells) := by
  have := Src.part h hn 0 k (by omega)
  rwa [List.drop_zero, Nat.zero_mul] at this
theorem Src.tail {w : World} {n0 : Nat} {t : Option Nat} {base g n cap : Nat} {e : TypeId} {fs : List FV} (h : FRow w n0 t base e (.slice (some ⟨g, 0, none⟩) n cap) fs) (hn : fs.length = n) (k : Nat) (hk : k ≤ n) : Src w (some ⟨g, k * 5, none⟩) (n - k) 5 ((fs.drop k).flatMap FV.cells) := by
  have := Src.part h hn k (n - k) (by omega)
  rwa [List.take_of_length_le (by simp; omega)] at this
theorem Src.zero (w : World) (ad : Addr) (nets : List FV) (kk : Nat) (h : nets.length ≤ kk + 1) : Src w (some ad) (nets.length - (kk + 1)) 5 ((nets.drop (kk + 1)).flatMap FV.cells) := by
  have h1 : nets.drop (kk + 1) = [] := List.drop_of_length_le h
  rw [h1]
  exact ⟨by simp; omega, fun _ => ⟨_, rfl⟩, fun x _ j u hu => by simp at hu, fun u hu => by simp at hu⟩
theorem Src.all {w : World} {n0 : Nat} {t : Option Nat} {base n cap : Nat} {a : Option Addr} {e : TypeId} {fs : List FV} (h : FRow w n0 t base e (.slice a n cap) fs) (hn : fs.length = n) : Src w a n 5 (fs.flatMap FV.cells) := by
  rcases Nat.eq_zero_or_pos n with h0 | h0
  · subst h0
    obtain rfl := List.eq_nil_of_length_eq_zero hn
    exact ⟨rfl, fun h => by omega, fun x _ j u hu => by simp at hu, fun u hu => by simp at hu⟩
  · have hr := h.row
    obtain ⟨g, cp, he⟩ := own_some hr (by omega)
    simp only [Value.slice.injEq] at he
    obtain ⟨rfl, _, rfl⟩ := he
    have := Src.part h hn 0 n (by omega)
    rw [List.drop_zero, List.take_of_length_le (by omega), Nat.zero_mul] at this
    exact this

theorem FRow.getp {w : World} {n0 : Nat} {t : Option Nat} {base g n cap : Nat} {e : TypeId} {fs : List FV} (h : FRow w n0 t base e (.slice (some ⟨g, 0, none⟩) n cap) fs) (hn : fs.length = n) {j : Nat} {x : FV} (hx : fs[j]? = some x) :
    w.cell? ⟨g, j * 5, none⟩ = some (.int .u8 (x.f.kind.toNat : Int)) ∧ w.cell? ⟨g, j * 5 + 1, none⟩ = some (.int .i64 x.f.fr) ∧ w.cell? ⟨g, j * 5 + 2, none⟩ = some (.int .i64 x.f.to) ∧ w.cell? ⟨g, j * 5 + 3, none⟩ = some (.int .i64 x.f.seq) ∧ w.cell? ⟨g, j * 5 + 4, none⟩ = some x.v := by
  have hr := h.row
  rw [hn] at hr
  have c : ∀ i v, (FV.cells x)[i]? = some v → i < 5 → w.cell? ⟨g, j * 5 + i, none⟩ = some v := fun i v hv hi => own_get hr _ ((fm_get FV.cells 5 FV.cells_len fs j i x hx hi).trans hv)
  exact ⟨c 0 _ rfl (by omega), c 1 _ rfl (by omega), c 2 _ rfl (by omega), c 3 _ rfl (by omega), c 4 _ rfl (by omega)⟩
/-- Told turns: all else stays. -/
theorem Wr.told {w : World} {n0 : Nat} {t : Option Nat} (h : ∀ b, t = some b → n0 ≤ b) : Wr w n0 t fun b => t = some b := fun b hb _ => ⟨h b hb, fun _ => hb⟩
structure Told (w w' : World) (n0 : Nat) (t t' : Option Nat) : Prop where
  keep : Keep (fun b => t = some b) w w'
  lo : ∀ b, t = some b → n0 ≤ b
  int : ∀ b, t = some b → IsInt w b
  new : ∀ b, t' = some b → t = some b ∨ w.heap.size ≤ b
theorem NumsAt.told {w w' : World} {n0 : Nat} {t t' : Option Nat} {v : Value} {l : List Int} (h : NumsAt w n0 t v l) (k : Told w w' n0 t t') : NumsAt w' n0 t' v l := by
  obtain ⟨a, cap, rfl, hi, hb⟩ := h
  have hne : ∀ x, a = some x → 0 < l.length → ¬ t = some x.block := fun x hx hl e => by
    rcases hb x hx hl with h1 | h1
    · have := k.lo _ e; omega
    · exact h1.2 e
  refine ⟨a, cap, rfl, hi.keep k.keep hne, fun x hx hl => (hb x hx hl).imp id fun h1 => ⟨h1.1.keep k.keep (hne x hx hl), fun e => ?_⟩⟩
  rcases k.new _ e with h2 | h2
  · exact h1.2 h2
  · have := hi.blt hx hl; omega
theorem Told.ne {w w' : World} {n0 : Nat} {t t' : Option Nat} (k : Told w w' n0 t t') {b : Nat} {c : Array Value} {e : TypeId} (hb : Blk w b c e) (hne : e ≠ 3) : ¬ t = some b := fun h => IsInt.not hb hne (k.int b h)
theorem FRow.told {w w' : World} {n0 : Nat} {t t' : Option Nat} {base : Nat} {e : TypeId} {v : Value} {fs : List FV} (h : FRow w n0 t base e v fs) (k : Told w w' n0 t t') (he : e ≠ 3) : FRow w' n0 t' base e v fs :=
  ⟨row_keep h.row k.keep (fun b hb => by
    obtain ⟨c, hc⟩ := own_ty h.row hb
    exact k.ne hc he), fun x hx => NumsAt.told (h.nums x hx) k⟩

section
variable {w0 : World} {N : List Int} {n p q b a d e : Nat} {now c : Int} {r : Rcv} {nv tv : Value} {nets : List FV} {wr : World}
end
theorem AllOf.mono {N : List Int} {n m : Nat} {l : List Fr} (h : AllOf N n l) (hn : n ≤ m) : AllOf N m l := fun f hf => by
  obtain ⟨j, hj, e⟩ := h f hf
  exact ⟨j, by omega, e⟩
end Go.Proofs.YtnpnhbfbklibhaaGreatDoor
