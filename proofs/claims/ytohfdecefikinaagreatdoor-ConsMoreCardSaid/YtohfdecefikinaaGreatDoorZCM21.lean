/- Texts of one proof, put together: WC WD V7 V8. -/
import Derived.Test.YtohfdecefikinaaGreatDoorZCM19
import Derived.Test.YtohfdecefikinaaGreatDoorZCM20

/- The reference's runs: a call that is done. -/
namespace Go.Proofs.YtohfdecefikinaaGreatDoor
set_option linter.unusedSimpArgs false
set_option linter.unusedVariables false
open Go Go.RowKit

end Go.Proofs.YtohfdecefikinaaGreatDoor


/- The reference's runs: any statement; the beginning. -/
namespace Go.Proofs.YtohfdecefikinaaGreatDoor
set_option linter.unusedSimpArgs false
set_option linter.unusedVariables false
open Go Go.RowKit

theorem stmt_call_eq {P : PP} {k : Nat} {x : PS} (h : x.isK kCall = true) (s : Rn) : s.stmt P k x = s.call P x := by
  unfold Rn.stmt; rw [isK_ne h (k' := kAddr) rfl, isK_ne h (k' := kCopy) rfl, isK_ne h (k' := kLoad) rfl, isK_ne h (k' := kStore) rfl, isK_ne h (k' := kNew) rfl, isK_ne h (k' := kFun) rfl, h]; simp only [cond_true, cond_false]
end Go.Proofs.YtohfdecefikinaaGreatDoor


/- Runs: the law's own small run. -/
namespace Go.Proofs.YtohfdecefikinaaGreatDoor
set_option linter.unusedSimpArgs false
set_option linter.unusedVariables false
open Go Go.RowKit

def ranP : PP := ⟨[⟨#[97]⟩, ⟨#[98]⟩], [], [⟨⟨#[97, 100, 100, 114]⟩, 0, 1, []⟩, ⟨⟨#[115, 116, 111, 114, 101]⟩, 0, 0, []⟩]⟩
theorem ran_runs : ranP.Runs [0, 1] := by
  refine ⟨by decide +kernel, fun j t hj ht => ?_, by decide, fun x hx => ?_⟩
  · have hj2 : j < 2 := hj
    rcases (by omega : j = 0 ∨ j = 1) with rfl | rfl
    · obtain rfl := Option.some.inj ht
      decide +kernel
    · obtain rfl := Option.some.inj ht
      decide +kernel
  · rcases (by simpa using hx : x = 0 ∨ x = 1) with rfl | rfl <;> decide
theorem ran_end : (Rn.run ranP ([0, 1].map Int.toNat)).vars = [.var 1, .var 1] := by
  have e : [(0 : Int), 1].map Int.toNat = [0, 1] := rfl
  rw [e]
  unfold Rn.run Rn.begin
  simp only [List.foldl_cons, List.foldl_nil, Rn.step, ranP, List.getElem?_cons_zero, List.getElem?_cons_succ, Rn.stmt]
  have k1 : PS.isK ⟨⟨#[97, 100, 100, 114]⟩, 0, 1, []⟩ kAddr = true := by decide +kernel
  have k2 : PS.isK ⟨⟨#[115, 116, 111, 114, 101]⟩, 0, 0, []⟩ kAddr = false := by decide +kernel
  have k3 : PS.isK ⟨⟨#[115, 116, 111, 114, 101]⟩, 0, 0, []⟩ kCopy = false := by decide +kernel
  have k4 : PS.isK ⟨⟨#[115, 116, 111, 114, 101]⟩, 0, 0, []⟩ kLoad = false := by decide +kernel
  have k5 : PS.isK ⟨⟨#[115, 116, 111, 114, 101]⟩, 0, 0, []⟩ kStore = true := by decide +kernel
  rw [k1, k2, k3, k4, k5]
  rfl
def ranS : Array Value := #[.string ⟨#[97, 100, 100, 114]⟩, .int .i64 0, .int .i64 1, .slice none 0 0, .string ⟨#[115, 116, 111, 114, 101]⟩, .int .i64 0, .int .i64 0, .slice none 0 0]
theorem ran_prog {w : World} {a b n0 : Nat} (ha : Blk w a #[.string ⟨#[97]⟩, .string ⟨#[98]⟩] 9) (hb : Blk w b ranS 65) (h1 : a < n0) (h2 : b < n0) : ProgR w n0 (.slice (some ⟨a, 0, none⟩) 2 2) (.slice none 0 0) (.slice (some ⟨b, 0, none⟩) 2 2) ranP := by
  refine ⟨⟨_, 2, rfl, by decide, by decide, fun _ => ⟨_, rfl⟩, fun y hy _ => ?_⟩, ⟨_, 0, rfl, by decide, by decide, fun h => absurd h (by decide), fun y hy => by cases hy⟩, ⟨_, 2, rfl, by decide, by decide, fun _ => ⟨_, rfl⟩, fun y hy _ => ?_⟩⟩
  · obtain rfl := Option.some.inj hy
    refine ⟨h1, fun i hi s hs => ?_⟩
    have hi2 : i < 2 := hi
    rcases (by omega : i = 0 ∨ i = 1) with rfl | rfl
    · obtain rfl := Option.some.inj hs
      exact ha.av 0 rfl
    · obtain rfl := Option.some.inj hs
      exact ha.av 1 rfl
  · obtain rfl := Option.some.inj hy
    refine ⟨h2, fun i hi s hs => ?_⟩
    have hi2 : i < 2 := hi
    have hn : IntsR w n0 (.slice none 0 0) [] := ⟨none, 0, rfl, by decide, by decide, fun h => absurd h (by decide), fun y hy => by cases hy⟩
    rcases (by omega : i = 0 ∨ i = 1) with rfl | rfl
    · obtain rfl := Option.some.inj hs
      exact ⟨.slice none 0 0, hb.av 0 rfl, hb.av 1 rfl, hb.av 2 rfl, hb.av 3 rfl, hn⟩
    · obtain rfl := Option.some.inj hs
      exact ⟨.slice none 0 0, hb.av 4 rfl, hb.av 5 rfl, hb.av 6 rfl, hb.av 7 rfl, hn⟩

end Go.Proofs.YtohfdecefikinaaGreatDoor


/- Runs: what the law needs, plainly. -/
namespace Go.Proofs.YtohfdecefikinaaGreatDoor
set_option linter.unusedSimpArgs false
set_option linter.unusedVariables false
open Go Go.RowKit

def PP.isNew (P : PP) (k : Nat) : Bool := match P.stmts[k]? with
  | some x => x.isK kNew
  | none => false
theorem Rn.step_places (P : PP) (s : Rn) (k : Nat) : (s.step P k).places = s.places ++ [k].filter P.isNew := by
  unfold Rn.step PP.isNew
  cases hx : P.stmts[k]? with
  | none => simp [hx]
  | some x =>
    simp only [Rn.stmt_places, List.filter_cons, List.filter_nil, hx]
theorem Rn.foldl_places (P : PP) : ∀ (l : List Nat) (s : Rn), (l.foldl (Rn.step P) s).places = s.places ++ l.filter P.isNew
  | [], s => by simp
  | k :: l, s => by
    rw [List.foldl_cons, Rn.foldl_places P l, Rn.step_places, List.append_assoc, ← List.filter_append]
    rfl
theorem Rn.run_places (P : PP) (l : List Nat) : (Rn.run P l).places = l.filter P.isNew := by
  unfold Rn.run
  rw [Rn.foldl_places]
  simp [Rn.begin]
theorem PP.Runs.take {P : PP} {l : List Int} (h : P.Runs l) (k : Nat) : P.Runs (l.take k) :=
  ⟨h.1, h.2.1, by have := h.2.2.1; rw [List.length_take]; omega, fun x hx => h.2.2.2 x (List.mem_of_mem_take hx)⟩
theorem PP.Runs.lt {P : PP} {l : List Int} (h : P.Runs l) {q : Int} (hq : q ∈ l) : 0 ≤ q ∧ q < P.stmts.length := by
  have hb := h.2.2.2 q hq
  unfold PP.badk at hb
  simp at hb
  omega
theorem PP.Runs.stmts {P : PP} {l : List Int} (h : P.Runs l) : P.stmts.length ≤ 80 := by
  have h1 := h.1
  unfold PP.err1 at h1
  cases hb : P.big with
  | true => rw [hb] at h1; simp at h1
  | false => unfold PP.big at hb; simp at hb; omega
/-- The places of a script's run, as numbers. -/
def newOf (P : PP) (l : List Int) : List Int := ((l.map Int.toNat).filter P.isNew).map Int.ofNat
theorem Rn.run_pl (P : PP) (l : List Int) : (Rn.run P (l.map Int.toNat)).pl = newOf P l := by unfold Rn.pl newOf; rw [Rn.run_places]
theorem newOf_append (P : PP) (l m : List Int) : newOf P (l ++ m) = newOf P l ++ newOf P m := by simp [newOf]
theorem newOf_take (P : PP) (l : List Int) (k : Nat) : newOf P (l.take k) = (newOf P l).take (newOf P (l.take k)).length := by
  have h : newOf P l = newOf P (l.take k) ++ newOf P (l.drop k) := by rw [← newOf_append, List.take_append_drop]
  rw [h]
  simp
theorem newOf_le (P : PP) (l : List Int) (k : Nat) : (newOf P (l.take k)).length ≤ (newOf P l).length := by
  have h : newOf P l = newOf P (l.take k) ++ newOf P (l.drop k) := by rw [← newOf_append, List.take_append_drop]
  rw [h, List.length_append]
  omega
theorem newOf_one (P : PP) (K : Nat) : newOf P [(K : Int)] = if P.isNew K then [(K : Int)] else [] := by
  unfold newOf
  by_cases h : P.isNew K <;> simp [h]
theorem newOf_yes {P : PP} {l : List Int} {i K : Nat} (hi : l[i]? = some (K : Int)) (hn : P.isNew K = true) : newOf P (l.take (i + 1)) = newOf P (l.take i) ++ [(K : Int)] := by
  rw [List.take_add_one, hi, newOf_append]
  simp only [Option.toList]
  rw [newOf_one, if_pos hn]
theorem newOf_no {P : PP} {l : List Int} {i K : Nat} (hi : l[i]? = some (K : Int)) (hn : P.isNew K = false) : newOf P (l.take (i + 1)) = newOf P (l.take i) := by
  rw [List.take_add_one, hi, newOf_append]
  simp only [Option.toList]
  rw [newOf_one, hn]
  simp
theorem newOf_at {P : PP} {l : List Int} {i K : Nat} (hi : l[i]? = some (K : Int)) (hn : P.isNew K = true) : (newOf P l)[(newOf P (l.take i)).length]? = some (K : Int) := by
  have h : newOf P l = newOf P (l.take (i + 1)) ++ newOf P (l.drop (i + 1)) := by rw [← newOf_append, List.take_append_drop]
  rw [h, newOf_yes hi hn]
  simp
theorem newOf_hi {P : PP} {l : List Int} (h : P.Runs l) (i : Nat) : (newOf P l).getD i 0 ≤ 9223372036854775807 := by
  rw [List.getD_eq_getElem?_getD]
  cases hx : (newOf P l)[i]? with
  | none => simp
  | some q =>
    have hm := List.mem_of_getElem? hx
    unfold newOf at hm
    obtain ⟨K, hK, rfl⟩ := List.mem_map.1 hm
    obtain ⟨q, hq, rfl⟩ := List.mem_map.1 (List.mem_filter.1 hK).1
    have := (h.lt hq).2
    have := h.stmts
    simp only [Option.getD_some, Int.ofNat_eq_natCast]
    omega

/-- What run.Do answers, in one. -/
def RunOut (P : PP) (l : List Int) (n0 : Nat) (w : World) (sv ev : Value) : Prop :=
  (P.Runs l ∧ ev = .nilIface ∧ ∃ a1 a2 a3 c1 c2 c3, sv = .agg #[.slice a1 (Rn.run P (l.map Int.toNat)).vars.length c1, .slice a2 (newOf P l).length c2, .slice a3 (newOf P l).length c3] ∧
    w.ownsRow n0 3 1 (.slice a3 (newOf P l).length c3) (newOf P l).length (icells (newOf P l))) ∨
  (¬ P.Runs l ∧ sv = zeroS ∧ ∃ t x, ev = .iface t (.pointer (some x)))
theorem RunOut.ext {P : PP} {l : List Int} {n0 : Nat} {w w' : World} {sv ev : Value} (h : RunOut P l n0 w sv ev) (x : Ext w w') : RunOut P l n0 w' sv ev := by
  rcases h with ⟨h1, h2, a1, a2, a3, c1, c2, c3, h3, h4⟩ | h
  · exact .inl ⟨h1, h2, a1, a2, a3, c1, c2, c3, h3, own_ext h4 x⟩
  · exact .inr h
theorem RunOut.low {P : PP} {l : List Int} {n0 n1 : Nat} {w : World} {sv ev : Value} (h : RunOut P l n0 w sv ev) (hn : n1 ≤ n0) : RunOut P l n1 w sv ev := by
  rcases h with ⟨h1, h2, a1, a2, a3, c1, c2, c3, h3, h4⟩ | h
  · exact .inl ⟨h1, h2, a1, a2, a3, c1, c2, c3, h3, own_low h4 hn⟩
  · exact .inr h
theorem RunOut.form {P : PP} {l : List Int} {n0 : Nat} {w : World} {sv ev : Value} (h : RunOut P l n0 w sv ev) : ∃ a1 n1 c1 a2 n2 c2 a3 n3 c3, sv = .agg #[.slice a1 n1 c1, .slice a2 n2 c2, .slice a3 n3 c3] := by
  rcases h with ⟨h1, h2, a1, a2, a3, c1, c2, c3, h3, h4⟩ | ⟨_, h, _⟩
  · exact ⟨_, _, _, _, _, _, _, _, _, h3⟩
  · exact ⟨_, _, _, _, _, _, _, _, _, h⟩
end Go.Proofs.YtohfdecefikinaaGreatDoor
