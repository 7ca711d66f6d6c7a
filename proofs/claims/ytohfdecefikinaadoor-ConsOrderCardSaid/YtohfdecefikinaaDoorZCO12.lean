/- Texts of one proof, put together: UW UX W6 W1. -/
import Derived.Test.YtohfdecefikinaaDoorZCO10
import Derived.Test.YtohfdecefikinaaDoorZCO11

/- Runs: what a call does. -/
namespace Go.Proofs.YtohfdecefikinaaDoor
set_option linter.unusedSimpArgs false
set_option linter.unusedVariables false
open Go Go.RowKit

end Go.Proofs.YtohfdecefikinaaDoor


/- Runs: a call that is done. -/
namespace Go.Proofs.YtohfdecefikinaaDoor
set_option linter.unusedSimpArgs false
set_option linter.unusedVariables false
open Go Go.RowKit

theorem Rn.give_len : ∀ (ps : List Int) (vs : List Vl) (s : Rn), (s.give ps vs).vars.length = s.vars.length
  | [], _, _ => rfl
  | _ :: _, [], _ => rfl
  | p :: ps, v :: vs, s => by
    have h := give_len ps vs (s.set p v)
    simp only [Rn.give]
    rw [h]
    simp [Rn.set]
theorem Rn.give_snoc : ∀ (ps : List Int) (vs : List Vl) (s : Rn) (k : Nat) (p : Int) (v : Vl), ps[k]? = some p → vs[k]? = some v → s.give (ps.take (k + 1)) (vs.take (k + 1)) = (s.give (ps.take k) (vs.take k)).set p v
  | [], _, _, _, _, _, h, _ => by simp at h
  | _ :: _, [], _, _, _, _, _, h => by simp at h
  | p :: ps, v :: vs, s, 0, q, u, h1, h2 => by
    simp at h1 h2
    subst h1 h2
    simp [Rn.give]
  | p :: ps, v :: vs, s, k + 1, q, u, h1, h2 => by
    simp only [List.getElem?_cons_succ] at h1 h2
    simp only [List.take_succ_cons, Rn.give]
    exact give_snoc ps vs (s.set p v) k q u h1 h2

theorem Rn.give_in {P : PP} (s : Rn) (hs : s.Ok P) (l : List Int) (ps : List Int) : (s.give ps (l.map s.at)).Ok P :=
  hs.give _ _ fun v hv => by
    obtain ⟨a, _, rfl⟩ := List.mem_map.1 hv
    exact hs.at a
theorem flat_snoc (l : List Vl) (u : Vl) : (l ++ [u]).flatMap Vl.cells = l.flatMap Vl.cells ++ Vl.cells u := by simp
end Go.Proofs.YtohfdecefikinaaDoor


/- The reference's runs: a state in memory; statements that set one variable. -/
namespace Go.Proofs.YtohfdecefikinaaDoor
set_option linter.unusedSimpArgs false
set_option linter.unusedVariables false
open Go Go.RowKit

end Go.Proofs.YtohfdecefikinaaDoor


/- The reference's programs: variables, lists, names. -/
namespace Go.Proofs.YtohfdecefikinaaDoor
set_option linter.unusedSimpArgs false
set_option linter.unusedVariables false
open Go Go.RowKit

theorem PP.inV_eq (P : PP) (n : Int) : P.inV n = (decide (0 ≤ n) && decide (n < P.vars.length)) := by
  unfold PP.inV
  by_cases h1 : n < 0
  · have h2 : ¬ 0 ≤ n := by omega
    simp [h1, h2]
  · by_cases h2 : n < P.vars.length
    · have h3 : 0 ≤ n := by omega
      have h4 : ¬ (P.vars.length : Int) ≤ n := by omega
      simp [h1, h2, h3, h4]
    · have h4 : (P.vars.length : Int) ≤ n := by omega
      simp [h2, h4]
theorem eqB_comm (s t : ByteArray) : eqB s t = (t.toList == s.toList) := by
  unfold eqB
  rw [Bool.eq_iff_iff, beq_iff_eq, beq_iff_eq]
  exact ⟨fun h => h.symm, fun h => h.symm⟩
end Go.Proofs.YtohfdecefikinaaDoor
