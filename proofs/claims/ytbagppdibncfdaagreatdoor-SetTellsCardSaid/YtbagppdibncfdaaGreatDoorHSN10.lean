/- Texts of one proof, put together: SA. -/
import Derived.Test.YtbagppdibncfdaaGreatDoorHSN07
import Derived.LaidHandle
set_option linter.unusedSimpArgs false
set_option linter.unusedVariables false
namespace Go.Proofs.YtbagppdibncfdaaGreatDoor
open Go Go.RowKit
def handD : DataW Unit := .iface "internal/reflectlite.rtype" (.agg [.ptr (.lit (.string [101, 114, 114, 111, 114]))])
theorem handName : handD.handleName? = some [101, 114, 114, 111, 114] := by
  unfold handD DataW.handleName?
  simp
def allCodes : List Nat := [1, 2, 3, 4, 5, 6, 7, 8, 9, 10, 11]
def fullL : List (String × DataW Unit) := ("errors.errorType", handD) :: sentL allCodes
theorem typesSize : Tryz.prog.types.size = 321 := by kernel_rfl
theorem oneErrRow : ((List.range 321).filter fun t => Tryz.prog.rowNamed t [101, 114, 114, 111, 114]) = [35] := by kernel_rfl
theorem rtypeCut : (Tryz.prog.cutTypes.find? (·.1 == "internal/reflectlite.rtype")).map (·.2) = some 229 := by kernel_rfl
theorem errTypeVar : Tryz.prog.globalNamed "errors.errorType" = some 11 := by kernel_rfl
theorem errHandle : typeHandle Tryz.prog 35 = .pointer (some ⟨20, 35, none⟩) := by kernel_rfl
theorem all_of {W : World} (h : laidMetH Tryz.prog fullL W) : ∃ ad : Nat → Addr, AllErrs W ad := by
  obtain ⟨h1, h2⟩ := laidMetH_iff.1 h
  have e1 : (fullL.filter fun x => x.2.handleName?.isNone) = sentL allCodes := by
    unfold fullL
    rw [List.filter_cons_of_neg (by simp [handName]), List.filter_eq_self.2 fun x hx => by
      obtain ⟨c, _, rfl⟩ := List.mem_map.1 hx
      simp [sent_noHandle]]
  rw [e1] at h1
  obtain ⟨ad, s1, s2⟩ := sents_ad allCodes (by decide) h1
  have hin : ∀ c, 1 ≤ c ∧ c ≤ 11 → c ∈ allCodes := fun c hc => by
    rcases (by omega : c = 1 ∨ c = 2 ∨ c = 3 ∨ c = 4 ∨ c = 5 ∨ c = 6 ∨ c = 7 ∨ c = 8 ∨ c = 9 ∨ c = 10 ∨ c = 11) with rfl | rfl | rfl | rfl | rfl | rfl | rfl | rfl | rfl | rfl | rfl <;> decide
  refine ⟨ad, fun c hc => (s1 c (hin c hc)).var, fun c hc => (s1 c (hin c hc)).row, fun c d hc hd e => s2 c (hin c hc) d (hin d hd) e, ?_⟩
  have hm : ("errors.errorType", handD) ∈ fullL.filter fun x => x.2.handleName?.isSome := List.mem_filter.2 ⟨by simp [fullL], by simp [handName]⟩
  have h3 := h2 _ hm
  have hf : handD.funcsIn? = none := by
    unfold handD DataW.funcsIn?
    simp
  simp only [hf] at h3
  obtain ⟨name, u, ty, g1, g2, g3, g4, g5⟩ := h3
  obtain rfl := Option.some.inj (handName.symm.trans g1)
  obtain rfl := Option.some.inj (rtypeCut.symm.trans g2)
  have hm2 : ty ∈ (List.range 321).filter fun t => Tryz.prog.rowNamed t [101, 114, 114, 111, 114] := List.mem_filter.2 ⟨List.mem_range.2 (by rw [← typesSize]; exact g3), g4⟩
  rw [oneErrRow, List.mem_singleton] at hm2
  subst hm2
  rw [errHandle] at g5
  simpa using World.var?_cell errTypeVar g5 0
end Go.Proofs.YtbagppdibncfdaaGreatDoor
