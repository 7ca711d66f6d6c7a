/- Texts of one proof, put together: IS AS PC CD WJ V9. -/
import Derived.Test.YtoaoienfggjepaaGreatDoorCN01
import Derived.Test.YtoaoienfggjepaaGreatDoorCN02
import Derived.Test.YtoaoienfggjepaaGreatDoorCN06
import Derived.Test.YtoaoienfggjepaaGreatDoorCN08
import Derived.Test.YtoaoienfggjepaaGreatDoorCN14
import Derived.Test.YtoaoienfggjepaaGreatDoorChecked
import Derived.LaidEql
import Derived.Stop.Asserts
import Derived.RowKitTokens

/- errors.Is, of the errors that this program makes: Go's own text is walked. -/
namespace Go.Proofs.YtoaoienfggjepaaGreatDoor
set_option linter.unusedSimpArgs false
set_option linter.unusedVariables false
open Go Go.RowKit Go.Extern.Stop Go.Stop Go.Extern

theorem isTypeOf (v : Value) (w : World) : (Extern.ReflectliteType.typeOf #[.iface 271 v]).run Tryz.prog w = .ok (.iface 248 (.agg #[.pointer (some ⟨20, 271, none⟩)])) w := by kernel_rfl
theorem isComparable (w : World) : (callFunc 265 #[.agg #[.pointer (some ⟨20, 271, none⟩)]]).run Tryz.prog w = .ok (.value (.bool true)) w := by kernel_rfl
theorem isMethodComparable (v : Value) (w : World) : (Go.method 422 248 v "Comparable").run Tryz.prog w = .ok (265, v) w := by kernel_rfl
theorem isComp : (Tryz.prog.info? 271).map (·.comparable) = some true := by kernel_rfl
theorem isSize : (Tryz.prog.info? 273).map (·.size) = some 1 := by kernel_rfl
theorem noIsE (v : Value) (xT : TypeId) (w : World) : (Instr.typeAssert (.iface 271 v) xT 259 true).run Tryz.prog w = .ok (.tuple #[.nilIface, .bool false]) w := run_typeAssert_lacksB Tryz.underlying259 (by kernel_rfl) (by kernel_rfl) v xT w
theorem noUnwrapE (v : Value) (xT : TypeId) (w : World) : (Instr.typeAssert (.iface 271 v) xT 255 true).run Tryz.prog w = .ok (.tuple #[.nilIface, .bool false]) w := run_typeAssert_lacksB Tryz.underlying255 (by kernel_rfl) (by kernel_rfl) v xT w
theorem noUnwrapsE (v : Value) (xT : TypeId) (w : World) : (Instr.typeAssert (.iface 271 v) xT 257 true).run Tryz.prog w = .ok (.tuple #[.nilIface, .bool false]) w := run_typeAssert_lacksB Tryz.underlying257 (by kernel_rfl) (by kernel_rfl) v xT w
theorem noIsW (v : Value) (xT : TypeId) (w : World) : (Instr.typeAssert (.iface 104 v) xT 259 true).run Tryz.prog w = .ok (.tuple #[.nilIface, .bool false]) w := run_typeAssert_lacksB Tryz.underlying259 (by kernel_rfl) (by kernel_rfl) v xT w
theorem hasUnwrapW (v : Value) (xT : TypeId) (w : World) : (Instr.typeAssert (.iface 104 v) xT 255 true).run Tryz.prog w = .ok (.tuple #[.iface 104 v, .bool true]) w := run_typeAssert_hasB Tryz.underlying255 (by kernel_rfl) v xT w
theorem methodUnwrap (v : Value) (w : World) : (Go.method 422 104 v "Unwrap").run Tryz.prog w = .ok (255, v) w := by kernel_rfl

set_option maxRecDepth 100000 in
/-- errors.Is(x, x). -/
theorem is_same (a : Addr) (w : World) :
    Calls Tryz.prog 127 #[.iface 271 (.pointer (some a)), .iface 271 (.pointer (some a))] w fun e w' => e = .returned (.bool true) ∧ w = w' := by
  obtain ⟨i, hi, hcmp⟩ := Option.map_eq_some_iff.1 isComp
  obtain ⟨j, hj, hjs⟩ := Option.map_eq_some_iff.1 isSize
  have h8 := @run_callFunc_extern Tryz.prog 170 _ Extern.ReflectliteType.typeOf Tryz.func170 (by kernel_rfl) (by kernel_rfl) (by kernel_rfl) (by kernel_rfl)
  have tT := isTypeOf
  have cT := isComparable
  have mR := isMethodComparable
  have heq := run_eql_iface_ptr_same (P := Tryz.prog) w a Tryz.underlying25 Tryz.underlying271 hi hcmp hj
  go_enter Tryz.func127, Tryz.ntmps127
  go_wp2
  refine wp_loop_rounds 1 ?_
  rw [rounds_succ]
  go_wp2
  go_ret
  exact ⟨rfl, rfl⟩

set_option maxRecDepth 100000 in
/-- errors.Is(x, y), two different pointers. -/
theorem is_other (a b : Addr) (ca cb : Array Value) (ta tb : TypeId) (w : World) (hne : a ≠ b) (ha : w.heap[a.block]? = some (.cells ca ta (0, 0))) (hb : w.heap[b.block]? = some (.cells cb tb (0, 0))) :
    Calls Tryz.prog 127 #[.iface 271 (.pointer (some a)), .iface 271 (.pointer (some b))] w fun e w' => e = .returned (.bool false) ∧ w = w' := by
  obtain ⟨i, hi, hcmp⟩ := Option.map_eq_some_iff.1 isComp
  obtain ⟨j, hj, hjs⟩ := Option.map_eq_some_iff.1 isSize
  have h8 := @run_callFunc_extern Tryz.prog 170 _ Extern.ReflectliteType.typeOf Tryz.func170 (by kernel_rfl) (by kernel_rfl) (by kernel_rfl) (by kernel_rfl)
  have tT := isTypeOf
  have cT := isComparable
  have mR := isMethodComparable
  have nE := noIsE
  have uE := noUnwrapE
  have vE := noUnwrapsE
  have nW := noIsW
  have uW := hasUnwrapW
  have mU := methodUnwrap
  have heq := run_eql_iface_ptr_other (P := Tryz.prog) w Tryz.underlying25 Tryz.underlying271 hi hcmp hj (by rw [hjs]; decide) hne ha hb
  go_enter Tryz.func127, Tryz.ntmps127
  go_wp2
  refine wp_loop_rounds 1 ?_
  rw [rounds_succ]
  go_wp2
  go_ret
  exact ⟨rfl, rfl⟩

set_option maxRecDepth 100000 in
/-- errors.Is(f, x), f a fault that wraps x itself. -/
theorem is_wrap_same (pb : Nat) (b : Addr) (w : World) (h1 : w.cell? ⟨pb, 1, none⟩ = some (.iface 271 (.pointer (some b)))) :
    Calls Tryz.prog 127 #[.iface 104 (.pointer (some ⟨pb, 0, none⟩)), .iface 271 (.pointer (some b))] w fun e w' => e = .returned (.bool true) ∧ w = w' := by
  obtain ⟨i, hi, hcmp⟩ := Option.map_eq_some_iff.1 isComp
  obtain ⟨j, hj, hjs⟩ := Option.map_eq_some_iff.1 isSize
  have h8 := @run_callFunc_extern Tryz.prog 170 _ Extern.ReflectliteType.typeOf Tryz.func170 (by kernel_rfl) (by kernel_rfl) (by kernel_rfl) (by kernel_rfl)
  have tT := isTypeOf
  have cT := isComparable
  have mR := isMethodComparable
  have nE := noIsE
  have uE := noUnwrapE
  have vE := noUnwrapsE
  have nW := noIsW
  have uW := hasUnwrapW
  have mU := methodUnwrap
  have heq := run_eql_iface_ptr_same (P := Tryz.prog) w b Tryz.underlying25 Tryz.underlying271 hi hcmp hj
  have hty := run_eql_iface_types (P := Tryz.prog) 104 271 (.pointer (some ⟨pb, 0, none⟩)) (.pointer (some b)) Tryz.underlying25 (by decide) w
  go_enter Tryz.func127, Tryz.ntmps127
  go_wp2
  refine wp_loop_rounds 2 ?_
  rw [rounds_succ]
  go_wp2
  rw [rounds_succ]
  go_wp2
  go_ret
  exact ⟨rfl, rfl⟩

set_option maxRecDepth 100000 in
/-- errors.Is(f, x), f a fault that wraps another one. -/
theorem is_wrap_other (pb : Nat) (b a : Addr) (ca cb : Array Value) (ta tb : TypeId) (w : World) (h1 : w.cell? ⟨pb, 1, none⟩ = some (.iface 271 (.pointer (some a)))) (hne : a ≠ b) (ha : w.heap[a.block]? = some (.cells ca ta (0, 0))) (hb : w.heap[b.block]? = some (.cells cb tb (0, 0))) :
    Calls Tryz.prog 127 #[.iface 104 (.pointer (some ⟨pb, 0, none⟩)), .iface 271 (.pointer (some b))] w fun e w' => e = .returned (.bool false) ∧ w = w' := by
  obtain ⟨i, hi, hcmp⟩ := Option.map_eq_some_iff.1 isComp
  obtain ⟨j, hj, hjs⟩ := Option.map_eq_some_iff.1 isSize
  have h8 := @run_callFunc_extern Tryz.prog 170 _ Extern.ReflectliteType.typeOf Tryz.func170 (by kernel_rfl) (by kernel_rfl) (by kernel_rfl) (by kernel_rfl)
  have tT := isTypeOf
  have cT := isComparable
  have mR := isMethodComparable
  have nE := noIsE
  have uE := noUnwrapE
  have vE := noUnwrapsE
  have nW := noIsW
  have uW := hasUnwrapW
  have mU := methodUnwrap
  have heq := run_eql_iface_ptr_other (P := Tryz.prog) w Tryz.underlying25 Tryz.underlying271 hi hcmp hj (by rw [hjs]; decide) hne ha hb
  have hty := run_eql_iface_types (P := Tryz.prog) 104 271 (.pointer (some ⟨pb, 0, none⟩)) (.pointer (some b)) Tryz.underlying25 (by decide) w
  go_enter Tryz.func127, Tryz.ntmps127
  go_wp2
  refine wp_loop_rounds 2 ?_
  rw [rounds_succ]
  go_wp2
  rw [rounds_succ]
  go_wp2
  go_ret
  exact ⟨rfl, rfl⟩
end Go.Proofs.YtoaoienfggjepaaGreatDoor



/- errors.As at a target of the program's own: adapted from a worked example of the kit (ToyasAs): Go's own text is walked. -/
namespace Go.Proofs.YtoaoienfggjepaaGreatDoor
set_option linter.unusedSimpArgs false
set_option linter.unusedVariables false
open Go Go.RowKit Go.Extern.Stop Go.Stop Go.Extern

end Go.Proofs.YtoaoienfggjepaaGreatDoor



/- plain.Code walked: an error's number, and its place. -/
namespace Go.Proofs.YtoaoienfggjepaaGreatDoor
set_option linter.unusedSimpArgs false
set_option linter.unusedVariables false
open Go Go.RowKit

/-- All errors lie as they were laid. -/
structure AllErrs (w : World) (ad : Nat → Addr) : Prop where
  var : ∀ c, 1 ≤ c ∧ c ≤ 11 → w.cell? ⟨gE c, 0, none⟩ = some (.iface 271 (.pointer (some (ad c))))
  row : ∀ c, 1 ≤ c ∧ c ≤ 11 → ∃ cs t, w.heap[(ad c).block]? = some (.cells cs t (0, 0))
  inj : ∀ c d, 1 ≤ c ∧ c ≤ 11 → 1 ≤ d ∧ d ≤ 11 → ad c = ad d → c = d
  ty : w.cell? ⟨11, 0, none⟩ = some (.iface 248 (.agg #[.pointer (some ⟨20, 25, none⟩)]))
theorem AllErrs.at1 {w : World} {ad : Nat → Addr} (h : AllErrs w ad) : w.cell? ⟨1, 0, none⟩ = some (.iface 271 (.pointer (some (ad 1)))) := h.var 1 (by omega)
theorem AllErrs.at2 {w : World} {ad : Nat → Addr} (h : AllErrs w ad) : w.cell? ⟨0, 0, none⟩ = some (.iface 271 (.pointer (some (ad 2)))) := h.var 2 (by omega)
theorem AllErrs.at3 {w : World} {ad : Nat → Addr} (h : AllErrs w ad) : w.cell? ⟨6, 0, none⟩ = some (.iface 271 (.pointer (some (ad 3)))) := h.var 3 (by omega)
theorem AllErrs.at4 {w : World} {ad : Nat → Addr} (h : AllErrs w ad) : w.cell? ⟨7, 0, none⟩ = some (.iface 271 (.pointer (some (ad 4)))) := h.var 4 (by omega)
theorem AllErrs.at5 {w : World} {ad : Nat → Addr} (h : AllErrs w ad) : w.cell? ⟨4, 0, none⟩ = some (.iface 271 (.pointer (some (ad 5)))) := h.var 5 (by omega)
theorem AllErrs.at6 {w : World} {ad : Nat → Addr} (h : AllErrs w ad) : w.cell? ⟨8, 0, none⟩ = some (.iface 271 (.pointer (some (ad 6)))) := h.var 6 (by omega)
theorem AllErrs.at7 {w : World} {ad : Nat → Addr} (h : AllErrs w ad) : w.cell? ⟨5, 0, none⟩ = some (.iface 271 (.pointer (some (ad 7)))) := h.var 7 (by omega)
theorem AllErrs.at8 {w : World} {ad : Nat → Addr} (h : AllErrs w ad) : w.cell? ⟨3, 0, none⟩ = some (.iface 271 (.pointer (some (ad 8)))) := h.var 8 (by omega)
theorem AllErrs.at9 {w : World} {ad : Nat → Addr} (h : AllErrs w ad) : w.cell? ⟨9, 0, none⟩ = some (.iface 271 (.pointer (some (ad 9)))) := h.var 9 (by omega)
theorem AllErrs.at10 {w : World} {ad : Nat → Addr} (h : AllErrs w ad) : w.cell? ⟨2, 0, none⟩ = some (.iface 271 (.pointer (some (ad 10)))) := h.var 10 (by omega)
theorem AllErrs.at11 {w : World} {ad : Nat → Addr} (h : AllErrs w ad) : w.cell? ⟨10, 0, none⟩ = some (.iface 271 (.pointer (some (ad 11)))) := h.var 11 (by omega)
theorem AllErrs.ext {w w' : World} {ad : Nat → Addr} (h : AllErrs w ad) (x : Ext w w') : AllErrs w' ad :=
  ⟨fun c hc => x.cellx (h.var c hc), fun c hc => by obtain ⟨cs, t, e⟩ := h.row c hc; exact ⟨cs, t, x.get e⟩, h.inj, x.cellx h.ty⟩
/-- What errors.Is tells of e: it is the one with the number c, or none. -/
def IsAs (w : World) (ad : Nat → Addr) (e : Value) (c : Nat) : Prop := ∀ w', Ext w w' → ∀ d, 1 ≤ d ∧ d ≤ 11 → Calls Tryz.prog 127 #[e, .iface 271 (.pointer (some (ad d)))] w' fun r w'' => r = .returned (.bool (decide (d = c))) ∧ w' = w''
theorem IsAs.sent {w : World} {ad : Nat → Addr} (h : AllErrs w ad) (c : Nat) (hc : 1 ≤ c ∧ c ≤ 11) : IsAs w ad (.iface 271 (.pointer (some (ad c)))) c := by
  intro w' x d hd
  by_cases e : d = c
  · subst e
    rw [decide_eq_true rfl]
    exact is_same (ad d) w'
  · rw [decide_eq_false e]
    have h' := h.ext x
    obtain ⟨c1, t1, e1⟩ := h'.row c hc
    obtain ⟨c2, t2, e2⟩ := h'.row d hd
    exact is_other (ad c) (ad d) c1 c2 t1 t2 w' (fun e' => e (h.inj d c hd hc e'.symm)) e1 e2
theorem IsAs.fault {w : World} {ad : Nat → Addr} (h : AllErrs w ad) (c : Nat) (hc : 1 ≤ c ∧ c ≤ 11) (b : Nat) (hb : w.cell? ⟨b, 1, none⟩ = some (.iface 271 (.pointer (some (ad c))))) : IsAs w ad (.iface 104 (.pointer (some ⟨b, 0, none⟩))) c := by
  intro w' x d hd
  by_cases e : d = c
  · subst e
    rw [decide_eq_true rfl]
    exact is_wrap_same b (ad d) w' (x.cellx hb)
  · rw [decide_eq_false e]
    have h' := h.ext x
    obtain ⟨c1, t1, e1⟩ := h'.row c hc
    obtain ⟨c2, t2, e2⟩ := h'.row d hd
    exact is_wrap_other b (ad d) (ad c) c1 c2 t1 t2 w' (x.cellx hb) (fun e' => e (h.inj d c hd hc e'.symm)) e1 e2
/-- One that is none of them. -/
theorem IsAs.none {w : World} {ad : Nat → Addr} (h : AllErrs w ad) (a : Addr) (ha : ∃ cs t, w.heap[a.block]? = some (.cells cs t (0, 0))) (hne : ∀ c, 1 ≤ c ∧ c ≤ 11 → a ≠ ad c) : IsAs w ad (.iface 271 (.pointer (some a))) 0 := by
  intro w' x d hd
  rw [decide_eq_false (by omega)]
  obtain ⟨c1, t1, e1⟩ := ha
  obtain ⟨c2, t2, e2⟩ := (h.ext x).row d hd
  exact is_other a (ad d) c1 c2 t1 t2 w' (hne d hd) (x.get e1) e2

def codeV (c : Nat) : Int := if c = 0 then -1 else c

end Go.Proofs.YtoaoienfggjepaaGreatDoor



/- The laws' own word for an error's number is walked. -/
namespace Go.Proofs.YtoaoienfggjepaaGreatDoor
set_option linter.unusedSimpArgs false
set_option linter.unusedVariables false
open Go Go.RowKit


theorem AllErrs.errs {w : World} {ad : Nat → Addr} (h : AllErrs w ad) : Errs w (evOf ad) :=
  ⟨⟨h.at2, h.at3, h.at4, h.at8⟩, h.at1, h.at11⟩
end Go.Proofs.YtoaoienfggjepaaGreatDoor



/- Faults that are told, in numbers. -/
namespace Go.Proofs.YtoaoienfggjepaaGreatDoor
set_option linter.unusedSimpArgs false
set_option linter.unusedVariables false
open Go Go.RowKit

theorem PP.FirstBad.uniq {P : PP} {i j : Nat} {s t : PS} (h : P.FirstBad i s) (g : P.FirstBad j t) : i = j ∧ s = t := by
  obtain ⟨h1, h2, h3⟩ := h
  obtain ⟨g1, g2, g3⟩ := g
  have e : i = j := by
    rcases Nat.lt_trichotomy i j with e | e | e
    · exact absurd (g3 i s e h1) h2
    · exact e
    · exact absurd (h3 j t e g1) g2
  subst e
  exact ⟨rfl, Option.some.inj (h1.symm.trans g1)⟩
theorem PP.FirstBad.not {P : PP} {i : Nat} {s : PS} (h : P.FirstBad i s) : ¬ P.allWell := fun g => by
  obtain ⟨h1, h2, _⟩ := h
  have hi : i < P.stmts.length := by
    rcases Nat.lt_or_ge i P.stmts.length with e | e
    · exact e
    · rw [List.getElem?_eq_none e] at h1; cases h1
  exact h2 (g i s hi h1)
theorem FaultIs.uniq {P : PP} {c d : Nat} {p q : Int} (h : FaultIs P c p) (g : FaultIs P d q) : c = d ∧ p = q := by
  rcases h with ⟨h1, h2, h3⟩ | ⟨h1, h2, h3, h4⟩ | ⟨h1, i, s, h2, h3, h4⟩ <;> rcases g with ⟨g1, g2, g3⟩ | ⟨g1, g2, g3, g4⟩ | ⟨g1, j, t, g2, g3, g4⟩
  · exact ⟨h2.trans g2.symm, h3.trans g3.symm⟩
  · exact absurd g1 h1
  · exact absurd g1 h1
  · exact absurd h1 g1
  · exact ⟨h3.trans g3.symm, h4.trans g4.symm⟩
  · exact absurd h2 g2.not
  · exact absurd h1 g1
  · exact absurd g2 h2.not
  · obtain ⟨rfl, rfl⟩ := h2.uniq g2
    exact ⟨h3.trans g3.symm, h4.trans g4.symm⟩
theorem PP.FirstK.uniq {P : PP} {l : List Int} {i j : Nat} (h : P.FirstK l i) (g : P.FirstK l j) : i = j := by
  obtain ⟨x, h1, h2, h3⟩ := h
  obtain ⟨y, g1, g2, g3⟩ := g
  rcases Nat.lt_trichotomy i j with e | e | e
  · rw [g3 i x e h1] at h2; cases h2
  · exact e
  · rw [h3 j y e g1] at g2; cases g2

/-- The number of a run that is refused, and the place. -/
def RunFault (P : PP) (l : List Int) (c : Nat) (p : Int) : Prop :=
  (¬ (P.err1 = 0 ∧ P.allWell) ∧ FaultIs P c p) ∨ (P.err1 = 0 ∧ P.allWell ∧ 2000 < l.length ∧ c = 8 ∧ p = -1) ∨
  (P.err1 = 0 ∧ P.allWell ∧ l.length ≤ 2000 ∧ ∃ i : Nat, P.FirstK l i ∧ c = 2 ∧ p = (i : Int))
theorem RunFault.uniq {P : PP} {l : List Int} {c d : Nat} {p q : Int} (h : RunFault P l c p) (g : RunFault P l d q) : c = d ∧ p = q := by
  rcases h with ⟨h1, h2⟩ | ⟨h1, h2, h3, h4, h5⟩ | ⟨h1, h2, h3, i, h4, h5, h6⟩ <;> rcases g with ⟨g1, g2⟩ | ⟨g1, g2, g3, g4, g5⟩ | ⟨g1, g2, g3, j, g4, g5, g6⟩
  · exact h2.uniq g2
  · exact absurd ⟨g1, g2⟩ h1
  · exact absurd ⟨g1, g2⟩ h1
  · exact absurd ⟨h1, h2⟩ g1
  · exact ⟨h4.trans g4.symm, h5.trans g5.symm⟩
  · omega
  · exact absurd ⟨h1, h2⟩ g1
  · omega
  · obtain rfl := h4.uniq g4
    exact ⟨h5.trans g5.symm, h6.trans g6.symm⟩

end Go.Proofs.YtoaoienfggjepaaGreatDoor



/- RunParts: the walk: two runs. -/
namespace Go.Proofs.YtoaoienfggjepaaGreatDoor
set_option linter.unusedSimpArgs false
set_option linter.unusedVariables false
open Go Go.RowKit

section
variable {P : Program} {ops : Array Oper} {X : Nat → Prop} {w0 : World} {Q : Act → World → Prop} {L : List Nat}
/-- j, then m, then p, q, r, whose values are known; i whenever; then all are done. -/
theorem Flow.par3j {listed : Array Bool} {C : World → Prop} {a : Act} (j m p q r i : Nat) (oj om op oq or' oi : Oper) (hoj : ops[j]? = some oj) (hom : ops[m]? = some om) (hop : ops[p]? = some op) (hoq : ops[q]? = some oq) (hor : ops[r]? = some or') (hoi : ops[i]? = some oi)
    (hij : i ≠ j) (him : i ≠ m) (hip : i ≠ p) (hiq : i ≠ q) (hir : i ≠ r) (hpL : p ∉ L) (hqL : q ∉ L) (hrL : r ∉ L)
    (hsi : ∀ cs b, oi.op ≠ .select cs b) (hsj : ∀ cs b, oj.op ≠ .select cs b) (hsm : ∀ cs b, om.op ≠ .select cs b) (hsp : ∀ cs b, op.op ≠ .select cs b) (hsq : ∀ cs b, oq.op ≠ .select cs b) (hsr : ∀ cs b, or'.op ≠ .select cs b)
    (hap : oi.apart ops oj = true) (hap2 : oi.apart ops om = true) (hap3 : oi.apart ops op = true) (hap4 : oi.apart ops oq = true) (hap5 : oi.apart ops or' = true)
    (r0 : (Region.ready .any ops listed == [j, i]) = true) (r1 : (Region.ready .any ops (listed.setIfInBounds i true) == [j]) = true) (r2 : (Region.ready .any ops ((listed.setIfInBounds i true).setIfInBounds j true) == [m]) = true)
    (r3 : (Region.ready .any ops (listed.setIfInBounds j true) == [m, i]) = true)
    (rp : (Region.ready .any ops ((listed.setIfInBounds j true).setIfInBounds m true)).contains p = true) (rq : (Region.ready .any ops (((listed.setIfInBounds j true).setIfInBounds m true).setIfInBounds p true)).contains q = true)
    (rr : (Region.ready .any ops ((((listed.setIfInBounds j true).setIfInBounds m true).setIfInBounds p true).setIfInBounds q true)).contains r = true)
    (r4 : (Region.ready .any ops (((((listed.setIfInBounds j true).setIfInBounds m true).setIfInBounds p true).setIfInBounds q true).setIfInBounds r true) == [i]) = true)
    (sp : (Region.ready .any ops (((listed.setIfInBounds i true).setIfInBounds j true).setIfInBounds m true)).contains p = true) (sq : (Region.ready .any ops ((((listed.setIfInBounds i true).setIfInBounds j true).setIfInBounds m true).setIfInBounds p true)).contains q = true)
    (sr : (Region.ready .any ops (((((listed.setIfInBounds i true).setIfInBounds j true).setIfInBounds m true).setIfInBounds p true).setIfInBounds q true)).contains r = true)
    (A B : Value → World → Prop) (AB D : Value → Value → World → Prop) (F : Value → Value → Value → World → Prop) (T : Value → Prop) (fp fq fr : Value → Value)
    (sA : ∀ v w w', A v w → Ext w w' → A v w') (sB : ∀ v w w', B v w → Ext w w' → B v w') (sAB : ∀ u v w w', AB u v w → Ext w w' → AB u v w') (sD : ∀ u v w w', D u v w → Ext w w' → D u v w') (sF : ∀ t u v w w', F t u v w → Ext w w' → F t u v w')
    (tD : ∀ vj vm w, D vj vm w → T vm) (tF : ∀ vi vj vm w, F vi vj vm w → T vm)
    (i0 : ∀ w, C w → Keep X w0 w → does P ops oi a w (ActR X w0 A))
    (j0 : ∀ w, C w → Keep X w0 w → does P ops oj a w (ActR X w0 B))
    (i1 : ∀ vj w, B vj w → Keep X w0 w → does P ops oi a w (ActR X w0 fun v => AB v vj))
    (j1 : ∀ vi w, A vi w → Keep X w0 w → does P ops oj a w (ActR X w0 (AB vi)))
    (m1 : ∀ vj w, B vj w → Keep X w0 w → does P ops om (a.put oj.dst vj) w (ActR X w0 (D vj)))
    (m2 : ∀ vi vj w, AB vi vj w → Keep X w0 w → does P ops om (a.put oj.dst vj) w (ActR X w0 (F vi vj)))
    (dp : ∀ vj vm w, T vm → Keep X w0 w → does P ops op ((a.put oj.dst vj).put om.dst vm) w (DetR (fp vm) w))
    (dq : ∀ vj vm w, T vm → Keep X w0 w → does P ops oq (((a.put oj.dst vj).put om.dst vm).put op.dst (fp vm)) w (DetR (fq vm) w))
    (dr : ∀ vj vm w, T vm → Keep X w0 w → does P ops or' ((((a.put oj.dst vj).put om.dst vm).put op.dst (fp vm)).put oq.dst (fq vm)) w (DetR (fr vm) w))
    (i2 : ∀ vj vm w, D vj vm w → Keep X w0 w → does P ops oi a w (ActR X w0 fun u => F u vj vm))
    (k : ∀ vi vj vm, (∃ w, F vi vj vm w) → Flow P ops w0 Q X L ((((((listed.setIfInBounds i true).setIfInBounds j true).setIfInBounds m true).setIfInBounds p true).setIfInBounds q true).setIfInBounds r true) (F vi vj vm)
      ((((((a.put oi.dst vi).put oj.dst vj).put om.dst vm).put op.dst (fp vm)).put oq.dst (fq vm)).put or'.dst (fr vm))) :
    Flow P ops w0 Q X L listed C a := by
  have hs := Oper.apart_spec hap
  have hs2 := Oper.apart_spec hap2
  have hs3 := Oper.apart_spec hap3
  have hs4 := Oper.apart_spec hap4
  have hs5 := Oper.apart_spec hap5
  refine Flow.par3g j m i oj om oi hoj hom hoi hij him hsi hsj hsm hap hap2 r0 r1 r2 r3 A B AB D F sA sB sAB sD sF i0 j0 i1 j1 m1 m2 (fun vi vj vm h => ?_) (fun vj vm h => ?_)
  · have hT : T vm := by obtain ⟨w, hw⟩ := h; exact tF _ _ _ w hw
    refine Flow.d p op hop hpL sp (fun w hk => ?_) (Flow.d q oq hoq hqL sq (fun w hk => ?_) (Flow.d r or' hor hrL sr (fun w hk => ?_) (k vi vj vm h)))
    · rw [Act.put_comm a vi vj hs.2.1, Act.put_comm _ vi vm hs2.2.1, does_put hsp hs3.1]
      exact dp vj vm w hT hk
    · rw [Act.put_comm a vi vj hs.2.1, Act.put_comm _ vi vm hs2.2.1, Act.put_comm _ vi (fp vm) hs3.2.1, does_put hsq hs4.1]
      exact dq vj vm w hT hk
    · rw [Act.put_comm a vi vj hs.2.1, Act.put_comm _ vi vm hs2.2.1, Act.put_comm _ vi (fp vm) hs3.2.1, Act.put_comm _ vi (fq vm) hs4.2.1, does_put hsr hs5.1]
      exact dr vj vm w hT hk
  · have hT : T vm := by obtain ⟨w, hw⟩ := h; exact tD _ _ w hw
    refine Flow.d p op hop hpL rp (fun w hk => dp vj vm w hT hk) (Flow.d q oq hoq hqL rq (fun w hk => dq vj vm w hT hk) (Flow.d r or' hor hrL rr (fun w hk => dr vj vm w hT hk) (Flow.one i oi hoi r4 (fun u => F u vj vm) (fun _ _ _ h x => sF _ _ _ _ _ h x) (fun w h hk => ?_) (fun u hu => ?_))))
    · rw [does_put hsi hs5.2.2, does_put hsi hs4.2.2, does_put hsi hs3.2.2, does_put hsi hs2.2.2, does_put hsi hs.2.2]
      exact i2 vj vm w h hk
    · have h3 := k u vj vm hu
      rw [Array.setIfInBounds_comm _ _ hij, Array.setIfInBounds_comm _ _ him, Array.setIfInBounds_comm _ _ hip, Array.setIfInBounds_comm _ _ hiq, Array.setIfInBounds_comm _ _ hir,
        Act.put_comm a u vj hs.2.1, Act.put_comm _ u vm hs2.2.1, Act.put_comm _ u (fp vm) hs3.2.1, Act.put_comm _ u (fq vm) hs4.2.1, Act.put_comm _ u (fr vm) hs5.2.1] at h3
      exact h3
end

/-- A state's block that is new. -/
def StNew (W : World) (u : Value) (w : World) : Prop := (∃ b, u = .pointer (some ⟨b, 0, none⟩) ∧ Blk w b zcells 52 ∧ W.heap.size ≤ b) ∧ Ext W w
theorem StNew.ext {W w w' : World} {u : Value} (h : StNew W u w) (x : Ext w w') : StNew W u w' := by
  obtain ⟨⟨b, h1, h2, h3⟩, h4⟩ := h
  exact ⟨⟨b, h1, h2.ext x, h3⟩, h4.trans x⟩
theorem StNew.mk {W w : World} (h : Ext W w) : StNew W (.pointer (some ⟨w.heap.size, 0, none⟩)) (w.alloc (.cells #[.slice none 0 0, .slice none 0 0, .slice none 0 0] 52)) := ⟨⟨_, rfl, Blk.new _ _ _, h.size⟩, h.alloc _⟩
/-- Numbers that were copied. -/
def IntsNew (W : World) (l : List Int) (v : Value) (w : World) : Prop := (∃ a n c, v = .slice a n c) ∧ IntsR w w.heap.size v l ∧ Ext W w
theorem IntsNew.ext {W w w' : World} {l : List Int} {v : Value} (h : IntsNew W l v w) (x : Ext w w') : IntsNew W l v w' := ⟨h.1, ElR.lift (h.2.1.old (x.old _)) x.size, h.2.2.trans x⟩
/-- What a run answered. -/
def RunNew (W : World) (P : PP) (l : List Int) (t : Value) (w : World) : Prop := (∃ a1 n1 c1 a2 n2 c2 a3 n3 c3 ev, t = .tuple #[.agg #[.slice a1 n1 c1, .slice a2 n2 c2, .slice a3 n3 c3], ev] ∧ RunOut P l W.heap.size w (.agg #[.slice a1 n1 c1, .slice a2 n2 c2, .slice a3 n3 c3]) ev) ∧ Ext W w
theorem RunNew.ext {W w w' : World} {P : PP} {l : List Int} {t : Value} (h : RunNew W P l t w) (x : Ext w w') : RunNew W P l t w' := by
  obtain ⟨⟨a1, n1, c1, a2, n2, c2, a3, n3, c3, ev, h1, h2⟩, h3⟩ := h
  exact ⟨⟨a1, n1, c1, a2, n2, c2, a3, n3, c3, ev, h1, h2.ext x⟩, h3.trans x⟩
/-- .. and where its state lies. -/
structure RunAt (W : World) (P : PP) (l : List Int) (b : Nat) (a1 a2 a3 : Option Addr) (n1 n2 n3 c1 c2 c3 : Nat) (ev : Value) (w : World) : Prop where
  blk : Blk w b #[.slice a1 n1 c1, .slice a2 n2 c2, .slice a3 n3 c3] 52
  out : RunOut P l W.heap.size w (.agg #[.slice a1 n1 c1, .slice a2 n2 c2, .slice a3 n3 c3]) ev
  ext : Ext W w
theorem RunAt.on {W w w' : World} {P : PP} {l : List Int} {b : Nat} {a1 a2 a3 : Option Addr} {n1 n2 n3 c1 c2 c3 : Nat} {ev : Value} (h : RunAt W P l b a1 a2 a3 n1 n2 n3 c1 c2 c3 ev w) (x : Ext w w') : RunAt W P l b a1 a2 a3 n1 n2 n3 c1 c2 c3 ev w' := ⟨h.blk.ext x, h.out.ext x, h.ext.trans x⟩

theorem RunNew.tup {W w : World} {P : PP} {l : List Int} {t : Value} (h : RunNew W P l t w) : ∃ u v, t = .tuple #[u, v] := by
  obtain ⟨⟨a1, n1, c1, a2, n2, c2, a3, n3, c3, ev, h1, h2⟩, h3⟩ := h
  exact ⟨_, _, h1⟩
/-- The parts of a run's answer. -/
def tup0 : Value → Value
  | .tuple cs => cs.getD 0 undef
  | _ => undef
def tup1 : Value → Value
  | .tuple cs => cs.getD 1 undef
  | _ => undef
def IsTup (t : Value) : Prop := ∃ u v, t = .tuple #[u, v]
end Go.Proofs.YtoaoienfggjepaaGreatDoor

