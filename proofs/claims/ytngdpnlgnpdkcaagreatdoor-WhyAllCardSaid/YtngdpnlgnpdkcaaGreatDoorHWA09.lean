/- Texts of one proof, put together: IS AS PC ZZWy ZZ6 WG WH WI CD WJ V9 WK Z8 Z9 ZA ZC Z6 ZG ZH ZD S6 ZI ZZWz ZZWo ZZWp ZZWq T8 ZZWs X7 X8 WL W5 WM M2 T9 X9. -/
import Derived.Test.YtngdpnlgnpdkcaaGreatDoorHWA01
import Derived.Test.YtngdpnlgnpdkcaaGreatDoorHWA02
import Derived.Test.YtngdpnlgnpdkcaaGreatDoorHWA03
import Derived.Test.YtngdpnlgnpdkcaaGreatDoorHWA04
import Derived.Test.YtngdpnlgnpdkcaaGreatDoorHWA05
import Derived.Test.YtngdpnlgnpdkcaaGreatDoorHWA06
import Derived.Test.YtngdpnlgnpdkcaaGreatDoorHWA07
import Derived.Test.YtngdpnlgnpdkcaaGreatDoorHWA08
import Derived.Test.YtngdpnlgnpdkcaaGreatDoorChecked
import Derived.LaidEql
import Derived.Stop.Asserts
import Derived.RowKitTokens

/- errors.Is, of the errors that this program makes: Go's own text is walked. -/
namespace Go.Proofs.YtngdpnlgnpdkcaaGreatDoor
set_option linter.unusedSimpArgs false
set_option linter.unusedVariables false
open Go Go.RowKit Go.Extern.Stop Go.Stop Go.Extern

theorem isTypeOf (v : Value) (w : World) : (Extern.ReflectliteType.typeOf #[.iface 273 v]).run Tryz.prog w = .ok (.iface 214 (.agg #[.pointer (some ⟨15, 273, none⟩)])) w := by kernel_rfl
theorem isComparable (w : World) : (callFunc 222 #[.agg #[.pointer (some ⟨15, 273, none⟩)]]).run Tryz.prog w = .ok (.value (.bool true)) w := by kernel_rfl
theorem isMethodComparable (v : Value) (w : World) : (Go.method 406 214 v "Comparable").run Tryz.prog w = .ok (222, v) w := by kernel_rfl
theorem isComp : (Tryz.prog.info? 273).map (·.comparable) = some true := by kernel_rfl
theorem isSize : (Tryz.prog.info? 294).map (·.size) = some 1 := by kernel_rfl
theorem noIsE (v : Value) (xT : TypeId) (w : World) : (Instr.typeAssert (.iface 273 v) xT 225 true).run Tryz.prog w = .ok (.tuple #[.nilIface, .bool false]) w := run_typeAssert_lacksB Tryz.underlying225 (by kernel_rfl) (by kernel_rfl) v xT w
theorem noUnwrapE (v : Value) (xT : TypeId) (w : World) : (Instr.typeAssert (.iface 273 v) xT 221 true).run Tryz.prog w = .ok (.tuple #[.nilIface, .bool false]) w := run_typeAssert_lacksB Tryz.underlying221 (by kernel_rfl) (by kernel_rfl) v xT w
theorem noUnwrapsE (v : Value) (xT : TypeId) (w : World) : (Instr.typeAssert (.iface 273 v) xT 223 true).run Tryz.prog w = .ok (.tuple #[.nilIface, .bool false]) w := run_typeAssert_lacksB Tryz.underlying223 (by kernel_rfl) (by kernel_rfl) v xT w
theorem noIsW (v : Value) (xT : TypeId) (w : World) : (Instr.typeAssert (.iface 126 v) xT 225 true).run Tryz.prog w = .ok (.tuple #[.nilIface, .bool false]) w := run_typeAssert_lacksB Tryz.underlying225 (by kernel_rfl) (by kernel_rfl) v xT w
theorem hasUnwrapW (v : Value) (xT : TypeId) (w : World) : (Instr.typeAssert (.iface 126 v) xT 221 true).run Tryz.prog w = .ok (.tuple #[.iface 126 v, .bool true]) w := run_typeAssert_hasB Tryz.underlying221 (by kernel_rfl) v xT w
theorem methodUnwrap (v : Value) (w : World) : (Go.method 406 126 v "Unwrap").run Tryz.prog w = .ok (216, v) w := by kernel_rfl

set_option maxRecDepth 100000 in
/-- errors.Is(x, x). -/
theorem is_same (a : Addr) (w : World) :
    Calls Tryz.prog 88 #[.iface 273 (.pointer (some a)), .iface 273 (.pointer (some a))] w fun e w' => e = .returned (.bool true) ∧ w = w' := by
  obtain ⟨i, hi, hcmp⟩ := Option.map_eq_some_iff.1 isComp
  obtain ⟨j, hj, hjs⟩ := Option.map_eq_some_iff.1 isSize
  have h8 := @run_callFunc_extern Tryz.prog 119 _ Extern.ReflectliteType.typeOf Tryz.func119 (by kernel_rfl) (by kernel_rfl) (by kernel_rfl) (by kernel_rfl)
  have tT := isTypeOf
  have cT := isComparable
  have mR := isMethodComparable
  have heq := run_eql_iface_ptr_same (P := Tryz.prog) w a Tryz.underlying31 Tryz.underlying273 hi hcmp hj
  go_enter Tryz.func88, Tryz.ntmps88
  go_wp2
  refine wp_loop_rounds 1 ?_
  rw [rounds_succ]
  go_wp2
  go_ret
  exact ⟨rfl, rfl⟩

set_option maxRecDepth 100000 in
/-- errors.Is(x, y), two different pointers. -/
theorem is_other (a b : Addr) (ca cb : Array Value) (ta tb : TypeId) (w : World) (hne : a ≠ b) (ha : w.heap[a.block]? = some (.cells ca ta (0, 0))) (hb : w.heap[b.block]? = some (.cells cb tb (0, 0))) :
    Calls Tryz.prog 88 #[.iface 273 (.pointer (some a)), .iface 273 (.pointer (some b))] w fun e w' => e = .returned (.bool false) ∧ w = w' := by
  obtain ⟨i, hi, hcmp⟩ := Option.map_eq_some_iff.1 isComp
  obtain ⟨j, hj, hjs⟩ := Option.map_eq_some_iff.1 isSize
  have h8 := @run_callFunc_extern Tryz.prog 119 _ Extern.ReflectliteType.typeOf Tryz.func119 (by kernel_rfl) (by kernel_rfl) (by kernel_rfl) (by kernel_rfl)
  have tT := isTypeOf
  have cT := isComparable
  have mR := isMethodComparable
  have nE := noIsE
  have uE := noUnwrapE
  have vE := noUnwrapsE
  have nW := noIsW
  have uW := hasUnwrapW
  have mU := methodUnwrap
  have heq := run_eql_iface_ptr_other (P := Tryz.prog) w Tryz.underlying31 Tryz.underlying273 hi hcmp hj (by rw [hjs]; decide) hne ha hb
  go_enter Tryz.func88, Tryz.ntmps88
  go_wp2
  refine wp_loop_rounds 1 ?_
  rw [rounds_succ]
  go_wp2
  go_ret
  exact ⟨rfl, rfl⟩

set_option maxRecDepth 100000 in
/-- errors.Is(f, x), f a fault that wraps x itself. -/
theorem is_wrap_same (pb : Nat) (b : Addr) (w : World) (h1 : w.cell? ⟨pb, 1, none⟩ = some (.iface 273 (.pointer (some b)))) :
    Calls Tryz.prog 88 #[.iface 126 (.pointer (some ⟨pb, 0, none⟩)), .iface 273 (.pointer (some b))] w fun e w' => e = .returned (.bool true) ∧ w = w' := by
  obtain ⟨i, hi, hcmp⟩ := Option.map_eq_some_iff.1 isComp
  obtain ⟨j, hj, hjs⟩ := Option.map_eq_some_iff.1 isSize
  have h8 := @run_callFunc_extern Tryz.prog 119 _ Extern.ReflectliteType.typeOf Tryz.func119 (by kernel_rfl) (by kernel_rfl) (by kernel_rfl) (by kernel_rfl)
  have tT := isTypeOf
  have cT := isComparable
  have mR := isMethodComparable
  have nE := noIsE
  have uE := noUnwrapE
  have vE := noUnwrapsE
  have nW := noIsW
  have uW := hasUnwrapW
  have mU := methodUnwrap
  have heq := run_eql_iface_ptr_same (P := Tryz.prog) w b Tryz.underlying31 Tryz.underlying273 hi hcmp hj
  have hty := run_eql_iface_types (P := Tryz.prog) 126 273 (.pointer (some ⟨pb, 0, none⟩)) (.pointer (some b)) Tryz.underlying31 (by decide) w
  go_enter Tryz.func88, Tryz.ntmps88
  go_wp2
  refine wp_loop_rounds 2 ?_
  rw [rounds_succ]
  go_wp2
  rw [rounds_succ]
  go_wp2
  go_ret
  exact ⟨rfl, rfl⟩

set_option maxRecDepth 100000 in
/-- errors.Is(f, x), f a fault that wraps another one. -/
theorem is_wrap_other (pb : Nat) (b a : Addr) (ca cb : Array Value) (ta tb : TypeId) (w : World) (h1 : w.cell? ⟨pb, 1, none⟩ = some (.iface 273 (.pointer (some a)))) (hne : a ≠ b) (ha : w.heap[a.block]? = some (.cells ca ta (0, 0))) (hb : w.heap[b.block]? = some (.cells cb tb (0, 0))) :
    Calls Tryz.prog 88 #[.iface 126 (.pointer (some ⟨pb, 0, none⟩)), .iface 273 (.pointer (some b))] w fun e w' => e = .returned (.bool false) ∧ w = w' := by
  obtain ⟨i, hi, hcmp⟩ := Option.map_eq_some_iff.1 isComp
  obtain ⟨j, hj, hjs⟩ := Option.map_eq_some_iff.1 isSize
  have h8 := @run_callFunc_extern Tryz.prog 119 _ Extern.ReflectliteType.typeOf Tryz.func119 (by kernel_rfl) (by kernel_rfl) (by kernel_rfl) (by kernel_rfl)
  have tT := isTypeOf
  have cT := isComparable
  have mR := isMethodComparable
  have nE := noIsE
  have uE := noUnwrapE
  have vE := noUnwrapsE
  have nW := noIsW
  have uW := hasUnwrapW
  have mU := methodUnwrap
  have heq := run_eql_iface_ptr_other (P := Tryz.prog) w Tryz.underlying31 Tryz.underlying273 hi hcmp hj (by rw [hjs]; decide) hne ha hb
  have hty := run_eql_iface_types (P := Tryz.prog) 126 273 (.pointer (some ⟨pb, 0, none⟩)) (.pointer (some b)) Tryz.underlying31 (by decide) w
  go_enter Tryz.func88, Tryz.ntmps88
  go_wp2
  refine wp_loop_rounds 2 ?_
  rw [rounds_succ]
  go_wp2
  rw [rounds_succ]
  go_wp2
  go_ret
  exact ⟨rfl, rfl⟩
end Go.Proofs.YtngdpnlgnpdkcaaGreatDoor



/- errors.As at a target of the program's own: adapted from a worked example of the kit (ToyasAs): Go's own text is walked. -/
namespace Go.Proofs.YtngdpnlgnpdkcaaGreatDoor
set_option linter.unusedSimpArgs false
set_option linter.unusedVariables false
open Go Go.RowKit Go.Extern.Stop Go.Stop Go.Extern

end Go.Proofs.YtngdpnlgnpdkcaaGreatDoor



/- plain.Code walked: an error's number, and its place. -/
namespace Go.Proofs.YtngdpnlgnpdkcaaGreatDoor
set_option linter.unusedSimpArgs false
set_option linter.unusedVariables false
open Go Go.RowKit

/-- All errors lie as they were laid. -/
structure AllErrs (w : World) (ad : Nat → Addr) : Prop where
  var : ∀ c, 1 ≤ c ∧ c ≤ 11 → w.cell? ⟨gE c, 0, none⟩ = some (.iface 273 (.pointer (some (ad c))))
  row : ∀ c, 1 ≤ c ∧ c ≤ 11 → ∃ cs t, w.heap[(ad c).block]? = some (.cells cs t (0, 0))
  inj : ∀ c d, 1 ≤ c ∧ c ≤ 11 → 1 ≤ d ∧ d ≤ 11 → ad c = ad d → c = d
  ty : w.cell? ⟨11, 0, none⟩ = some (.iface 214 (.agg #[.pointer (some ⟨15, 31, none⟩)]))
theorem AllErrs.at1 {w : World} {ad : Nat → Addr} (h : AllErrs w ad) : w.cell? ⟨2, 0, none⟩ = some (.iface 273 (.pointer (some (ad 1)))) := h.var 1 (by omega)
theorem AllErrs.at2 {w : World} {ad : Nat → Addr} (h : AllErrs w ad) : w.cell? ⟨3, 0, none⟩ = some (.iface 273 (.pointer (some (ad 2)))) := h.var 2 (by omega)
theorem AllErrs.at3 {w : World} {ad : Nat → Addr} (h : AllErrs w ad) : w.cell? ⟨4, 0, none⟩ = some (.iface 273 (.pointer (some (ad 3)))) := h.var 3 (by omega)
theorem AllErrs.at4 {w : World} {ad : Nat → Addr} (h : AllErrs w ad) : w.cell? ⟨5, 0, none⟩ = some (.iface 273 (.pointer (some (ad 4)))) := h.var 4 (by omega)
theorem AllErrs.at5 {w : World} {ad : Nat → Addr} (h : AllErrs w ad) : w.cell? ⟨6, 0, none⟩ = some (.iface 273 (.pointer (some (ad 5)))) := h.var 5 (by omega)
theorem AllErrs.at6 {w : World} {ad : Nat → Addr} (h : AllErrs w ad) : w.cell? ⟨0, 0, none⟩ = some (.iface 273 (.pointer (some (ad 6)))) := h.var 6 (by omega)
theorem AllErrs.at7 {w : World} {ad : Nat → Addr} (h : AllErrs w ad) : w.cell? ⟨7, 0, none⟩ = some (.iface 273 (.pointer (some (ad 7)))) := h.var 7 (by omega)
theorem AllErrs.at8 {w : World} {ad : Nat → Addr} (h : AllErrs w ad) : w.cell? ⟨1, 0, none⟩ = some (.iface 273 (.pointer (some (ad 8)))) := h.var 8 (by omega)
theorem AllErrs.at9 {w : World} {ad : Nat → Addr} (h : AllErrs w ad) : w.cell? ⟨8, 0, none⟩ = some (.iface 273 (.pointer (some (ad 9)))) := h.var 9 (by omega)
theorem AllErrs.at10 {w : World} {ad : Nat → Addr} (h : AllErrs w ad) : w.cell? ⟨9, 0, none⟩ = some (.iface 273 (.pointer (some (ad 10)))) := h.var 10 (by omega)
theorem AllErrs.at11 {w : World} {ad : Nat → Addr} (h : AllErrs w ad) : w.cell? ⟨10, 0, none⟩ = some (.iface 273 (.pointer (some (ad 11)))) := h.var 11 (by omega)
theorem AllErrs.ext {w w' : World} {ad : Nat → Addr} (h : AllErrs w ad) (x : Ext w w') : AllErrs w' ad :=
  ⟨fun c hc => x.cellx (h.var c hc), fun c hc => by obtain ⟨cs, t, e⟩ := h.row c hc; exact ⟨cs, t, x.get e⟩, h.inj, x.cellx h.ty⟩
/-- What errors.Is tells of e: it is the one with the number c, or none. -/
def IsAs (w : World) (ad : Nat → Addr) (e : Value) (c : Nat) : Prop := ∀ w', Ext w w' → ∀ d, 1 ≤ d ∧ d ≤ 11 → Calls Tryz.prog 88 #[e, .iface 273 (.pointer (some (ad d)))] w' fun r w'' => r = .returned (.bool (decide (d = c))) ∧ w' = w''
theorem IsAs.sent {w : World} {ad : Nat → Addr} (h : AllErrs w ad) (c : Nat) (hc : 1 ≤ c ∧ c ≤ 11) : IsAs w ad (.iface 273 (.pointer (some (ad c)))) c := by
  intro w' x d hd
  by_cases e : d = c
  · subst e
    rw [decide_eq_true rfl]
    exact is_same (ad d) w'
  · rw [decide_eq_false e]
    have h' := h.ext x
    obtain ⟨c1, t1, e1⟩ := h'.row c hc
    obtain ⟨c2, t2, e2⟩ := h'.row d hd
    exact is_other (ad c) (ad d) c1 c2 t1 t2 w' (fun e' => e (h.inj d c hd hc e'.symm)) e1 e2
theorem IsAs.fault {w : World} {ad : Nat → Addr} (h : AllErrs w ad) (c : Nat) (hc : 1 ≤ c ∧ c ≤ 11) (b : Nat) (hb : w.cell? ⟨b, 1, none⟩ = some (.iface 273 (.pointer (some (ad c))))) : IsAs w ad (.iface 126 (.pointer (some ⟨b, 0, none⟩))) c := by
  intro w' x d hd
  by_cases e : d = c
  · subst e
    rw [decide_eq_true rfl]
    exact is_wrap_same b (ad d) w' (x.cellx hb)
  · rw [decide_eq_false e]
    have h' := h.ext x
    obtain ⟨c1, t1, e1⟩ := h'.row c hc
    obtain ⟨c2, t2, e2⟩ := h'.row d hd
    exact is_wrap_other b (ad d) (ad c) c1 c2 t1 t2 w' (x.cellx hb) (fun e' => e (h.inj d c hd hc e'.symm)) e1 e2
/-- One that is none of them. -/
theorem IsAs.none {w : World} {ad : Nat → Addr} (h : AllErrs w ad) (a : Addr) (ha : ∃ cs t, w.heap[a.block]? = some (.cells cs t (0, 0))) (hne : ∀ c, 1 ≤ c ∧ c ≤ 11 → a ≠ ad c) : IsAs w ad (.iface 273 (.pointer (some a))) 0 := by
  intro w' x d hd
  rw [decide_eq_false (by omega)]
  obtain ⟨c1, t1, e1⟩ := ha
  obtain ⟨c2, t2, e2⟩ := (h.ext x).row d hd
  exact is_other a (ad d) c1 c2 t1 t2 w' (hne d hd) (x.get e1) e2

def codeV (c : Nat) : Int := if c = 0 then -1 else c

set_option maxRecDepth 100000 in
set_option maxHeartbeats 400000 in
theorem code_nil (w : World) : Calls Tryz.prog 44 #[.nilIface] w fun e w' => e = .returned (.tuple #[.int .i64 0, .int .i64 (-1)]) ∧ w = w' := by
  go_enter Tryz.func44, Tryz.ntmps44
  go_wp2
  go_ret2
  exact ⟨rfl, rfl⟩


end Go.Proofs.YtngdpnlgnpdkcaaGreatDoor



/- Proofs: Check, of any steps. -/
namespace Go.Proofs.YtngdpnlgnpdkcaaGreatDoor
set_option linter.unusedSimpArgs false
set_option linter.unusedVariables false
open Go Go.RowKit

theorem whyfollows_any (a1 a2 a3 : Option Addr) (c1 c2 c3 : Nat) (P : PP) (aa : Option Addr) (ca : Nat) (vl : Value) (L : List ST) (i : Nat) (s : ST) (k : Nat) (w : World) (n0 : Nat) (ad : Nat → Addr) (h : PW w n0 ad a1 a2 a3 c1 c2 c3 P) (ha : IntsR w n0 (.slice aa (P.ruleV k (P.stAt k)).args.length ca) (P.ruleV k (P.stAt k)).args) (n1 : Nat) (hr : StepsR w n1 vl L) (hll : L.length ≤ 2000) (hs : L[i]? = some s) (hkl : k < P.stmts.length) (hf1 : -1 ≤ s.frm ∧ s.frm < i) (hv1 : -1 ≤ s.via ∧ s.via < i) (hsh : shapeV (P.ruleV k (P.stAt k)) s = true) (hprev : ∀ (j : Nat) t, j < i → L[j]? = some t → 0 ≤ t.obj ∧ t.obj < 1000) :
    Calls Tryz.prog 111 #[pval a1 a2 a3 c1 c2 c3 P, vl, stval s, (P.ruleV k (P.stAt k)).val (.slice aa (P.ruleV k (P.stAt k)).args.length ca)] w fun e w' => e = .returned (.bool (folB P (P.ruleV k (P.stAt k)) s (L.getD s.frm.toNat st0) (L.getD s.via.toNat st0))) ∧ Ext w w' := by
  have hil := (List.getElem?_eq_some_iff.1 hs).1
  have hw := h.well
  unfold shapeV needsV at hsh
  rw [Bool.and_eq_true] at hsh
  obtain ⟨h2a, h2b⟩ := hsh
  have h2a := eq_of_beq h2a
  have h2b := eq_of_beq h2b
  simp only at h2a h2b
  have hrk := rule_kinds hw (r := P.ruleV k (P.stAt k)) (List.mem_map.2 ⟨k, List.mem_range.2 hkl, rfl⟩)
  obtain ⟨r, hre⟩ : ∃ r, r = P.ruleV k (P.stAt k) := ⟨_, rfl⟩
  rw [← hre] at ha h2a h2b hrk ⊢
  clear hre
  unfold folB
  cases hb : (r.kind.toList == [98, 97, 115, 101]) with
  | true =>
    simp only [cond_true]
    exact whyfollows_base a1 a2 a3 c1 c2 c3 P r aa ca vl L s w n0 ad h ha n1 hr hll hb _ _ rfl rfl
  | false =>
    rw [hb] at h2a
    have n1' := of_decide_eq_true h2a.symm
    obtain ⟨f, hf⟩ := Int.eq_ofNat_of_zero_le n1'
    have hx := getD_at (L := L) (f := f) (by omega)
    rw [hf, Int.toNat_natCast]
    obtain ⟨x, hxe⟩ : ∃ x, x = L.getD f st0 := ⟨_, rfl⟩
    rw [← hxe] at hx ⊢
    clear hxe
    simp only [cond_false]
    cases hxo : (x.obj == s.obj) with
    | false =>
      simp only [Bool.not_false, cond_true]
      exact whyfollows_xobj a1 a2 a3 c1 c2 c3 P r aa ca vl L s w n0 ad h ha n1 hr hll hb f x (hid hf) (hid hx) hxo
    | true =>
      have hxo := beq_int' hxo
      simp only [Bool.not_true, cond_false]
      cases hc : (r.kind.toList == [99, 111, 112, 121]) with
      | true =>
        simp only [cond_true]
        exact whyfollows_copy a1 a2 a3 c1 c2 c3 P r aa ca vl L s w n0 ad h ha n1 hr hll hb hc f x (hid hf) (hid hx) (hid hxo) _ _ rfl rfl
      | false =>
        have n2 : 0 ≤ s.via := by
          refine of_decide_eq_true (h2b.symm.trans ?_)
          rcases hrk with g | g | g
          · rw [eq_of_beq bBase_list] at g; rw [g] at hb; exact absurd hb (by decide)
          · rw [g] at hc; exact absurd hc (by decide)
          · exact g
        obtain ⟨v, hv⟩ := Int.eq_ofNat_of_zero_le n2
        have hz := getD_at (L := L) (f := v) (by omega)
        rw [hv, Int.toNat_natCast]
        obtain ⟨z, hze⟩ : ∃ z, z = L.getD v st0 := ⟨_, rfl⟩
        rw [← hze] at hz ⊢
        clear hze
        simp only [cond_false]
        cases hl : (r.kind.toList == [108, 111, 97, 100]) with
        | true =>
          simp only [cond_true]
          exact whyfollows_load a1 a2 a3 c1 c2 c3 P r aa ca vl L s w n0 ad h ha n1 hr hll hb hc hl f x (hid hf) (hid hx) (hid hxo) v z (hid hv) (hid hz) _ _ _ rfl rfl rfl
        | false =>
          simp only [cond_false]
          cases ht : (r.kind.toList == [115, 116, 111, 114, 101]) with
          | true =>
            simp only [cond_true]
            exact whyfollows_store a1 a2 a3 c1 c2 c3 P r aa ca vl L s w n0 ad h ha n1 hr hll hb hc hl ht f x (hid hf) (hid hx) (hid hxo) v z (hid hv) (hid hz) _ _ _ _ rfl rfl rfl rfl
          | false =>
            simp only [cond_false]
            exact whyfollows_call a1 a2 a3 c1 c2 c3 P r aa ca vl L s w n0 ad h ha n1 hr hll hb hc hl ht f x (hid hf) (hid hx) (hid hxo) v z (hid hv) (hid hz) (hprev v z (by omega) hz) _ _ rfl (hid rfl)
set_option maxRecDepth 100000 in
set_option maxHeartbeats 6400000 in
theorem whystep_any (a1 a2 a3 : Option Addr) (c1 c2 c3 : Nat) (P : PP) (ar : Option Addr) (cr : Nat) (rs : List R2) (vl : Value) (L : List ST) (i : Nat) (s : ST) (w : World) (n0 : Nat) (ad : Nat → Addr) (h : PW w n0 ad a1 a2 a3 c1 c2 c3 P) (hA : AllErrs w ad) (hT : w.ownsRow 0 87 5 (.slice ar P.rulesV.length cr) P.rulesV.length (rs.flatMap R2.cells)) (hre : rs.map R2.r = P.rulesV) (hargs : ∀ x ∈ rs, IntsR w n0 x.v x.r.args) (n1 : Nat) (hr : StepsR w n1 vl L) (hll : L.length ≤ 2000) (hs : L[i]? = some s) (hprev : ∀ (j : Nat) t, j < i → L[j]? = some t → 0 ≤ t.obj ∧ t.obj < 1000) :
    Calls Tryz.prog 71 #[pval a1 a2 a3 c1 c2 c3 P, .slice ar P.rulesV.length cr, vl, .int .i64 (i : Int)] w fun e w' => e = .returned (errv (evOf ad) (stepE P L i s)) ∧ Ext w w' := by
  have hil := (List.getElem?_eq_some_iff.1 hs).1
  have hsl : P.stmts.length ≤ 80 := h.well.few.2.2
  have hrl : P.rulesV.length = P.stmts.length := by unfold PP.rulesV; exact P.rulesUp_len _
  obtain ⟨y8, c8, rfl⟩ := hr.some (by omega)
  obtain ⟨sn, so, ss, sf, sv⟩ := s
  obtain ⟨q0, q1, q2, q3, q4⟩ := (hr.ext ((Ext.refl w).alloc (.cells #[.slice a1 P.vars.length c1, .slice a2 P.funs.length c2, .slice a3 P.stmts.length c3] 26))).at5 hs
  obtain ⟨W1, hW1⟩ : ∃ W1, W1 = w.alloc (.cells #[.slice a1 P.vars.length c1, .slice a2 P.funs.length c2, .slice a3 P.stmts.length c3] 26) := ⟨_, rfl⟩
  obtain ⟨W, hW⟩ : ∃ W, W = W1.alloc (.cells #[.int .i64 sn, .int .i64 so, .int .i64 ss, .int .i64 sf, .int .i64 sv] 47) := ⟨_, rfl⟩
  have x1 : Ext w W1 := by rw [hW1]; exact (Ext.refl _).alloc _
  have x2 : Ext W1 W := by rw [hW]; exact (Ext.refl _).alloc _
  have s1 : W1.heap.size = w.heap.size + 1 := by rw [hW1, heap_size_alloc]
  have HX := hid (x1.trans x2)
  have HBp : Hid (Blk W w.heap.size #[.slice a1 P.vars.length c1, .slice a2 P.funs.length c2, .slice a3 P.stmts.length c3] 26) := hid ((show Blk W1 w.heap.size _ 26 by rw [hW1]; exact Blk.new _ _ _).ext x2)
  have HBs : Hid (Blk W (w.heap.size + 1) #[.int .i64 sn, .int .i64 so, .int .i64 ss, .int .i64 sf, .int .i64 sv] 47) := hid (by rw [← s1, hW]; exact Blk.new _ _ _)
  have HWe : Hid (W = (w.alloc (.cells #[.slice a1 P.vars.length c1, .slice a2 P.funs.length c2, .slice a3 P.stmts.length c3] 26)).alloc (.cells #[.int .i64 sn, .int .i64 so, .int .i64 ss, .int .i64 sf, .int .i64 sv] 47)) := hid (by rw [hW, hW1])
  have HPW := hid h
  have HAA := hid hA
  have HT := hid hT
  have Hre := hid hre
  have Hargs := hid hargs
  have Hr := hid hr
  have Hs := hid hs
  have Hprev := hid hprev
  have Hrl := hid hrl
  have HBo := hid (whybound_any a1 a2 a3 c1 c2 c3 P ⟨sn, so, ss, sf, sv⟩ (i : Int) W (by omega))
  have p0 := HBp.out.av 0 rfl
  have p1 := HBp.out.av 1 rfl
  have p2 := HBp.out.av 2 rfl
  have e0 := HBs.out.av 0 rfl
  have e1 := HBs.out.av 1 rfl
  have e2 := HBs.out.av 2 rfl
  have e3 := HBs.out.av 3 rfl
  have e4 := HBs.out.av 4 rfl
  simp only [List.getElem_toArray, List.getElem_cons_zero, List.getElem_cons_succ] at p0 p1 p2 e0 e1 e2 e3 e4 q0 q1 q2 q3 q4
  rw [HWe.out] at p0 p1 p2 e0 e1 e2 e3 e4
  obtain ⟨bb, hbb⟩ : ∃ bb, bb = boundV P ⟨sn, so, ss, sf, sv⟩ (i : Int) := ⟨_, rfl⟩
  rw [← hbb] at HBo
  have Hbb := hid hbb
  unfold pval
  unfold pval stval at HBo
  clear h hA hT hre hargs hr hs hprev hrl hW hW1 x1 x2 s1 hbb
  go_enter Tryz.func71, Tryz.ntmps71
  go_wp2_with fail
  rw [← HWe.out]
  refine HBo.out.mono ?_
  intro e w1 hx
  obtain ⟨rfl, hx1⟩ := hx
  have Hx1 := hid hx1
  have HZ := hid (HX.out.trans hx1)
  clear HBo hx1 p0 p1 p2 e0 e1 e2 e3 e4 q0 q1 q2 q3 q4
  have a2' := (HAA.out.ext HZ.out).at2
  have a3' := (HAA.out.ext HZ.out).at3
  have e0 := (HBs.out.ext Hx1.out).av 0 rfl
  have e1 := (HBs.out.ext Hx1.out).av 1 rfl
  have e2 := (HBs.out.ext Hx1.out).av 2 rfl
  simp only [List.getElem_toArray, List.getElem_cons_zero, List.getElem_cons_succ] at e0 e1 e2
  cases bb with
  | false =>
    have HE0 : Hid (stepE P L i ⟨sn, so, ss, sf, sv⟩ = 2) := hid (by unfold stepE; rw [← Hbb.out]; rfl)
    have HRes : Hid (errv (evOf ad) (stepE P L i ⟨sn, so, ss, sf, sv⟩) = .iface 273 (.pointer (some (ad 2)))) := hid (by rw [HE0.out]; rfl)
    go_wp2
    go_ret
    exact ⟨by rw [HRes.out]; rfl, HZ.out⟩
  | true =>
    obtain ⟨⟨hb1, hb2⟩, hb3, hb4⟩ := boundV_iff.1 Hbb.out.symm
    simp only at hb1 hb2 hb3 hb4
    obtain ⟨k, rfl⟩ := Int.eq_ofNat_of_zero_le hb1
    have hkl : k < P.stmts.length := by omega
    have hrs : rs.length = P.rulesV.length := by rw [← Hre.out, List.length_map]
    obtain ⟨x, hx⟩ : ∃ x, rs[k]? = some x := ⟨_, List.getElem?_eq_getElem (by rw [hrs, Hrl.out]; exact hkl)⟩
    have hrx : P.rulesV[k]? = some x.r := by rw [← Hre.out, List.getElem?_map, hx]; rfl
    have hxr : x.r = P.ruleV k (P.stAt k) := by
      have : P.rulesV[k]? = some (P.ruleV k (P.stAt k)) := by unfold PP.rulesV PP.rulesUp; rw [List.getElem?_map, List.getElem?_range hkl]; rfl
      exact Option.some.inj (hrx.symm.trans this)
    have hrow := own_ext HT.out HZ.out
    obtain ⟨g7, cp7, hge⟩ := own_some hrow (by rw [Hrl.out]; omega)
    simp only [Value.slice.injEq] at hge
    obtain ⟨rfl, -, rfl⟩ := hge
    obtain ⟨r0, r1, r2, r3, r4⟩ := own_rr hrow hx
    have hia := Hargs.out x (List.mem_of_getElem? hx)
    obtain ⟨aa, ca, hxv, _⟩ := hia.form
    rw [hxv] at r4 hia
    obtain ⟨V, hV⟩ : ∃ V, V = w1.alloc (.cells #[.string x.r.kind, .int .i64 x.r.a, .int .i64 x.r.b, .int .i64 x.r.k, .slice aa x.r.args.length ca] 87) := ⟨_, rfl⟩
    have xv : Ext w1 V := by rw [hV]; exact (Ext.refl _).alloc _
    have HXV := hid xv
    have HBr : Hid (Blk V w1.heap.size #[.string x.r.kind, .int .i64 x.r.a, .int .i64 x.r.b, .int .i64 x.r.k, .slice aa x.r.args.length ca] 87) := hid (by rw [hV]; exact Blk.new _ _ _)
    have HVe := hid hV
    have HIa := hid hia
    have Hxr := hid hxr
    have HNe := hid (whyneeds_any x.r.kind V)
    have HE3 : Hid (shapeV (P.ruleV k (P.stAt k)) ⟨sn, so, (k : Int), sf, sv⟩ = false → stepE P L i ⟨sn, so, (k : Int), sf, sv⟩ = 3) := hid fun hsh => by
      unfold stepE
      rw [← Hbb.out]
      simp only [Int.toNat_natCast]
      rw [hsh]; rfl
    have HEf : Hid (shapeV (P.ruleV k (P.stAt k)) ⟨sn, so, (k : Int), sf, sv⟩ = true → stepE P L i ⟨sn, so, (k : Int), sf, sv⟩ = bif !folB P (P.ruleV k (P.stAt k)) ⟨sn, so, (k : Int), sf, sv⟩ (L.getD sf.toNat st0) (L.getD sv.toNat st0) then 6 else 0) := hid fun hsh => by
      unfold stepE
      rw [← Hbb.out]
      simp only [Int.toNat_natCast]
      rw [hsh]; rfl
    have HSh : Hid (shapeV (P.ruleV k (P.stAt k)) ⟨sn, so, (k : Int), sf, sv⟩ = (((needsV x.r.kind.toList).1 == decide (0 ≤ sf)) && ((needsV x.r.kind.toList).2 == decide (0 ≤ sv)))) := hid (by unfold shapeV; rw [hxr])
    have HFo : Hid (shapeV (P.ruleV k (P.stAt k)) ⟨sn, so, (k : Int), sf, sv⟩ = true → ∀ w2, Ext V w2 → Calls Tryz.prog 111 #[pval a1 a2 a3 c1 c2 c3 P, .slice (some y8) L.length c8, stval ⟨sn, so, (k : Int), sf, sv⟩, x.r.val (.slice aa x.r.args.length ca)] w2 fun e w' => e = .returned (.bool (folB P (P.ruleV k (P.stAt k)) ⟨sn, so, (k : Int), sf, sv⟩ (L.getD sf.toNat st0) (L.getD sv.toNat st0))) ∧ Ext w2 w') := hid fun hsh w2 y => by
      have yy := (HZ.out.trans HXV.out).trans y
      have hi2 := HIa.out.old (yy.old _)
      rw [Hxr.out] at hi2 ⊢
      exact whyfollows_any a1 a2 a3 c1 c2 c3 P aa ca (.slice (some y8) L.length c8) L i ⟨sn, so, (k : Int), sf, sv⟩ k w2 n0 ad (HPW.out.ext yy) hi2 n1 (Hr.out.ext yy) hll Hs.out hkl hb3 hb4 hsh Hprev.out
    have hl2 : k < P.rulesV.length := by rw [Hrl.out]; exact hkl
    clear hrs hx hrx hxr hrow hxv hia xv hV
    go_wp2_with fail
    rw [← HVe.out]
    refine HNe.out.mono ?_
    intro e w2 hx
    obtain ⟨rfl, hx2⟩ := hx
    have Hx2 := hid hx2
    have HZ2 := hid ((HZ.out.trans HXV.out).trans hx2)
    clear HNe hx2 r0 r1 r2 r3 r4 a2' a3' e0 e1 e2
    have a3' := (HAA.out.ext HZ2.out).at3
    have p0 := (HBp.out.ext (Hx1.out.trans (HXV.out.trans Hx2.out))).av 0 rfl
    have p1 := (HBp.out.ext (Hx1.out.trans (HXV.out.trans Hx2.out))).av 1 rfl
    have p2 := (HBp.out.ext (Hx1.out.trans (HXV.out.trans Hx2.out))).av 2 rfl
    have e0 := (HBs.out.ext (Hx1.out.trans (HXV.out.trans Hx2.out))).av 0 rfl
    have e1 := (HBs.out.ext (Hx1.out.trans (HXV.out.trans Hx2.out))).av 1 rfl
    have e2 := (HBs.out.ext (Hx1.out.trans (HXV.out.trans Hx2.out))).av 2 rfl
    have e3 := (HBs.out.ext (Hx1.out.trans (HXV.out.trans Hx2.out))).av 3 rfl
    have e4 := (HBs.out.ext (Hx1.out.trans (HXV.out.trans Hx2.out))).av 4 rfl
    have r0 := (HBr.out.ext Hx2.out).av 0 rfl
    have r1 := (HBr.out.ext Hx2.out).av 1 rfl
    have r2 := (HBr.out.ext Hx2.out).av 2 rfl
    have r3 := (HBr.out.ext Hx2.out).av 3 rfl
    have r4 := (HBr.out.ext Hx2.out).av 4 rfl
    simp only [List.getElem_toArray, List.getElem_cons_zero, List.getElem_cons_succ] at p0 p1 p2 e0 e1 e2 e3 e4 r0 r1 r2 r3 r4
    have HSh2 := HSh.out
    obtain ⟨nf, hnf⟩ : ∃ nf, nf = (needsV x.r.kind.toList).1 := ⟨_, rfl⟩
    obtain ⟨nb, hnb⟩ : ∃ nb, nb = (needsV x.r.kind.toList).2 := ⟨_, rfl⟩
    rw [← hnf, ← hnb] at HSh2 ⊢
    clear hnf hnb
    cases hsv : shapeV (P.ruleV k (P.stAt k)) ⟨sn, so, (k : Int), sf, sv⟩ with
    | true =>
      rw [hsv] at HSh2
      have HF := hid (HFo.out hsv w2 Hx2.out)
      have HE0 := hid (HEf.out hsv)
      obtain ⟨bf, hbf⟩ : ∃ bf, bf = folB P (P.ruleV k (P.stAt k)) ⟨sn, so, (k : Int), sf, sv⟩ (L.getD sf.toNat st0) (L.getD sv.toNat st0) := ⟨_, rfl⟩
      rw [← hbf] at HF HE0
      unfold pval stval RV.val at HF
      clear hbf hsv
      cases d1 : decide (0 ≤ sf) <;> cases d2 : decide (0 ≤ sv) <;> cases nf <;> cases nb <;> rw [d1, d2] at HSh2 <;>
      first
      | exact absurd HSh2 (by decide)
      | (clear HSh2
         go_wp2_with fail
         refine HF.out.mono ?_
         intro e w3 hx
         obtain ⟨rfl, hx3⟩ := hx
         have HZ := hid (HZ2.out.trans hx3)
         have a6' := (HAA.out.ext HZ.out).at6
         clear HF hx3 p0 p1 p2 e0 e1 e2 e3 e4 r0 r1 r2 r3 r4 a3'
         cases bf with
         | true =>
           have HE1 : Hid (stepE P L i ⟨sn, so, (k : Int), sf, sv⟩ = 0) := hid HE0.out
           go_wp2
           go_ret
           exact ⟨by rw [HE1.out]; rfl, HZ.out⟩
         | false =>
           have HE0 : Hid (stepE P L i ⟨sn, so, (k : Int), sf, sv⟩ = 6) := hid HE0.out
           have HRes : Hid (errv (evOf ad) (stepE P L i ⟨sn, so, (k : Int), sf, sv⟩) = .iface 273 (.pointer (some (ad 6)))) := hid (by rw [HE0.out]; rfl)
           go_wp2
           go_ret
           exact ⟨by rw [HRes.out]; rfl, HZ.out⟩
        )
    | false =>
      rw [hsv] at HSh2
      have HE0 := hid (HE3.out hsv)
      clear hsv
      have HZ := HZ2
      cases d1 : decide (0 ≤ sf) <;> cases d2 : decide (0 ≤ sv) <;> cases nf <;> cases nb <;> rw [d1, d2] at HSh2 <;>
      first
      | exact absurd HSh2 (by decide)
      | (clear HSh2
         have HRes : Hid (errv (evOf ad) (stepE P L i ⟨sn, so, (k : Int), sf, sv⟩) = .iface 273 (.pointer (some (ad 3)))) := hid (by rw [HE0.out]; rfl)
         go_wp2
         go_ret
         exact ⟨by rw [HRes.out]; rfl, HZ.out⟩
        )
set_option maxRecDepth 100000 in
set_option maxHeartbeats 6400000 in
theorem whycheck_any (a1 a2 a3 : Option Addr) (c1 c2 c3 : Nat) (P : PP) (S : List (List Int)) (vl : Value) (L : List ST) (w : World) (n0 : Nat) (ad : Nat → Addr) (h : PW w n0 ad a1 a2 a3 c1 c2 c3 P) (hA : AllErrs w ad) (hg : P.GoodS S) (hc : ClosedP P S) (hr : StepsR w n0 vl L) (hll : L.length ≤ 1000000) (hn0 : n0 ≤ w.heap.size) :
    Calls Tryz.prog 26 #[pval a1 a2 a3 c1 c2 c3 P, vl] w fun e w' => ∃ v, e = .returned v ∧ ProofErr ad P L w' v ∧ Ext w w' := by
  obtain ⟨al, cl, rfl⟩ := hr.form2
  obtain ⟨W, hW⟩ : ∃ W, W = w.alloc (.cells (pcells a1 a2 a3 c1 c2 c3 P) 26) := ⟨_, rfl⟩
  have HX : Hid (Ext w W) := hid (by rw [hW]; exact (Ext.refl _).alloc _)
  have HBx : Hid (Blk W w.heap.size (pcells a1 a2 a3 c1 c2 c3 P) 26) := hid (by rw [hW]; exact Blk.new _ _ _)
  have HWe : Hid (W = w.alloc (.cells #[.slice a1 P.vars.length c1, .slice a2 P.funs.length c2, .slice a3 P.stmts.length c3] 26)) := hid (by rw [hW]; rfl)
  have HPW := hid (h.ext HX.out)
  have HAA := hid hA
  have Hg := hid hg
  have Hc := hid hc
  have Hr := hid hr
  have HR0 := hid (consof_yes a1 a2 a3 c1 c2 c3 P W n0 ad HPW.out)
  have p0 := HBx.out.av 0 rfl
  have p1 := HBx.out.av 1 rfl
  have p2 := HBx.out.av 2 rfl
  simp only [pcells, List.getElem_toArray, List.getElem_cons_zero, List.getElem_cons_succ] at p0 p1 p2
  rw [HWe.out] at p0 p1 p2
  unfold pval
  unfold pval at HR0
  clear hW h hA hg hc hr
  go_enter Tryz.func26, Tryz.ntmps26
  go_wp2_with fail
  rw [← HWe.out]
  refine HR0.out.mono ?_
  intro e w1 hx
  obtain ⟨v, rs, rfl, hT, hx1⟩ := hx
  obtain ⟨ar, cr, rfl⟩ := row_form hT.row
  have Hx1 := hid hx1
  have HT := hid hT
  have HZ := hid (HX.out.trans hx1)
  clear HR0 hx1 hT p0 p1 p2
  by_cases hbig : 2000 < L.length
  · have a8' := (HAA.out.ext HZ.out).at8
    have HPE : Hid (ProofErr ad P L w1 (.iface 273 (.pointer (some (ad 8))))) := hid (.inl ⟨hbig, rfl⟩)
    go_wp2
    go_ret
    exact ⟨_, rfl, HPE.out, HZ.out⟩
  have hll2 : L.length ≤ 2000 := by omega
  go_wp2
  go_loopw [23] (fun t23 wr => ∃ j : Nat, t23 = .int .i64 (j : Int) ∧ j ≤ L.length ∧ StepsOk P L j ∧ Ext w1 wr) (fun t23 _ => L.length - (intOf t23).toNat)
  case atStart => exact ⟨0, rfl, Nat.zero_le _, fun j t h => absurd h (Nat.not_lt_zero _), Ext.refl _⟩
  case round =>
    obtain ⟨j, rfl, hj, hok, hxr⟩ := hrel
    have Hxr := hid hxr
    have Hok := hid hok
    clear hok hxr
    by_cases hlt : j < L.length
    · obtain ⟨s, hs⟩ : ∃ s, L[j]? = some s := ⟨_, List.getElem?_eq_getElem hlt⟩
      have Hs := hid hs
      have hpr : ∀ (q : Nat) t, q < j → L[q]? = some t → 0 ≤ t.obj ∧ t.obj < 1000 := fun q t hq ht => by
        have h1 := (StepsOk.snd Hg.out Hc.out Hok.out q t hq ht).2
        have h2 := objs_in Hg.out h1.1 h1.2
        have h3 := Hg.out.1.nodes.2
        omega
      have HE := hid (whystep_any a1 a2 a3 c1 c2 c3 P ar cr rs (.slice al L.length cl) L j s wr w1.heap.size ad ((HPW.out.ext (Hx1.out.trans Hxr.out)).lift (Nat.le_trans hn0 HZ.out.size)) (HAA.out.ext (HZ.out.trans Hxr.out)) (own_low (own_ext HT.out.row Hxr.out) (Nat.zero_le _)) HT.out.eq (fun x hx => (HT.out.args x hx).1.old (Hxr.out.old _)) n0 (Hr.out.ext (HZ.out.trans Hxr.out)) hll2 hs hpr)
      have p0 := (HBx.out.ext (Hx1.out.trans Hxr.out)).av 0 rfl
      have p1 := (HBx.out.ext (Hx1.out.trans Hxr.out)).av 1 rfl
      have p2 := (HBx.out.ext (Hx1.out.trans Hxr.out)).av 2 rfl
      simp only [pcells, List.getElem_toArray, List.getElem_cons_zero, List.getElem_cons_succ] at p0 p1 p2
      unfold pval at HE
      clear hs hpr
      go_wp2_with fail
      refine HE.out.mono ?_
      intro e w4 hx4
      obtain ⟨rfl, hx4⟩ := hx4
      have Hx4 := hid (Hxr.out.trans hx4)
      clear HE hx4 p0 p1 p2
      by_cases hz : stepE P L j s = 0
      · rw [show errv (evOf ad) (stepE P L j s) = .nilIface from by rw [hz]; rfl]
        have Hok1 := hid (Hok.out.succ Hs.out hz)
        clear hz
        go_wp2
        go_roundw
        case rel => exact ⟨j + 1, by go_num, by omega, Hok1.out, Hx4.out⟩
        case measure => simp [intOf]; omega
      · rw [show errv (evOf ad) (stepE P L j s) = .iface 273 (.pointer (some (ad (stepE P L j s)))) from by unfold errv; rw [if_neg hz]; rfl]
        have HPE : Hid (ProofErr ad P L (w4.alloc (.cells #[.int .i64 (j : Int), .iface 273 (.pointer (some (ad (stepE P L j s))))] 128)) (.iface 126 (.pointer (some ⟨w4.heap.size, 0, none⟩)))) := hid (.inr (.inr ⟨hll2, j, s, _, Hs.out, Hok.out, hz, rfl, Blk.new _ _ _⟩))
        have HxE := hid (HZ.out.trans (Hx4.out.alloc (.cells #[.int .i64 (j : Int), .iface 273 (.pointer (some (ad (stepE P L j s))))] 128)))
        clear hz
        go_wp2
        go_ret
        exact ⟨_, rfl, HPE.out, HxE.out⟩
    · obtain rfl : j = L.length := by omega
      have HPE : Hid (ProofErr ad P L wr .nilIface) := hid (.inr (.inl ⟨hll2, Hok.out, rfl⟩))
      have HxE := hid (HZ.out.trans Hxr.out)
      go_wp2
      go_ret
      exact ⟨_, rfl, HPE.out, HxE.out⟩
end Go.Proofs.YtngdpnlgnpdkcaaGreatDoor



/- The solver run to its end; New of a program that is not well; a closed fact. -/
namespace Go.Proofs.YtngdpnlgnpdkcaaGreatDoor
set_option linter.unusedSimpArgs false
set_option linter.unusedVariables false
open Go Go.RowKit

section
variable {P : PP} {S : List (List Int)} {s : SV} {m : Nat}
def SV.start (P : PP) : SV := P.rulesV.foldl (SV.add P) (SV.zero P)
end
end Go.Proofs.YtngdpnlgnpdkcaaGreatDoor



/- ObjectOf of the reference. -/
namespace Go.Proofs.YtngdpnlgnpdkcaaGreatDoor
set_option linter.unusedSimpArgs false
set_option linter.unusedVariables false
open Go Go.RowKit

def vkVar : List UInt8 := [118, 97, 114]
def vkThing : List UInt8 := [116, 104, 105, 110, 103]
def vkFun : List UInt8 := [102, 117, 110]
def PP.objV (P : PP) (pl : List Int) (k : List UInt8) (n : Int) : Int :=
  bif k == vkVar then (if 0 ≤ n ∧ n < P.vars.length then n else -1) else
  bif k == vkThing then (if 0 ≤ n ∧ n < pl.length then P.placeV (pl.getD n.toNat 0) else -1) else
  bif k == vkFun then (if 0 ≤ n ∧ n < P.funs.length then (P.nodesV : Int) + n else -1) else -1
theorem PP.nodesV_le (P : PP) : P.nodesV ≤ P.vars.length + P.stmts.length := by
  unfold PP.nodesV
  have := P.newsN_le P.stmts.length
  omega

end Go.Proofs.YtngdpnlgnpdkcaaGreatDoor



/- run.Object. -/
namespace Go.Proofs.YtngdpnlgnpdkcaaGreatDoor
set_option linter.unusedSimpArgs false
set_option linter.unusedVariables false
open Go Go.RowKit

end Go.Proofs.YtngdpnlgnpdkcaaGreatDoor



/- sameState. -/
namespace Go.Proofs.YtngdpnlgnpdkcaaGreatDoor
set_option linter.unusedSimpArgs false
set_option linter.unusedVariables false
open Go Go.RowKit

end Go.Proofs.YtngdpnlgnpdkcaaGreatDoor



/- The laws' own word for an error's number is walked. -/
namespace Go.Proofs.YtngdpnlgnpdkcaaGreatDoor
set_option linter.unusedSimpArgs false
set_option linter.unusedVariables false
open Go Go.RowKit


theorem AllErrs.errs {w : World} {ad : Nat → Addr} (h : AllErrs w ad) : Errs w (evOf ad) :=
  ⟨⟨h.at2, h.at3, h.at4, h.at8⟩, h.at1, h.at11⟩
end Go.Proofs.YtngdpnlgnpdkcaaGreatDoor



/- Faults that are told, in numbers. -/
namespace Go.Proofs.YtngdpnlgnpdkcaaGreatDoor
set_option linter.unusedSimpArgs false
set_option linter.unusedVariables false
open Go Go.RowKit

theorem PP.FirstBad.uniq {P : PP} {i j : Nat} {s t : PS} (h : P.FirstBad i s) (g : P.FirstBad j t) : i = j ∧ s = t := by
  obtain ⟨h1, h2, h3⟩ := h
  obtain ⟨g1, g2, g3⟩ := g
  have e : i = j := by
    rcases Nat.lt_trichotomy i j with e | e | e
    · exact absurd (g3 i s e h1) h2
    · exact e
    · exact absurd (h3 j t e g1) g2
  subst e
  exact ⟨rfl, Option.some.inj (h1.symm.trans g1)⟩
theorem PP.FirstBad.not {P : PP} {i : Nat} {s : PS} (h : P.FirstBad i s) : ¬ P.allWell := fun g => by
  obtain ⟨h1, h2, _⟩ := h
  have hi : i < P.stmts.length := by
    rcases Nat.lt_or_ge i P.stmts.length with e | e
    · exact e
    · rw [List.getElem?_eq_none e] at h1; cases h1
  exact h2 (g i s hi h1)
theorem FaultIs.uniq {P : PP} {c d : Nat} {p q : Int} (h : FaultIs P c p) (g : FaultIs P d q) : c = d ∧ p = q := by
  rcases h with ⟨h1, h2, h3⟩ | ⟨h1, h2, h3, h4⟩ | ⟨h1, i, s, h2, h3, h4⟩ <;> rcases g with ⟨g1, g2, g3⟩ | ⟨g1, g2, g3, g4⟩ | ⟨g1, j, t, g2, g3, g4⟩
  · exact ⟨h2.trans g2.symm, h3.trans g3.symm⟩
  · exact absurd g1 h1
  · exact absurd g1 h1
  · exact absurd h1 g1
  · exact ⟨h3.trans g3.symm, h4.trans g4.symm⟩
  · exact absurd h2 g2.not
  · exact absurd h1 g1
  · exact absurd g2 h2.not
  · obtain ⟨rfl, rfl⟩ := h2.uniq g2
    exact ⟨h3.trans g3.symm, h4.trans g4.symm⟩
theorem PP.FirstK.uniq {P : PP} {l : List Int} {i j : Nat} (h : P.FirstK l i) (g : P.FirstK l j) : i = j := by
  obtain ⟨x, h1, h2, h3⟩ := h
  obtain ⟨y, g1, g2, g3⟩ := g
  rcases Nat.lt_trichotomy i j with e | e | e
  · rw [g3 i x e h1] at h2; cases h2
  · exact e
  · rw [h3 j y e g1] at g2; cases g2

/-- The number of a run that is refused, and the place. -/
def RunFault (P : PP) (l : List Int) (c : Nat) (p : Int) : Prop :=
  (¬ (P.err1 = 0 ∧ P.allWell) ∧ FaultIs P c p) ∨ (P.err1 = 0 ∧ P.allWell ∧ 2000 < l.length ∧ c = 8 ∧ p = -1) ∨
  (P.err1 = 0 ∧ P.allWell ∧ l.length ≤ 2000 ∧ ∃ i : Nat, P.FirstK l i ∧ c = 2 ∧ p = (i : Int))
theorem RunFault.uniq {P : PP} {l : List Int} {c d : Nat} {p q : Int} (h : RunFault P l c p) (g : RunFault P l d q) : c = d ∧ p = q := by
  rcases h with ⟨h1, h2⟩ | ⟨h1, h2, h3, h4, h5⟩ | ⟨h1, h2, h3, i, h4, h5, h6⟩ <;> rcases g with ⟨g1, g2⟩ | ⟨g1, g2, g3, g4, g5⟩ | ⟨g1, g2, g3, j, g4, g5, g6⟩
  · exact h2.uniq g2
  · exact absurd ⟨g1, g2⟩ h1
  · exact absurd ⟨g1, g2⟩ h1
  · exact absurd ⟨h1, h2⟩ g1
  · exact ⟨h4.trans g4.symm, h5.trans g5.symm⟩
  · omega
  · exact absurd ⟨h1, h2⟩ g1
  · omega
  · obtain rfl := h4.uniq g4
    exact ⟨h5.trans g5.symm, h6.trans g6.symm⟩

end Go.Proofs.YtngdpnlgnpdkcaaGreatDoor



/- RunParts: the walk: two runs. -/
namespace Go.Proofs.YtngdpnlgnpdkcaaGreatDoor
set_option linter.unusedSimpArgs false
set_option linter.unusedVariables false
open Go Go.RowKit

section
variable {P : Program} {ops : Array Oper} {X : Nat → Prop} {w0 : World} {Q : Act → World → Prop} {L : List Nat}
end

/-- Numbers that were copied. -/
def IntsNew (W : World) (l : List Int) (v : Value) (w : World) : Prop := (∃ a n c, v = .slice a n c) ∧ IntsR w w.heap.size v l ∧ Ext W w
theorem IntsNew.ext {W w w' : World} {l : List Int} {v : Value} (h : IntsNew W l v w) (x : Ext w w') : IntsNew W l v w' := ⟨h.1, ElR.lift (h.2.1.old (x.old _)) x.size, h.2.2.trans x⟩
/-- What a run answered. -/
def RunNew (W : World) (P : PP) (l : List Int) (t : Value) (w : World) : Prop := (∃ a1 n1 c1 a2 n2 c2 a3 n3 c3 ev, t = .tuple #[.agg #[.slice a1 n1 c1, .slice a2 n2 c2, .slice a3 n3 c3], ev] ∧ RunOut P l W.heap.size w (.agg #[.slice a1 n1 c1, .slice a2 n2 c2, .slice a3 n3 c3]) ev) ∧ Ext W w
theorem RunNew.ext {W w w' : World} {P : PP} {l : List Int} {t : Value} (h : RunNew W P l t w) (x : Ext w w') : RunNew W P l t w' := by
  obtain ⟨⟨a1, n1, c1, a2, n2, c2, a3, n3, c3, ev, h1, h2⟩, h3⟩ := h
  exact ⟨⟨a1, n1, c1, a2, n2, c2, a3, n3, c3, ev, h1, h2.ext x⟩, h3.trans x⟩
/-- The parts of a run's answer. -/
def tup0 : Value → Value
  | .tuple cs => cs.getD 0 undef
  | _ => undef
def tup1 : Value → Value
  | .tuple cs => cs.getD 1 undef
  | _ => undef
def IsTup (t : Value) : Prop := ∃ u v, t = .tuple #[u, v]
end Go.Proofs.YtngdpnlgnpdkcaaGreatDoor



/- What run.Do answers, whole (with the state's rows, or the error to the letter). -/
namespace Go.Proofs.YtngdpnlgnpdkcaaGreatDoor
set_option linter.unusedSimpArgs false
set_option linter.unusedVariables false
open Go Go.RowKit

theorem ErrIs.ext {ad : Nat → Addr} {P : PP} {w w' : World} {v : Value} (h : ErrIs ad P w v) (x : Ext w w') : ErrIs ad P w' v := by
  rcases h with h | h | ⟨h1, i, s, b, h2, h3, h4⟩
  · exact .inl h
  · exact .inr (.inl h)
  · exact .inr (.inr ⟨h1, i, s, b, h2, h3, h4.ext x⟩)
theorem RunNo.ext {ad : Nat → Addr} {P : PP} {l : List Int} {w w' : World} {v : Value} (h : RunNo ad P l w v) (x : Ext w w') : RunNo ad P l w' v := by
  rcases h with ⟨h1, h2⟩ | h | ⟨h1, h2, h3, i, b, h4, h5, h6⟩
  · exact .inl ⟨h1, h2.ext x⟩
  · exact .inr (.inl h)
  · exact .inr (.inr ⟨h1, h2, h3, i, b, h4, h5, h6.ext x⟩)
end Go.Proofs.YtngdpnlgnpdkcaaGreatDoor



/- calls.Alias: are two nodes one? -/
namespace Go.Proofs.YtngdpnlgnpdkcaaGreatDoor
set_option linter.unusedSimpArgs false
set_option linter.unusedVariables false
open Go Go.RowKit

def aliasV (S : List (List Int)) (x y : Nat) : Bool := (S.getD x []).any fun o => decide (o ∈ S.getD y [])
end Go.Proofs.YtngdpnlgnpdkcaaGreatDoor



/- calls.called: the functions that a statement may call. -/
namespace Go.Proofs.YtngdpnlgnpdkcaaGreatDoor
set_option linter.unusedSimpArgs false
set_option linter.unusedVariables false
open Go Go.RowKit

/-- Is an object a function that takes as many as come? -/
def PP.fitsV (P : PP) (x : PS) (o : Int) : Bool := decide (0 ≤ P.funV o) && decide ((P.funs.getD (P.funV o).toNat ⟨⟨#[]⟩, [], 0⟩).params.length = x.args.length)
def calledL (P : PP) (S : List (List Int)) (x : PS) : List Int := bif x.isK kCall then ((S.getD x.y.toNat []).filter (P.fitsV x)).map P.funV else []
end Go.Proofs.YtngdpnlgnpdkcaaGreatDoor



/- calls.Graph: who is called; the law's own small program. -/
namespace Go.Proofs.YtngdpnlgnpdkcaaGreatDoor
set_option linter.unusedSimpArgs false
set_option linter.unusedVariables false
open Go Go.RowKit

def calledP : PP := ⟨[⟨#[97]⟩, ⟨#[98]⟩], [⟨⟨#[102]⟩, [], 1⟩], [⟨⟨#[102, 117, 110]⟩, 0, 0, []⟩, ⟨⟨#[99, 97, 108, 108]⟩, 1, 0, []⟩]⟩
def calledS : Array Value := #[.string ⟨#[102, 117, 110]⟩, .int .i64 0, .int .i64 0, .slice none 0 0, .string ⟨#[99, 97, 108, 108]⟩, .int .i64 1, .int .i64 0, .slice none 0 0]
end Go.Proofs.YtngdpnlgnpdkcaaGreatDoor



/- calls.nodes, calls.idle, calls.Idle: statements that can do nothing. -/
namespace Go.Proofs.YtngdpnlgnpdkcaaGreatDoor
set_option linter.unusedSimpArgs false
set_option linter.unusedVariables false
open Go Go.RowKit

/-- The nodes among a node's objects. -/
def nodesL (S : List (List Int)) (l : List Int) : List Int := l.filter fun o => !decide ((S.length : Int) ≤ o)
/-- Can a statement do nothing? -/
def idleV (P : PP) (S : List (List Int)) (x : PS) : Bool :=
  bif x.isK kLoad then decide ((nodesL S (S.getD x.y.toNat [])).length = 0) else
  bif x.isK kStore then decide ((nodesL S (S.getD x.x.toNat [])).length = 0) else
  bif x.isK kCall then decide ((calledL P S x).length = 0) else false
/-- Statements that can do nothing. -/
def idleUp (P : PP) (S : List (List Int)) (n : Nat) : List Int := ((List.range n).filter fun k => idleV P S (P.stAt k)).map fun k : Nat => (k : Int)
def idleL (P : PP) (S : List (List Int)) : List Int := idleUp P S P.stmts.length
end Go.Proofs.YtngdpnlgnpdkcaaGreatDoor



/- Runs, plainly: whatever a run does, what a variable or a thing has is one of its node's objects. -/
namespace Go.Proofs.YtngdpnlgnpdkcaaGreatDoor
set_option linter.unusedSimpArgs false
set_option linter.unusedVariables false
open Go Go.RowKit

def vkNone : List UInt8 := [110, 111, 110, 101]
/-- The node of a thing. -/
def Rn.atN (P : PP) (s : Rn) (j : Nat) : Nat := P.vars.length + P.newsN (s.places.getD j 0)
/-- The object of a value. -/
def Rn.oN (P : PP) (s : Rn) : Vl → Nat
  | .none => 0
  | .var n => n
  | .thing n => s.atN P n
  | .fn n => P.nodesV + n
/-- Is a value one of a node's? -/
def Hs (P : PP) (S : List (List Int)) (s : Rn) (i : Nat) (v : Vl) : Prop := v ≠ .none → ((s.oN P v : Nat) : Int) ∈ S.getD i []
theorem Hs.none {P : PP} {S : List (List Int)} {s : Rn} {i : Nat} : Hs P S s i .none := fun h => absurd rfl h
theorem Hs.to {P : PP} {S : List (List Int)} {s : Rn} {i j : Nat} {v : Vl} (h : Hs P S s i v) (hs : ∀ n ∈ S.getD i [], n ∈ S.getD j []) : Hs P S s j v := fun g => hs _ (h g)
theorem Hs.same {P : PP} {S : List (List Int)} {s t : Rn} {i : Nat} {v : Vl} (h : Hs P S s i v) (e : t.oN P v = s.oN P v) : Hs P S t i v := fun g => by rw [e]; exact h g
theorem oN_set (P : PP) (s : Rn) (n : Int) (u v : Vl) : (s.set n u).oN P v = s.oN P v := by cases v <;> rfl
theorem oN_put (P : PP) (s : Rn) (c u v : Vl) : (s.put c u).oN P v = s.oN P v := by cases c <;> cases v <;> rfl
structure Sound (P : PP) (S : List (List Int)) (s : Rn) : Prop where
  ok : s.Ok P
  pl : ∀ (j k : Nat), s.places[j]? = some k → k < P.stmts.length ∧ P.isNew k = true
  vars : ∀ i, Hs P S s i (s.vars.getD i .none)
  things : ∀ j, Hs P S s (s.atN P j) (s.things.getD j .none)
theorem getD_set_cases (l : List Vl) (n i : Nat) (v d : Vl) : (l.set n v).getD i d = l.getD i d ∨ (n = i ∧ (l.set n v).getD i d = v) := by
  rw [List.getD_eq_getElem?_getD, List.getD_eq_getElem?_getD, List.getElem?_set]
  by_cases h : n = i
  · subst h
    by_cases hl : n < l.length
    · right
      simp [hl]
    · left
      rw [if_pos rfl, if_neg hl, List.getElem?_eq_none (by omega)]
  · left
    rw [if_neg h]
theorem Sound.set {P : PP} {S : List (List Int)} {s : Rn} (h : Sound P S s) (n : Int) {v : Vl} (hv : v.In P.vars.length s.things.length P.funs.length) (hh : Hs P S s n.toNat v) : Sound P S (s.set n v) := by
  refine ⟨h.ok.set n hv, h.pl, fun i => ?_, fun j => (h.things j).same (oN_set _ _ _ _ _)⟩
  show Hs P S (s.set n v) i ((s.vars.set n.toNat v).getD i .none)
  rcases getD_set_cases s.vars n.toNat i v .none with e | ⟨rfl, e⟩
  · rw [e]; exact (h.vars i).same (oN_set _ _ _ _ _)
  · rw [e]; exact hh.same (oN_set _ _ _ _ _)
/-- The node of a place that is pointed to. -/
def Rn.cN (P : PP) (s : Rn) : Vl → Nat
  | .var n => n
  | .thing n => s.atN P n
  | _ => 0
theorem Sound.put {P : PP} {S : List (List Int)} {s : Rn} (h : Sound P S s) (c : Vl) {v : Vl} (hv : v.In P.vars.length s.things.length P.funs.length) (hh : c.isAddr = true → Hs P S s (s.cN P c) v) : Sound P S (s.put c v) := by
  cases c with
  | none => exact h
  | fn n => exact h
  | var n =>
    have hh := hh rfl
    refine ⟨h.ok.put _ hv, h.pl, fun i => ?_, fun j => (h.things j).same (oN_put P s (.var n) v _)⟩
    show Hs P S (s.put (.var n) v) i ((s.vars.set n v).getD i .none)
    rcases getD_set_cases s.vars n i v .none with e | ⟨rfl, e⟩
    · rw [e]; exact (h.vars i).same (oN_put _ _ _ _ _)
    · rw [e]; exact hh.same (oN_put _ _ _ _ _)
  | thing n =>
    have hh := hh rfl
    refine ⟨h.ok.put _ hv, h.pl, fun i => (h.vars i).same (oN_put P s (.thing n) v _), fun j => ?_⟩
    show Hs P S (s.put (.thing n) v) (s.atN P j) ((s.things.set n v).getD j .none)
    rcases getD_set_cases s.things n j v .none with e | ⟨rfl, e⟩
    · rw [e]; exact (h.things j).same (oN_put _ _ _ _ _)
    · rw [e]; exact hh.same (oN_put _ _ _ _ _)

/-- The answer is closed under a statement's edges. -/
theorem ClosedP.sedge {P : PP} {S : List (List Int)} (hc : ClosedP P S) {x : PS} (hx : x ∈ P.stmts) {a b : Int} (he : (a, b) ∈ P.sedges x S) : ∀ n ∈ S.getD a.toNat [], n ∈ S.getD b.toNat [] := by
  by_cases hab : a = b
  · subst hab; exact fun n h => h
  · exact hc.edge (a, b) (mem_edges0.2 ⟨x, hx, he⟩) hab
theorem kind_of {x : PS} {a : List UInt8} (h : x.isK a = true) : x.kind.toList = a := eq_of_beq h
theorem sedges_of {P : PP} {x : PS} {S : List (List Int)} (h1 : x.isK kAddr = false) (h2 : x.isK kNew = false) (h3 : x.isK kFun = false) (h4 : x.isK kCall = false) : P.sedges x S = P.redges ⟨x.kind, x.y, x.x, 0, []⟩ S := by
  unfold PP.sedges PP.ruleV
  rw [h1, h2, h3, h4]; rfl
theorem sedge_copy {P : PP} {x : PS} {S : List (List Int)} (h : x.isK kCopy = true) : (x.y, x.x) ∈ P.sedges x S := by
  rw [sedges_of (isK_ne h (by decide)) (isK_ne h (by decide)) (isK_ne h (by decide)) (isK_ne h (by decide))]
  unfold PP.redges
  simp only [kind_of h]
  exact List.mem_singleton.2 rfl
theorem sedge_load {P : PP} {x : PS} {S : List (List Int)} (h : x.isK kLoad = true) {o : Int} (ho : o ∈ S.getD x.y.toNat []) (hn : o < P.nodesV) : (o, x.x) ∈ P.sedges x S := by
  rw [sedges_of (isK_ne h (by decide)) (isK_ne h (by decide)) (isK_ne h (by decide)) (isK_ne h (by decide))]
  unfold PP.redges PP.nodesOf
  simp only [kind_of h]
  refine List.mem_map.2 ⟨o, List.mem_filter.2 ⟨ho, ?_⟩, rfl⟩
  rw [decide_eq_false (by omega)]; rfl
theorem sedge_store {P : PP} {x : PS} {S : List (List Int)} (h : x.isK kStore = true) {o : Int} (ho : o ∈ S.getD x.x.toNat []) (hn : o < P.nodesV) : (x.y, o) ∈ P.sedges x S := by
  rw [sedges_of (isK_ne h (by decide)) (isK_ne h (by decide)) (isK_ne h (by decide)) (isK_ne h (by decide))]
  unfold PP.redges PP.nodesOf
  simp only [kind_of h]
  refine List.mem_map.2 ⟨o, List.mem_filter.2 ⟨ho, ?_⟩, rfl⟩
  rw [decide_eq_false (by omega)]; rfl
theorem funV_of {P : PP} {n : Nat} (hn : n < P.funs.length) : P.funV ((P.nodesV + n : Nat) : Int) = n := by
  unfold PP.funV
  rw [if_pos (by omega)]; omega
theorem sedge_call {P : PP} {x : PS} {S : List (List Int)} (h : x.isK kCall = true) {n : Nat} {f : PF} (hf : P.funs[n]? = some f) (ho : ((P.nodesV + n : Nat) : Int) ∈ S.getD x.y.toNat []) {e : Int × Int} (he : e ∈ calledV f ⟨bCall, x.y, x.x, 0, x.args⟩) : e ∈ P.sedges x S := by
  have hb : bCall.toList = kCall := by decide +kernel
  unfold PP.sedges PP.ruleV
  rw [isK_ne h (by decide : (kCall == kAddr) = false), isK_ne h (by decide : (kCall == kNew) = false), isK_ne h (by decide : (kCall == kFun) = false), h]
  unfold PP.redges
  simp only [cond_true, cond_false, hb]
  refine List.mem_flatMap.2 ⟨_, ho, ?_⟩
  have hn : n < P.funs.length := by
    rcases Nat.lt_or_ge n P.funs.length with g | g
    · exact g
    · rw [List.getElem?_eq_none g] at hf; cases hf
  unfold PP.callsOf
  rw [funV_of hn, if_pos (by omega)]
  have e1 : P.funs.getD ((n : Int)).toNat ⟨⟨#[]⟩, [], 0⟩ = f := by rw [Int.toNat_natCast, List.getD_eq_getElem?_getD, hf]; rfl
  rw [e1]
  exact he
theorem ClosedP.addr {P : PP} {S : List (List Int)} (hc : ClosedP P S) {k : Nat} {x : PS} (hk : P.stmts[k]? = some x) (h : x.isK kAddr = true) : x.y ∈ S.getD x.x.toNat [] := by
  have hl : k < P.stmts.length := by
    rcases Nat.lt_or_ge k P.stmts.length with g | g
    · exact g
    · rw [List.getElem?_eq_none g] at hk; cases hk
  have e : P.stAt k = x := Option.some.inj ((stAt_some hl).symm.trans hk)
  have hb := hc.base k hl
  rw [e] at hb
  unfold PP.ruleV at hb
  rw [h] at hb
  exact hb rfl
theorem ClosedP.new {P : PP} {S : List (List Int)} (hc : ClosedP P S) {k : Nat} {x : PS} (hk : P.stmts[k]? = some x) (h : x.isK kNew = true) : P.placeV k ∈ S.getD x.x.toNat [] := by
  have hl : k < P.stmts.length := by
    rcases Nat.lt_or_ge k P.stmts.length with g | g
    · exact g
    · rw [List.getElem?_eq_none g] at hk; cases hk
  have e : P.stAt k = x := Option.some.inj ((stAt_some hl).symm.trans hk)
  have hb := hc.base k hl
  rw [e] at hb
  unfold PP.ruleV at hb
  rw [isK_ne h (by decide : (kNew == kAddr) = false), h] at hb
  exact hb rfl
theorem ClosedP.fn {P : PP} {S : List (List Int)} (hc : ClosedP P S) {k : Nat} {x : PS} (hk : P.stmts[k]? = some x) (h : x.isK kFun = true) : (P.nodesV : Int) + x.y ∈ S.getD x.x.toNat [] := by
  have hl : k < P.stmts.length := by
    rcases Nat.lt_or_ge k P.stmts.length with g | g
    · exact g
    · rw [List.getElem?_eq_none g] at hk; cases hk
  have e : P.stAt k = x := Option.some.inj ((stAt_some hl).symm.trans hk)
  have hb := hc.base k hl
  rw [e] at hb
  unfold PP.ruleV at hb
  rw [isK_ne h (by decide : (kFun == kAddr) = false), isK_ne h (by decide : (kFun == kNew) = false), h] at hb
  exact hb rfl
theorem newsN_mono (P : PP) {a b : Nat} (h : a ≤ b) : P.newsN a ≤ P.newsN b := by
  induction b with
  | zero => rw [Nat.le_zero.1 h]; exact Nat.le_refl _
  | succ b ih =>
    rcases Nat.lt_or_ge b a with g | g
    · rw [show a = b + 1 by omega]; exact Nat.le_refl _
    · have := ih g
      rw [P.newsN_succ]; omega
/-- A thing's node is a node, and no variable's. -/
theorem Sound.at {P : PP} {S : List (List Int)} {s : Rn} (h : Sound P S s) {j : Nat} (hj : j < s.things.length) : P.vars.length ≤ s.atN P j ∧ s.atN P j < P.nodesV := by
  have hl : j < s.places.length := by rw [h.ok.lp]; exact hj
  have hp := List.getElem?_eq_getElem hl
  obtain ⟨h1, h2⟩ := h.pl j _ hp
  unfold Rn.atN PP.nodesV
  rw [List.getD_eq_getElem?_getD, hp]
  show _ ∧ P.vars.length + P.newsN (s.places[j]'hl) < _
  have h3 := P.newsN_succ (s.places[j]'hl)
  rw [h2] at h3
  have h4 := newsN_mono P (show s.places[j]'hl + 1 ≤ P.stmts.length from h1)
  simp only [if_true] at h3
  omega
theorem Hs.at {P : PP} {S : List (List Int)} {s : Rn} (h : Sound P S s) (n : Int) : Hs P S s n.toNat (s.at n) := h.vars n.toNat
/-- What a place that is pointed to has. -/
theorem Sound.get {P : PP} {S : List (List Int)} {s : Rn} (h : Sound P S s) (c : Vl) : Hs P S s (s.cN P c) (s.get c) := by
  cases c with
  | none => exact Hs.none
  | fn n => exact Hs.none
  | var n => exact h.vars n
  | thing n => exact h.things n
/-- The node of a place that is pointed to is one of the pointer's objects. -/
theorem Sound.cell {P : PP} {S : List (List Int)} {s : Rn} (h : Sound P S s) (n : Int) (hc : (s.at n).isAddr = true) : ((s.cN P (s.at n) : Nat) : Int) ∈ S.getD n.toNat [] ∧ s.cN P (s.at n) < P.nodesV := by
  have hi := h.ok.at n
  have hh := Hs.at h n
  generalize s.at n = c at *
  cases c with
  | none => cases hc
  | fn n => cases hc
  | var m =>
    refine ⟨hh (by intro e; cases e), ?_⟩
    have : m < P.vars.length := hi
    show m < _
    unfold PP.nodesV; omega
  | thing m => exact ⟨hh (by intro e; cases e), (h.at hi).2⟩
theorem Sound.give {P : PP} {S : List (List Int)} : ∀ (ps : List Int) (vs : List Vl) {s : Rn}, Sound P S s → (∀ v ∈ vs, v.In P.vars.length s.things.length P.funs.length) → (∀ (i : Nat) (p : Int) (v : Vl), ps[i]? = some p → vs[i]? = some v → Hs P S s p.toNat v) → Sound P S (s.give ps vs)
  | [], _, _, h, _, _ => h
  | _ :: _, [], _, h, _, _ => h
  | p :: ps, v :: vs, s, h, h1, h2 => Sound.give ps vs (h.set p (h1 v List.mem_cons_self) (h2 0 p v rfl rfl)) (fun u hu => h1 u (List.mem_cons_of_mem _ hu)) fun i q u hq hu => (h2 (i + 1) q u (by simpa using hq) (by simpa using hu)).same (oN_set _ _ _ _ _)
theorem Sound.begin (P : PP) (S : List (List Int)) : Sound P S (Rn.begin P) := by
  refine ⟨Rn.Ok.begin P, fun j k h => (by cases h), fun i => ?_, fun j => Hs.none⟩
  have : (Rn.begin P).vars.getD i .none = .none := by
    show (List.replicate _ Vl.none).getD i .none = .none
    rw [List.getD_eq_getElem?_getD, List.getElem?_replicate]
    split <;> rfl
  rw [this]
  exact Hs.none
theorem oN_new {P : PP} {s : Rn} (h : s.Ok P) {vs ts : List Vl} (k : Nat) {v : Vl} (hv : v.In P.vars.length s.things.length P.funs.length) : Rn.oN P ⟨vs, ts, s.places ++ [k]⟩ v = s.oN P v := by
  cases v with
  | none => rfl
  | var n => rfl
  | fn n => rfl
  | thing n =>
    have hn : n < s.things.length := hv
    show P.vars.length + P.newsN ((s.places ++ [k]).getD n 0) = P.vars.length + P.newsN (s.places.getD n 0)
    rw [List.getD_eq_getElem?_getD, List.getElem?_append_left (by rw [h.lp]; exact hn), ← List.getD_eq_getElem?_getD]
theorem Ok_getD {P : PP} {s : Rn} (h : s.Ok P) (i : Nat) : (s.vars.getD i .none).In P.vars.length s.things.length P.funs.length := by
  have := h.at (i : Int)
  unfold Rn.at at this
  rwa [Int.toNat_natCast] at this
theorem Ok_getT {P : PP} {s : Rn} (h : s.Ok P) (i : Nat) : (s.things.getD i .none).In P.vars.length s.things.length P.funs.length := h.get (.thing i)
/-- A statement keeps what is sound. -/
theorem Sound.stmt {P : PP} {S : List (List Int)} {s : Rn} (hw : P.Well) (hc : ClosedP P S) (h : Sound P S s) {k : Nat} {x : PS} (hk : P.stmts[k]? = some x) : Sound P S (s.stmt P k x) := by
  have hkl : k < P.stmts.length := by
    rcases Nat.lt_or_ge k P.stmts.length with g | g
    · exact g
    · rw [List.getElem?_eq_none g] at hk; cases hk
  have hg := PP.good (hw.2 k x hkl hk)
  have hx : x ∈ P.stmts := List.mem_of_getElem? hk
  have hok := h.ok.stmt k hg
  unfold Rn.stmt at hok ⊢
  cases h1 : x.isK kAddr with
  | true =>
    have hy := hg.yv (isK_ne h1 (by decide)) (isK_ne h1 (by decide))
    refine h.set x.x (show x.y.toNat < P.vars.length by omega) fun _ => ?_
    have := hc.addr hk h1
    have e : ((x.y.toNat : Nat) : Int) = x.y := Int.toNat_of_nonneg hy.1
    show ((x.y.toNat : Nat) : Int) ∈ _
    rw [e]; exact this
  | false =>
  cases h2 : x.isK kCopy with
  | true => exact h.set x.x (h.ok.at _) ((Hs.at h x.y).to (hc.sedge hx (sedge_copy h2)))
  | false =>
  cases h3 : x.isK kLoad with
  | true =>
    simp only [cond_true, cond_false]
    cases h4 : (s.at x.y).isAddr with
    | false => exact h
    | true =>
      obtain ⟨g1, g2⟩ := h.cell x.y h4
      refine h.set x.x (h.ok.get _) ((h.get _).to ?_)
      have := hc.sedge hx (sedge_load h3 g1 (by omega))
      rwa [Int.toNat_natCast] at this
  | false =>
  cases h4 : x.isK kStore with
  | true =>
    simp only [cond_true, cond_false]
    refine h.put _ (h.ok.at _) fun hca => ?_
    obtain ⟨g1, g2⟩ := h.cell x.x hca
    refine (Hs.at h x.y).to ?_
    have := hc.sedge hx (sedge_store h4 g1 (by omega))
    rwa [Int.toNat_natCast] at this
  | false =>
  cases h5 : x.isK kNew with
  | true =>
    rw [h1, h2, h3, h4, h5] at hok
    simp only [cond_true, cond_false] at hok ⊢
    have hpl : P.isNew k = true := (isNew_at hk).trans h5
    have hlast : ∀ vs ts, Rn.atN P ⟨vs, ts, s.places ++ [k]⟩ s.things.length = P.vars.length + P.newsN k := fun vs ts => by
      show P.vars.length + P.newsN ((s.places ++ [k]).getD s.things.length 0) = _
      rw [List.getD_eq_getElem?_getD, ← h.ok.lp, List.getElem?_concat_length]; rfl
    refine ⟨hok, fun j q hq => ?_, fun i => ?_, fun j => ?_⟩
    · have hq : (s.places ++ [k])[j]? = some q := hq
      rcases Nat.lt_or_ge j s.places.length with g | g
      · rw [List.getElem?_append_left g] at hq; exact h.pl j q hq
      · rw [List.getElem?_append_right g] at hq
        have : j - s.places.length = 0 := by
          rcases Nat.eq_zero_or_pos (j - s.places.length) with g | g
          · exact g
          · rw [List.getElem?_eq_none (by simp; omega)] at hq; cases hq
        rw [this] at hq
        obtain rfl := Option.some.inj hq
        exact ⟨hkl, hpl⟩
    · show Hs P S _ i ((s.vars.set x.x.toNat (.thing s.things.length)).getD i .none)
      rcases getD_set_cases s.vars x.x.toNat i (.thing s.things.length) .none with e | ⟨rfl, e⟩
      · rw [e]; exact (h.vars i).same (oN_new h.ok k (Ok_getD h.ok i))
      · rw [e]
        intro _
        have hp := hc.new hk h5
        unfold PP.placeV at hp
        rw [if_pos ⟨by omega, by omega, by rw [Int.toNat_natCast]; exact hpl⟩, Int.toNat_natCast] at hp
        show ((Rn.atN P ⟨_, _, s.places ++ [k]⟩ s.things.length : Nat) : Int) ∈ _
        rw [hlast]
        exact hp
    · show Hs P S _ (Rn.atN P ⟨_, _, s.places ++ [k]⟩ j) ((s.things ++ [Vl.none]).getD j Vl.none)
      rcases Nat.lt_or_ge j s.things.length with g | g
      · have e1 : (s.things ++ [Vl.none]).getD j .none = s.things.getD j .none := by
          rw [List.getD_eq_getElem?_getD, List.getElem?_append_left g, ← List.getD_eq_getElem?_getD]
        have e2 : Rn.atN P ⟨(s.set x.x (.thing s.things.length)).vars, s.things ++ [Vl.none], s.places ++ [k]⟩ j = s.atN P j := oN_new h.ok k (v := .thing j) g
        rw [e1, e2]
        exact (h.things j).same (oN_new h.ok k (Ok_getT h.ok j))
      · have e1 : (s.things ++ [Vl.none]).getD j .none = .none := by
          rw [List.getD_eq_getElem?_getD, List.getElem?_append_right g]
          cases j - s.things.length <;> rfl
        rw [e1]; exact Hs.none
  | false =>
  cases h6 : x.isK kFun with
  | true =>
    have hy := hg.yf h6
    refine h.set x.x (show x.y.toNat < P.funs.length by omega) fun _ => ?_
    have := hc.fn hk h6
    show ((P.nodesV + x.y.toNat : Nat) : Int) ∈ _
    rw [show ((P.nodesV + x.y.toNat : Nat) : Int) = (P.nodesV : Int) + x.y by omega]; exact this
  | false =>
  cases h7 : x.isK kCall with
  | false => exact h
  | true =>
    simp only [cond_true, cond_false]
    unfold Rn.call
    have hh := Hs.at h x.y
    have hi := h.ok.at x.y
    generalize s.at x.y = c at *
    cases c with
    | none => exact h
    | var n => exact h
    | thing n => exact h
    | fn n =>
      have hn : n < P.funs.length := hi
      have ho := hh (by intro e; cases e)
      have hf := List.getElem?_eq_getElem hn
      obtain ⟨f, hfe⟩ : ∃ f, P.funs[n]? = some f := ⟨_, hf⟩
      simp only [hfe]
      unfold Rn.callF
      split
      case isFalse => exact h
      case isTrue hlen =>
        have hed : ∀ e ∈ calledV f ⟨bCall, x.y, x.x, 0, x.args⟩, ∀ n ∈ S.getD e.1.toNat [], n ∈ S.getD e.2.toNat [] := fun e he => hc.sedge hx (sedge_call h7 hfe ho he)
        unfold calledV at hed
        rw [if_pos hlen] at hed
        have hgv : Sound P S (s.give f.params (x.args.map s.at)) := by
          refine Sound.give _ _ h (fun v hv => ?_) fun i p v hp hv => ?_
          · obtain ⟨a, _, rfl⟩ := List.mem_map.1 hv
            exact h.ok.at a
          · rw [List.getElem?_map] at hv
            cases ha : x.args[i]? with
            | none => rw [ha] at hv; cases hv
            | some a =>
              rw [ha] at hv
              obtain rfl := Option.some.inj hv
              exact (Hs.at h a).to (hed (a, p) (List.mem_cons_of_mem _ (List.mem_of_getElem? (List.getElem?_zip_eq_some.2 ⟨ha, hp⟩))))
        exact hgv.set x.x (hgv.ok.at _) ((Hs.at hgv f.ret).to (hed _ List.mem_cons_self))
theorem Sound.foldl {P : PP} {S : List (List Int)} (hw : P.Well) (hc : ClosedP P S) : ∀ (l : List Nat) (s : Rn), Sound P S s → Sound P S (l.foldl (Rn.step P) s)
  | [], _, h => h
  | k :: l, s, h => by
    refine Sound.foldl hw hc l _ ?_
    unfold Rn.step
    cases hk : P.stmts[k]? with
    | none => exact h
    | some x => exact h.stmt hw hc hk
/-- Whatever a run does, what it has is in the answer. -/
theorem Sound.run {P : PP} {S : List (List Int)} (hw : P.Well) (hc : ClosedP P S) (l : List Nat) : Sound P S (Rn.run P l) := Sound.foldl hw hc l _ (Sound.begin P S)
end Go.Proofs.YtngdpnlgnpdkcaaGreatDoor



/- The reference: who may be called by a statement (CalledOf). -/
namespace Go.Proofs.YtngdpnlgnpdkcaaGreatDoor
set_option linter.unusedSimpArgs false
set_option linter.unusedVariables false
open Go Go.RowKit

/-- Is function f one that a statement may call? (as the reference asks) -/
def PP.fitsR (P : PP) (S : List (List Int)) (x : PS) (f : Nat) : Bool := decide (((P.nodesV + f : Nat) : Int) ∈ S.getD x.y.toNat []) && decide ((P.funs.getD f ⟨⟨#[]⟩, [], 0⟩).params.length = x.args.length)
def calledUp (P : PP) (S : List (List Int)) (x : PS) (n : Nat) : List Int := ((List.range n).filter (P.fitsR S x)).map fun k : Nat => (k : Int)
end Go.Proofs.YtngdpnlgnpdkcaaGreatDoor



/- The reference: statements that can do nothing (IdleOf). -/
namespace Go.Proofs.YtngdpnlgnpdkcaaGreatDoor
set_option linter.unusedSimpArgs false
set_option linter.unusedVariables false
open Go Go.RowKit

end Go.Proofs.YtngdpnlgnpdkcaaGreatDoor



/- calls.Writes: what a statement may change. -/
namespace Go.Proofs.YtngdpnlgnpdkcaaGreatDoor
set_option linter.unusedSimpArgs false
set_option linter.unusedVariables false
open Go Go.RowKit

/-- Parameters of functions. -/
def paramsL (P : PP) (fs : List Int) : List Int := fs.flatMap fun f => (P.funs.getD f.toNat ⟨⟨#[]⟩, [], 0⟩).params
/-- What a statement may change. -/
def writesL (P : PP) (S : List (List Int)) (x : PS) : List Int :=
  bif x.isK kStore then nodesL S (S.getD x.x.toNat []) else
  bif x.isK kCall && decide ((calledL P S x).length = 0) then [] else sset (x.x :: paramsL P (calledL P S x))
end Go.Proofs.YtngdpnlgnpdkcaaGreatDoor



/- Sets: the reference's set of any numbers. -/
namespace Go.Proofs.YtngdpnlgnpdkcaaGreatDoor
set_option linter.unusedSimpArgs false
set_option linter.unusedVariables false
open Go Go.RowKit

/-- Which numbers were seen. -/
def seen (l : List Int) : List Value := (List.range 1000).map fun n : Nat => Value.bool (decide ((n : Int) ∈ l))
/-- The set's numbers below n. -/
def setUp (l : List Int) (n : Nat) : List Int := ((List.range n).filter fun k : Nat => decide ((k : Int) ∈ l)).map fun k : Nat => (k : Int)
end Go.Proofs.YtngdpnlgnpdkcaaGreatDoor



/- The reference: what a statement may change (WritesOf); what an error is coded. -/
namespace Go.Proofs.YtngdpnlgnpdkcaaGreatDoor
set_option linter.unusedSimpArgs false
set_option linter.unusedVariables false
open Go Go.RowKit

set_option maxRecDepth 100000 in
set_option maxHeartbeats 800000 in
theorem coded2_any (w : World) (v : Value) (c : Int) (h : Calls Tryz.prog 44 #[v] w fun e w' => e = .returned (.tuple #[.int .i64 c, .int .i64 (-1)]) ∧ Ext w w') :
    Calls Tryz.prog 16 #[v, .int .i64 c] w fun e w' => e = .returned (.bool true) ∧ Ext w w' := by
  have HC := hid h
  clear h
  go_enter Tryz.func16, Tryz.ntmps16
  go_wp2_with fail
  refine HC.out.mono ?_
  intro e w1 hx
  obtain ⟨rfl, hx1⟩ := hx
  have HX1 := hid hx1
  clear HC hx1
  go_wp2
  go_ret
  exact ⟨rfl, HX1.out⟩
end Go.Proofs.YtngdpnlgnpdkcaaGreatDoor



/- WhyFinds: the law's own small program; what was found, plainly. -/
namespace Go.Proofs.YtngdpnlgnpdkcaaGreatDoor
set_option linter.unusedSimpArgs false
set_option linter.unusedVariables false
open Go Go.RowKit

theorem ProofErr.ok {ad : Nat → Addr} {P : PP} {L : List ST} {w : World} {v : Value} (h : ProofErr ad P L w v) (hl : L.length ≤ 2000) (hs : StepsOk P L L.length) : v = .nilIface := by
  rcases h with ⟨h1, _⟩ | ⟨_, _, h3⟩ | ⟨_, i, s, b, h2, _, h4, _⟩
  · omega
  · exact h3
  · exact absurd (hs i s (List.getElem?_eq_some_iff.1 h2).1 h2) h4
theorem ProofIs.ok {P : PP} {L : List ST} {c : Nat} {p : Int} (h : ProofIs P L c p) (hl : L.length ≤ 2000) (hs : StepsOk P L L.length) : c = 0 ∧ p = -1 := by
  rcases h with ⟨h1, _⟩ | ⟨_, _, h3⟩ | ⟨_, i, s, h2, _, h4, _⟩
  · omega
  · exact h3
  · exact absurd (hs i s (List.getElem?_eq_some_iff.1 h2).1 h2) h4
/-- What is so was found: steps that are well, of which the last tells it. -/
theorem FoundW.yes {P : PP} {S : List (List Int)} {m base : Nat} {none6 : Value} {n o : Int} {e : Ending} {w' : World} (h : FoundW P S base none6 n o e w') (hL : LeastAt P m S) (hw : P.Well) (hin : (0 ≤ n ∧ n < P.nodesV) ∧ o ∈ S.getD n.toNat []) :
    ∃ (L Lm : List ST) (s : ST) (v : Value), L = Lm ++ [s] ∧ s.fact = (n, o) ∧ WhyOk P S L ∧ e = .returned (.tuple #[v, .nilIface]) ∧ w'.ownsRow base 47 5 v L.length (L.flatMap stCells) := by
  obtain ⟨l, hok, hfix, hc⟩ := h
  rcases hc with ⟨h1, _⟩ | ⟨i, s, M, v, h1, h2, h3, h4, h5⟩
  · have := hok.done hL hw hfix (n := n.toNat) (by omega) hin.2
    rw [Int.toNat_of_nonneg hin.1.1] at this
    exact absurd this h1
  · obtain ⟨Lm, hm⟩ := needed_last h3 (List.getElem?_eq_some_iff.1 h1).1
    refine ⟨_, Lm, _, v, hm, ?_, needed_ok hok h3, h4, h5⟩
    rw [← h2, List.getD_eq_getElem?_getD, h1]; rfl
/-- What is not so was not found. -/
theorem FoundW.no {P : PP} {S : List (List Int)} {base : Nat} {none6 : Value} {n o : Int} {e : Ending} {w' : World} (h : FoundW P S base none6 n o e w') (hout : ¬ ((0 ≤ n ∧ n < P.nodesV) ∧ o ∈ S.getD n.toNat [])) : e = .returned (.tuple #[.slice none 0 0, none6]) := by
  obtain ⟨l, hok, hfix, hc⟩ := h
  rcases hc with ⟨_, h2⟩ | ⟨i, s, M, v, h1, h2, _⟩
  · exact h2
  · have hs := hok.snd s (List.mem_of_getElem? h1)
    unfold ST.fact at h2
    obtain ⟨e1, e2⟩ := Prod.mk.inj h2
    rw [e1, e2] at hs
    exact absurd hs hout
set_option maxRecDepth 100000 in
set_option maxHeartbeats 3200000 in
theorem because_any (w : World) (ad : Nat → Addr) (hE : ErrsP w ad) (hA : AllErrs w ad) : Calls Tryz.prog 8 #[] w fun e w' => e = .returned (.bool true) ∧ Ext w w' := by
  obtain ⟨W1, hW1⟩ : ∃ W1, W1 = w.alloc (.cells #[.string ⟨#[97]⟩, .string ⟨#[98]⟩] 9) := ⟨_, rfl⟩
  obtain ⟨W2, hW2⟩ : ∃ W2, W2 = W1.alloc (.cells fixedS 76) := ⟨_, rfl⟩
  obtain ⟨W3, hW3⟩ : ∃ W3, W3 = W2.alloc (.cells #[.slice (some ⟨w.heap.size, 0, none⟩) 2 2, .slice none 0 0, .slice (some ⟨w.heap.size + 1, 0, none⟩) 2 2] 26) := ⟨_, rfl⟩
  have x1 : Ext w W1 := by rw [hW1]; exact (Ext.refl _).alloc _
  have x2 : Ext W1 W2 := by rw [hW2]; exact (Ext.refl _).alloc _
  have x3 : Ext W2 W3 := by rw [hW3]; exact (Ext.refl _).alloc _
  have s1 : W1.heap.size = w.heap.size + 1 := by rw [hW1, heap_size_alloc]
  have s2 : W2.heap.size = w.heap.size + 2 := by rw [hW2, heap_size_alloc, s1]
  have s3 : W3.heap.size = w.heap.size + 3 := by rw [hW3, heap_size_alloc, s2]
  have bA : Blk W1 w.heap.size #[.string ⟨#[97]⟩, .string ⟨#[98]⟩] 9 := by rw [hW1]; exact Blk.new _ _ _
  have bB : Blk W2 (w.heap.size + 1) fixedS 76 := by rw [hW2, ← s1]; exact Blk.new _ _ _
  have HBp : Hid (Blk W3 (w.heap.size + 2) #[.slice (some ⟨w.heap.size, 0, none⟩) 2 2, .slice none 0 0, .slice (some ⟨w.heap.size + 1, 0, none⟩) 2 2] 26) := hid (by rw [hW3, ← s2]; exact Blk.new _ _ _)
  have hP := fixed_prog (n0 := W3.heap.size) (bA.ext (x2.trans x3)) (bB.ext x3) (by omega) (by omega)
  have xx : Ext w W3 := x1.trans (x2.trans x3)
  have hg := fixed_least.good fixed_well
  have hc := fixed_least.closed fixed_well
  have hPW : PW W3 W3.heap.size ad _ _ _ 2 0 2 fixedP := ⟨hE.ext xx, hP, fun s hs => by rcases (by simpa [fixedP] using hs : s = ⟨#[97]⟩ ∨ s = ⟨#[98]⟩) with rfl | rfl <;> decide, fun s hs => by simp [PP.names, fixedP] at hs, fixed_well⟩
  have HD := hid (whyfind_any _ _ _ 2 0 2 fixedP [[1], [1]] 1 1 W3 ad hPW (hA.ext xx).at6 hg hc (by decide) (by decide))
  have HX := hid xx
  have HPW := hid hPW
  have HAA := hid hA
  have Hg := hid hg
  have Hc := hid hc
  have HW3 : Hid (W3 = ((w.alloc (.cells #[.string ⟨#[97]⟩, .string ⟨#[98]⟩] 9)).alloc (.cells #[.string ⟨#[97, 100, 100, 114]⟩, .int .i64 0, .int .i64 1, .slice none 0 0, .string ⟨#[99, 111, 112, 121]⟩, .int .i64 1, .int .i64 0, .slice none 0 0] 76)).alloc (.cells #[.slice (some ⟨w.heap.size, 0, none⟩) 2 2, .slice none 0 0, .slice (some ⟨w.heap.size + 1, 0, none⟩) 2 2] 26)) := hid (by rw [hW3, hW2, hW1]; rfl)
  unfold pval at HD
  clear hE hA hW1 hW2 hW3 x1 x2 x3 s1 s2 s3 bA bB hP xx hg hc hPW
  go_enter Tryz.func8, Tryz.ntmps8
  go_wp2_with fail
  rw [← HW3.out]
  refine HD.out.mono ?_
  intro e w5 hx
  obtain ⟨hf, hx5⟩ := hx
  obtain ⟨L, Lm, s, v, hLm, hsf, hok, rfl, hrow⟩ := hf.yes fixed_least fixed_well ⟨⟨by decide, by rw [fixed_nodes]; decide⟩, by decide⟩
  have hl2 : L.length = 2 := by rw [hLm]; rw [hLm] at hok; exact because_two hok hsf
  have Hst := hid (hok.steps fixed_well)
  have hrs := StepsR.own hrow (Nat.le_refl _)
  obtain ⟨av, cv, rfl⟩ := row_form hrow
  have HCk := hid (whycheck_any _ _ _ 2 0 2 fixedP [[1], [1]] _ L w5 w5.heap.size ad ((HPW.out.ext hx5).lift hx5.size) (HAA.out.ext (HX.out.trans hx5)) Hg.out Hc.out hrs (by omega) (Nat.le_refl _))
  have Hl2 := hid hl2
  rw [hl2] at HCk
  rw [hl2]
  have Hx5 := hid hx5
  unfold pval at HCk
  have p0 := (HBp.out.ext hx5).av 0 rfl
  have p1 := (HBp.out.ext hx5).av 1 rfl
  have p2 := (HBp.out.ext hx5).av 2 rfl
  simp only [List.getElem_toArray, List.getElem_cons_zero, List.getElem_cons_succ] at p0 p1 p2
  clear HD hf hx5 hLm hok hrow hrs hl2
  go_wp2_with fail
  refine HCk.out.mono ?_
  intro e w6 hx
  obtain ⟨v, rfl, hpe, hx6⟩ := hx
  obtain rfl := hpe.ok (by have := Hl2.out; omega) Hst.out
  have Hx6 := hid (Hx5.out.trans hx6)
  have HCo := hid (coded2_any w6 .nilIface 0 ((code_nil w6).mono fun e w' ⟨h1, h2⟩ => ⟨h1, by rw [← h2]; exact Ext.refl _⟩))
  clear HCk hpe hx6 p0 p1 p2
  go_wp2_with fail
  refine HCo.out.mono ?_
  intro e w7 hx
  obtain ⟨rfl, hx7⟩ := hx
  have HX7 := hid (HX.out.trans (Hx6.out.trans hx7))
  clear HCo hx7
  go_wp2
  go_ret
  exact ⟨rfl, HX7.out⟩
end Go.Proofs.YtngdpnlgnpdkcaaGreatDoor



/- Proofs: the reference looks whether a step follows. -/
namespace Go.Proofs.YtngdpnlgnpdkcaaGreatDoor
set_option linter.unusedSimpArgs false
set_option linter.unusedVariables false
open Go Go.RowKit

end Go.Proofs.YtngdpnlgnpdkcaaGreatDoor



/- Proofs: the reference looks whether a step follows by a call. -/
namespace Go.Proofs.YtngdpnlgnpdkcaaGreatDoor
set_option linter.unusedSimpArgs false
set_option linter.unusedVariables false
open Go Go.RowKit

end Go.Proofs.YtngdpnlgnpdkcaaGreatDoor



/- Proofs: what the reference tells of a step that is within its bounds, and of its kind's shape. -/
namespace Go.Proofs.YtngdpnlgnpdkcaaGreatDoor
set_option linter.unusedSimpArgs false
set_option linter.unusedVariables false
open Go Go.RowKit

end Go.Proofs.YtngdpnlgnpdkcaaGreatDoor



/- The reference: what sets are wrong in (SetsFault). -/
namespace Go.Proofs.YtngdpnlgnpdkcaaGreatDoor
set_option linter.unusedSimpArgs false
set_option linter.unusedVariables false
open Go Go.RowKit

/-- What sets are wrong in, in numbers. -/
def SFaultIs (P : PP) (has : List (List Int)) (c : Nat) (p : Int) : Prop :=
  (has.length ≠ P.nodesV ∧ c = 3 ∧ p = -1) ∨ (has.length = P.nodesV ∧ (∀ l ∈ has, P.setE l = 0) ∧ c = 0 ∧ p = -1) ∨
  (has.length = P.nodesV ∧ ∃ (i : Nat) (l : List Int), has[i]? = some l ∧ P.setE l ≠ 0 ∧ (∀ j m, j < i → has[j]? = some m → P.setE m = 0) ∧ c = P.setE l ∧ p = (i : Int))
theorem setE_two {P : PP} {l : List Int} (h : chkE l = 0) {x : Int} (hx : x ∈ l) (hm : (P.objectsV : Int) ≤ x) : P.setE l = 2 := by
  have h0 : P.setE l ≠ 0 := fun e => by have := (setE_zero e).2 x hx; omega
  unfold PP.setE at h0 ⊢
  rw [if_pos h] at h0 ⊢
  by_cases hb : 0 < l.length ∧ (P.objectsV : Int) ≤ l.getD (l.length - 1) 0
  · rw [if_pos hb]
  · rw [if_neg hb] at h0; exact absurd rfl h0
theorem setE_chk {P : PP} {l : List Int} (h : chkE l ≠ 0) : P.setE l = chkE l := by unfold PP.setE; rw [if_neg h]
/-- How far the reference is with one set. -/
def SStep (P : PP) (l : List Int) (k e : Nat) : Prop := (e = chkE l ∧ chkE l ≠ 0 ∧ k = 0) ∨ (chkE l = 0 ∧ ((e = 0 ∧ ∀ x ∈ l.take k, x < (P.objectsV : Int)) ∨ (e = 2 ∧ ∃ x ∈ l, (P.objectsV : Int) ≤ x)))
theorem SStep.end {P : PP} {l : List Int} {k e : Nat} (h : SStep P l k e) (hk : e ≠ 0 ∨ k = l.length) : P.setE l = e := by
  rcases h with ⟨rfl, h2, _⟩ | ⟨h1, ⟨rfl, h3⟩ | ⟨rfl, x, hx, hm⟩⟩
  · exact setE_chk h2
  · rcases hk with hk | hk
    · exact absurd rfl hk
    · refine setE_of h1 fun x hx => h3 x ?_
      rw [hk, List.take_length]; exact hx
  · exact setE_two h1 hx hm
end Go.Proofs.YtngdpnlgnpdkcaaGreatDoor



/- Proofs: what the reference finds wrong with any steps. -/
namespace Go.Proofs.YtngdpnlgnpdkcaaGreatDoor
set_option linter.unusedSimpArgs false
set_option linter.unusedVariables false
open Go Go.RowKit

end Go.Proofs.YtngdpnlgnpdkcaaGreatDoor



/- The reference's round, walked. -/
namespace Go.Proofs.YtngdpnlgnpdkcaaGreatDoor
set_option linter.unusedSimpArgs false
set_option linter.unusedVariables false
open Go Go.RowKit

theorem BagAt.inr {P : PP} {has : List (List Int)} {EL : List (Int × Int)} {k m : Nat} {B : List (List Int)} (h : BagAt P has EL k m B) {l : List Int} (hl : l ∈ B) : InR l := fun x hx => by
  obtain ⟨S, h1, h2, h3⟩ := h.set
  obtain ⟨i, hi, rfl⟩ := List.getElem_of_mem hl
  have hx' : x ∈ B.getD i [] := by rw [List.getD_eq_getElem?_getD, List.getElem?_eq_getElem hi]; exact hx
  exact (chkE_zero.1 (h1.ok _ (getD_mem (by rw [← h2]; exact hi)))).1 x ((h3 i x).1 hx')
/-- Rows of rows in blocks that are new. -/
def NewS (w : World) (base : Nat) (v : Value) : Prop := ∀ y n c, v = .slice (some y) n c → 0 < n → base ≤ y.block ∧ ∀ i u, i < n → w.cell? (y.add i) = some u → ∀ b, u.ownBlock = some b → base ≤ b
theorem NewS.ext {w w' : World} {base n0 : Nat} {v : Value} {L : List (List Int)} (h : NewS w base v) (hs : SetsR w n0 v L) (x : Ext w w') : NewS w' base v := by
  intro y n c e h0
  obtain ⟨k1, k2⟩ := h y n c e h0
  refine ⟨k1, fun i u hi hu b hb => ?_⟩
  obtain ⟨a, cap, g1, g2, g3, g4, g5⟩ := hs
  subst e
  obtain ⟨rfl, rfl, rfl⟩ : some y = a ∧ n = L.length ∧ c = cap := by simpa using g1
  obtain ⟨u0, hu0, _⟩ := (g5 y rfl h0).2 i hi _ (List.getElem?_eq_getElem hi)
  have := x.cellx hu0
  rw [hu] at this
  obtain rfl := Option.some.inj this
  exact k2 i _ hi hu0 b hb
theorem NewS.low {w : World} {base b2 : Nat} {v : Value} (h : NewS w base v) (hb : b2 ≤ base) : NewS w b2 v := fun y n c e h0 => ⟨Nat.le_trans hb (h y n c e h0).1, fun i u hi hu b hb' => Nat.le_trans hb ((h y n c e h0).2 i u hi hu b hb')⟩
theorem NewS.made {w : World} {base n : Nat} {v : Value} {vs : List Value} (h : w.ownsRow base 43 1 v n vs) (hn : ∀ u ∈ vs, ∀ b, u.ownBlock = some b → base ≤ b) : NewS w base v := by
  intro y m c e h0
  rcases h.2 with ⟨rfl, h0⟩ | ⟨g, cap, cur, rfl, hb, hg, hn', hc, hcs, ht⟩
  · cases e
  · obtain ⟨rfl, rfl, rfl⟩ : (⟨g, 0, none⟩ : Addr) = y ∧ n = m ∧ cap = c := by simpa using e
    refine ⟨hb, fun i u hi hu b hub => ?_⟩
    have hl : vs.length = n := by have := h.1; omega
    have h2 := own_get h i (List.getElem?_eq_getElem (show i < vs.length by omega))
    rw [show (⟨g, 0, none⟩ : Addr).add i = ⟨g, i, none⟩ from by by_cases h0 : i = 0 <;> simp [Addr.add, h0], h2] at hu
    obtain rfl := Option.some.inj hu
    exact hn _ (List.getElem_mem _) b hub
end Go.Proofs.YtngdpnlgnpdkcaaGreatDoor



/- The reference's least answer, walked. -/
namespace Go.Proofs.YtngdpnlgnpdkcaaGreatDoor
set_option linter.unusedSimpArgs false
set_option linter.unusedVariables false
open Go Go.RowKit

end Go.Proofs.YtngdpnlgnpdkcaaGreatDoor



/- RunDoes: numbers copied and a program run, whatever order Go takes. -/
namespace Go.Proofs.YtngdpnlgnpdkcaaGreatDoor
set_option linter.unusedSimpArgs false
set_option linter.unusedVariables false
open Go Go.RowKit

theorem FaultIs.zero {P : PP} {p : Int} (h : FaultIs P 0 p) : P.err1 = 0 ∧ P.allWell ∧ p = -1 := by
  rcases h with ⟨h1, h2, _⟩ | ⟨h1, h2, _, h4⟩ | ⟨h1, i, s, h2, h3, _⟩
  · exact absurd h2.symm h1
  · exact ⟨h1, h2, h4⟩
  · exact absurd h3.symm h2.2.1
end Go.Proofs.YtngdpnlgnpdkcaaGreatDoor



/- The reference's fault of a program: the walk. -/
namespace Go.Proofs.YtngdpnlgnpdkcaaGreatDoor
set_option linter.unusedSimpArgs false
set_option linter.unusedVariables false
open Go Go.RowKit

end Go.Proofs.YtngdpnlgnpdkcaaGreatDoor



/- RunDoes: the law walked: where the script, or the kind, is long. -/
namespace Go.Proofs.YtngdpnlgnpdkcaaGreatDoor
set_option linter.unusedSimpArgs false
set_option linter.unusedVariables false
open Go Go.RowKit

end Go.Proofs.YtngdpnlgnpdkcaaGreatDoor



/- ConsMore: the law walked. -/
namespace Go.Proofs.YtngdpnlgnpdkcaaGreatDoor
set_option linter.unusedSimpArgs false
set_option linter.unusedVariables false
open Go Go.RowKit

end Go.Proofs.YtngdpnlgnpdkcaaGreatDoor



/- ConsTells: what is told, in numbers; the law where the program is not well. -/
namespace Go.Proofs.YtngdpnlgnpdkcaaGreatDoor
set_option linter.unusedSimpArgs false
set_option linter.unusedVariables false
open Go Go.RowKit

theorem SFaultIs.uniq {P : PP} {has : List (List Int)} {c d : Nat} {p q : Int} (h : SFaultIs P has c p) (g : SFaultIs P has d q) : c = d ∧ p = q := by
  rcases h with ⟨h1, h2, h3⟩ | ⟨h1, h2, h3, h4⟩ | ⟨h1, i, l, h2, h3, h4, h5, h6⟩ <;> rcases g with ⟨g1, g2, g3⟩ | ⟨g1, g2, g3, g4⟩ | ⟨g1, j, m, g2, g3, g4, g5, g6⟩
  · exact ⟨h2.trans g2.symm, h3.trans g3.symm⟩
  · exact absurd g1 h1
  · exact absurd g1 h1
  · exact absurd h1 g1
  · exact ⟨h3.trans g3.symm, h4.trans g4.symm⟩
  · exact absurd (h2 m (List.mem_of_getElem? g2)) g3
  · exact absurd h1 g1
  · exact absurd (g2 l (List.mem_of_getElem? h2)) h3
  · have hij : i = j := by
      rcases Nat.lt_trichotomy i j with k | k | k
      · exact absurd (g4 i l k h2) h3
      · exact k
      · exact absurd (h4 j m k g2) g3
    subst hij
    obtain rfl := Option.some.inj (h2.symm.trans g2)
    exact ⟨h5.trans g5.symm, h6.trans g6.symm⟩
end Go.Proofs.YtngdpnlgnpdkcaaGreatDoor



/- FixLeast: the error and the fault; a round of rules where the program is not well, or the sets are at fault. -/
namespace Go.Proofs.YtngdpnlgnpdkcaaGreatDoor
set_option linter.unusedSimpArgs false
set_option linter.unusedVariables false
open Go Go.RowKit

theorem SetsIs.ext {ad : Nat → Addr} {P : PP} {has : List (List Int)} {w w' : World} {v : Value} (h : SetsIs ad P has w v) (x : Ext w w') : SetsIs ad P has w' v := by
  rcases h with h | h | ⟨h1, i, l, b, h2, h3, h4, h5, h6⟩
  · exact .inl h
  · exact .inr (.inl h)
  · exact .inr (.inr ⟨h1, i, l, b, h2, h3, h4, h5, h6.ext x⟩)
end Go.Proofs.YtngdpnlgnpdkcaaGreatDoor

