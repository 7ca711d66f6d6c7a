/- Texts of one proof, put together: WI IS AS PC CD WJ V9 WK WL W5 WM ZZ7 ZZYt ZZYu. -/
import Derived.Test.YtihdpijgngooaaaGreatDoorHHT01
import Derived.Test.YtihdpijgngooaaaGreatDoorHHT02
import Derived.Test.YtihdpijgngooaaaGreatDoorHHT04
import Derived.Test.YtihdpijgngooaaaGreatDoorHHT05
import Derived.Test.YtihdpijgngooaaaGreatDoorHHT06
import Derived.Test.YtihdpijgngooaaaGreatDoorHHT12
import Derived.Test.YtihdpijgngooaaaGreatDoorChecked
import Derived.LaidEql
import Derived.Stop.Asserts
import Derived.RowKitTokens
set_option linter.unusedSimpArgs false
set_option linter.unusedVariables false
namespace Go.Proofs.YtihdpijgngooaaaGreatDoor
open Go Go.RowKit
end Go.Proofs.YtihdpijgngooaaaGreatDoor
namespace Go.Proofs.YtihdpijgngooaaaGreatDoor
open Go Go.RowKit Go.Extern.Stop Go.Stop Go.Extern
theorem isTypeOf (v : Value) (w : World) : (Extern.ReflectliteType.typeOf #[.iface 262 v]).run Tryz.prog w = .ok (.iface 205 (.agg #[.pointer (some ⟨15, 262, none⟩)])) w := by kernel_rfl
theorem isComparable (w : World) : (callFunc 222 #[.agg #[.pointer (some ⟨15, 262, none⟩)]]).run Tryz.prog w = .ok (.value (.bool true)) w := by kernel_rfl
theorem isMethodComparable (v : Value) (w : World) : (Go.method 395 205 v "Comparable").run Tryz.prog w = .ok (222, v) w := by kernel_rfl
theorem isComp : (Tryz.prog.info? 262).map (·.comparable) = some true := by kernel_rfl
theorem isSize : (Tryz.prog.info? 283).map (·.size) = some 1 := by kernel_rfl
theorem noIsE (v : Value) (xT : TypeId) (w : World) : (Instr.typeAssert (.iface 262 v) xT 216 true).run Tryz.prog w = .ok (.tuple #[.nilIface, .bool false]) w := run_typeAssert_lacksB Tryz.underlying216 (by kernel_rfl) (by kernel_rfl) v xT w
theorem noUnwrapE (v : Value) (xT : TypeId) (w : World) : (Instr.typeAssert (.iface 262 v) xT 212 true).run Tryz.prog w = .ok (.tuple #[.nilIface, .bool false]) w := run_typeAssert_lacksB Tryz.underlying212 (by kernel_rfl) (by kernel_rfl) v xT w
theorem noUnwrapsE (v : Value) (xT : TypeId) (w : World) : (Instr.typeAssert (.iface 262 v) xT 214 true).run Tryz.prog w = .ok (.tuple #[.nilIface, .bool false]) w := run_typeAssert_lacksB Tryz.underlying214 (by kernel_rfl) (by kernel_rfl) v xT w
theorem noIsW (v : Value) (xT : TypeId) (w : World) : (Instr.typeAssert (.iface 134 v) xT 216 true).run Tryz.prog w = .ok (.tuple #[.nilIface, .bool false]) w := run_typeAssert_lacksB Tryz.underlying216 (by kernel_rfl) (by kernel_rfl) v xT w
theorem hasUnwrapW (v : Value) (xT : TypeId) (w : World) : (Instr.typeAssert (.iface 134 v) xT 212 true).run Tryz.prog w = .ok (.tuple #[.iface 134 v, .bool true]) w := run_typeAssert_hasB Tryz.underlying212 (by kernel_rfl) v xT w
theorem methodUnwrap (v : Value) (w : World) : (Go.method 395 134 v "Unwrap").run Tryz.prog w = .ok (216, v) w := by kernel_rfl
set_option maxRecDepth 100000 in
theorem is_same (a : Addr) (w : World) :
    Calls Tryz.prog 84 #[.iface 262 (.pointer (some a)), .iface 262 (.pointer (some a))] w fun e w' => e = .returned (.bool true) ∧ w = w' := by
  obtain ⟨i, hi, hcmp⟩ := Option.map_eq_some_iff.1 isComp
  obtain ⟨j, hj, hjs⟩ := Option.map_eq_some_iff.1 isSize
  have h8 := @run_callFunc_extern Tryz.prog 114 _ Extern.ReflectliteType.typeOf Tryz.func114 (by kernel_rfl) (by kernel_rfl) (by kernel_rfl) (by kernel_rfl)
  have tT := isTypeOf
  have cT := isComparable
  have mR := isMethodComparable
  have heq := run_eql_iface_ptr_same (P := Tryz.prog) w a Tryz.underlying38 Tryz.underlying262 hi hcmp hj
  go_enter Tryz.func84, Tryz.ntmps84
  go_wp2
  refine wp_loop_rounds 1 ?_
  rw [rounds_succ]
  go_wp2
  go_ret
  exact ⟨rfl, rfl⟩
set_option maxRecDepth 100000 in
theorem is_other (a b : Addr) (ca cb : Array Value) (ta tb : TypeId) (w : World) (hne : a ≠ b) (ha : w.heap[a.block]? = some (.cells ca ta (0, 0))) (hb : w.heap[b.block]? = some (.cells cb tb (0, 0))) :
    Calls Tryz.prog 84 #[.iface 262 (.pointer (some a)), .iface 262 (.pointer (some b))] w fun e w' => e = .returned (.bool false) ∧ w = w' := by
  obtain ⟨i, hi, hcmp⟩ := Option.map_eq_some_iff.1 isComp
  obtain ⟨j, hj, hjs⟩ := Option.map_eq_some_iff.1 isSize
  have h8 := @run_callFunc_extern Tryz.prog 114 _ Extern.ReflectliteType.typeOf Tryz.func114 (by kernel_rfl) (by kernel_rfl) (by kernel_rfl) (by kernel_rfl)
  have tT := isTypeOf
  have cT := isComparable
  have mR := isMethodComparable
  have nE := noIsE
  have uE := noUnwrapE
  have vE := noUnwrapsE
  have nW := noIsW
  have uW := hasUnwrapW
  have mU := methodUnwrap
  have heq := run_eql_iface_ptr_other (P := Tryz.prog) w Tryz.underlying38 Tryz.underlying262 hi hcmp hj (by rw [hjs]; decide) hne ha hb
  go_enter Tryz.func84, Tryz.ntmps84
  go_wp2
  refine wp_loop_rounds 1 ?_
  rw [rounds_succ]
  go_wp2
  go_ret
  exact ⟨rfl, rfl⟩
set_option maxRecDepth 100000 in
theorem is_wrap_same (pb : Nat) (b : Addr) (w : World) (h1 : w.cell? ⟨pb, 1, none⟩ = some (.iface 262 (.pointer (some b)))) :
    Calls Tryz.prog 84 #[.iface 134 (.pointer (some ⟨pb, 0, none⟩)), .iface 262 (.pointer (some b))] w fun e w' => e = .returned (.bool true) ∧ w = w' := by
  obtain ⟨i, hi, hcmp⟩ := Option.map_eq_some_iff.1 isComp
  obtain ⟨j, hj, hjs⟩ := Option.map_eq_some_iff.1 isSize
  have h8 := @run_callFunc_extern Tryz.prog 114 _ Extern.ReflectliteType.typeOf Tryz.func114 (by kernel_rfl) (by kernel_rfl) (by kernel_rfl) (by kernel_rfl)
  have tT := isTypeOf
  have cT := isComparable
  have mR := isMethodComparable
  have nE := noIsE
  have uE := noUnwrapE
  have vE := noUnwrapsE
  have nW := noIsW
  have uW := hasUnwrapW
  have mU := methodUnwrap
  have heq := run_eql_iface_ptr_same (P := Tryz.prog) w b Tryz.underlying38 Tryz.underlying262 hi hcmp hj
  have hty := run_eql_iface_types (P := Tryz.prog) 134 262 (.pointer (some ⟨pb, 0, none⟩)) (.pointer (some b)) Tryz.underlying38 (by decide) w
  go_enter Tryz.func84, Tryz.ntmps84
  go_wp2
  refine wp_loop_rounds 2 ?_
  rw [rounds_succ]
  go_wp2
  rw [rounds_succ]
  go_wp2
  go_ret
  exact ⟨rfl, rfl⟩
set_option maxRecDepth 100000 in
theorem is_wrap_other (pb : Nat) (b a : Addr) (ca cb : Array Value) (ta tb : TypeId) (w : World) (h1 : w.cell? ⟨pb, 1, none⟩ = some (.iface 262 (.pointer (some a)))) (hne : a ≠ b) (ha : w.heap[a.block]? = some (.cells ca ta (0, 0))) (hb : w.heap[b.block]? = some (.cells cb tb (0, 0))) :
    Calls Tryz.prog 84 #[.iface 134 (.pointer (some ⟨pb, 0, none⟩)), .iface 262 (.pointer (some b))] w fun e w' => e = .returned (.bool false) ∧ w = w' := by
  obtain ⟨i, hi, hcmp⟩ := Option.map_eq_some_iff.1 isComp
  obtain ⟨j, hj, hjs⟩ := Option.map_eq_some_iff.1 isSize
  have h8 := @run_callFunc_extern Tryz.prog 114 _ Extern.ReflectliteType.typeOf Tryz.func114 (by kernel_rfl) (by kernel_rfl) (by kernel_rfl) (by kernel_rfl)
  have tT := isTypeOf
  have cT := isComparable
  have mR := isMethodComparable
  have nE := noIsE
  have uE := noUnwrapE
  have vE := noUnwrapsE
  have nW := noIsW
  have uW := hasUnwrapW
  have mU := methodUnwrap
  have heq := run_eql_iface_ptr_other (P := Tryz.prog) w Tryz.underlying38 Tryz.underlying262 hi hcmp hj (by rw [hjs]; decide) hne ha hb
  have hty := run_eql_iface_types (P := Tryz.prog) 134 262 (.pointer (some ⟨pb, 0, none⟩)) (.pointer (some b)) Tryz.underlying38 (by decide) w
  go_enter Tryz.func84, Tryz.ntmps84
  go_wp2
  refine wp_loop_rounds 2 ?_
  rw [rounds_succ]
  go_wp2
  rw [rounds_succ]
  go_wp2
  go_ret
  exact ⟨rfl, rfl⟩
theorem as_valueOf27 (t : Addr) (w : World) : (ReflectliteValue.unpack (.iface 136 (.pointer (some t)))).run Tryz.prog w
    = .ok (.agg #[.pointer (some ⟨15, 136, none⟩), .pointer (some ⟨w.heap.size, 0, none⟩), .int .u64 150]) (w.alloc (.cells #[.pointer (some t)] 136)) := by kernel_rfl
theorem as_type27 (a : Addr) (w : World) : (ReflectliteValue.methodAny (ReflectliteValue.valueError "reflectlite.Value.Type" 0) (fun t _ _ _ => ReflectliteType.toType t) #[.agg #[.pointer (some ⟨15, 136, none⟩), .pointer (some a), .int .u64 150]]).run Tryz.prog w
    = .ok (.iface 205 (.agg #[.pointer (some ⟨15, 136, none⟩)])) w := by kernel_rfl
theorem as_methodKind (h : Value) (w : World) : (Go.method 395 205 (.agg #[h]) "Kind").run Tryz.prog w = .ok (212, h) w := by kernel_rfl
theorem as_kind27 (w : World) : ((ReflectliteType.abiMethod fun t => (fun a : Nat => Value.int IntKind.u8 (a : Int)) <$> Rtype.kind t) #[.pointer (some ⟨15, 136, none⟩)]).run Tryz.prog w = .ok (.int .u8 22) w := by kernel_rfl
theorem as_kind25 (w : World) : ((ReflectliteType.abiMethod fun t => (fun a : Nat => Value.int IntKind.u8 (a : Int)) <$> Rtype.kind t) #[.pointer (some ⟨15, 134, none⟩)]).run Tryz.prog w = .ok (.int .u8 22) w := by kernel_rfl
theorem rlm (z : Sem Value) (f : TypeId → Addr → Nat → Nat → Sem Value) (v : Value) :
    ReflectliteValue.method z f #[v] = (do match ← ReflectliteValue.parts v with | none => z | some (t, a, fl) => f t a fl (fl % 32)) := rfl
theorem as_parts27 (a : Addr) (w : World) : (ReflectliteValue.parts (.agg #[.pointer (some ⟨15, 136, none⟩), .pointer (some a), .int .u64 150])).run Tryz.prog w = .ok (some (136, a, 150)) w := by kernel_rfl
theorem as_isNil27 (a p : Addr) (W : World) (ha : W.cell? a = some (.pointer (some p))) :
    (ReflectliteValue.method (ReflectliteValue.valueError "reflectlite.Value.IsNil" 0) ReflectliteValue.isNil #[.agg #[.pointer (some ⟨15, 136, none⟩), .pointer (some a), .int .u64 150]]).run Tryz.prog W = .ok (.bool false) W := by
  rw [rlm]
  simp only [Sem.run_bind, as_parts27, Result.andThen]
  simp [ReflectliteValue.isNil, loadVar, isAgg, underlying, Tryz.underlying136, ha, Result.andThen]
theorem as_methodElem (h : Value) (w : World) : (Go.method 395 205 (.agg #[h]) "Elem").run Tryz.prog w = .ok (223, .agg #[h]) w := by kernel_rfl
theorem as_methodImplements (h : Value) (w : World) : (Go.method 395 205 (.agg #[h]) "Implements").run Tryz.prog w = .ok (224, .agg #[h]) w := by kernel_rfl
theorem as_methodAssignableTo (h : Value) (w : World) : (Go.method 395 205 (.agg #[h]) "AssignableTo").run Tryz.prog w = .ok (221, .agg #[h]) w := by kernel_rfl
theorem as_elem27 (w : World) : (ReflectliteType.method ReflectliteType.elem #[.agg #[.pointer (some ⟨15, 136, none⟩)]]).run Tryz.prog w = .ok (.iface 205 (.agg #[.pointer (some ⟨15, 134, none⟩)])) w := by kernel_rfl
theorem as_implements25 (w : World) : (ReflectliteType.relation "Implements" ReflectliteType.implements_ #[.agg #[.pointer (some ⟨15, 134, none⟩)], .iface 205 (.agg #[.pointer (some ⟨15, 38, none⟩)])]).run Tryz.prog w = .ok (.bool true) w := by kernel_rfl
theorem as_assignableE (w : World) : (ReflectliteType.relation "AssignableTo" ReflectliteType.assignableTo #[.agg #[.pointer (some ⟨15, 262, none⟩)], .iface 205 (.agg #[.pointer (some ⟨15, 134, none⟩)])]).run Tryz.prog w = .ok (.bool false) w := by kernel_rfl
theorem as_noAsE (v : Value) (xT : TypeId) (w : World) : (Instr.typeAssert (.iface 262 v) xT 209 true).run Tryz.prog w = .ok (.tuple #[.nilIface, .bool false]) w := run_typeAssert_lacksB Tryz.underlying209 (by kernel_rfl) (by kernel_rfl) v xT w
set_option maxRecDepth 100000 in
set_option maxHeartbeats 4000000 in
theorem as_miss (x : Value) (t : Addr) (old : Value) (w : World) (hg : w.cell? ⟨11, 0, none⟩ = some (.iface 205 (.agg #[.pointer (some ⟨15, 38, none⟩)]))) (ht0 : w.cell? t = some old) (hf0 : w.frozen? t = false) :
    Calls Tryz.prog 83 #[.iface 262 x, .iface 136 (.pointer (some t))] w fun ev w' => ev = .returned (.bool false) ∧ Ext w w' := by
  have h6 := @run_callFunc_extern Tryz.prog 110 _ (fun args => ReflectliteValue.unpack (args.getD 0 (.tuple #[]))) Tryz.func110 (by kernel_rfl) (by kernel_rfl) (by kernel_rfl) (by kernel_rfl)
  have h7 := @run_callFunc_extern Tryz.prog 111 _ (ReflectliteValue.methodAny (ReflectliteValue.valueError "reflectlite.Value.Type" 0) (fun t _ _ _ => ReflectliteType.toType t)) Tryz.func111 (by kernel_rfl) (by kernel_rfl) (by kernel_rfl) (by kernel_rfl)
  have h8 := @run_callFunc_extern Tryz.prog 112 _ (ReflectliteValue.method (ReflectliteValue.valueError "reflectlite.Value.IsNil" 0) ReflectliteValue.isNil) Tryz.func112 (by kernel_rfl) (by kernel_rfl) (by kernel_rfl) (by kernel_rfl)
  have h27 := @run_callFunc_extern Tryz.prog 212 _ (ReflectliteType.abiMethod fun t => do pure (.int .u8 (← Rtype.kind t))) Tryz.func212 (by kernel_rfl) (by kernel_rfl) (by kernel_rfl) (by kernel_rfl)
  have h37 := @run_callFunc_extern Tryz.prog 223 _ (ReflectliteType.method ReflectliteType.elem) Tryz.func223 (by kernel_rfl) (by kernel_rfl) (by kernel_rfl) (by kernel_rfl)
  have h38 := @run_callFunc_extern Tryz.prog 224 _ (ReflectliteType.relation "Implements" ReflectliteType.implements_) Tryz.func224 (by kernel_rfl) (by kernel_rfl) (by kernel_rfl) (by kernel_rfl)
  have h10 := @run_callFunc_extern Tryz.prog 114 _ ReflectliteType.typeOf Tryz.func114 (by kernel_rfl) (by kernel_rfl) (by kernel_rfl) (by kernel_rfl)
  have h35 := @run_callFunc_extern Tryz.prog 221 _ (ReflectliteType.relation "AssignableTo" ReflectliteType.assignableTo) Tryz.func221 (by kernel_rfl) (by kernel_rfl) (by kernel_rfl) (by kernel_rfl)
  have h11 := @run_callFunc_extern Tryz.prog 146 _ (ReflectliteValue.method (ReflectliteValue.valueError "reflectlite.Value.Elem" 0) ReflectliteValue.elem) Tryz.func146 (by kernel_rfl) (by kernel_rfl) (by kernel_rfl) (by kernel_rfl)
  have h12 := @run_callFunc_extern Tryz.prog 147 _ ReflectliteValue.set Tryz.func147 (by kernel_rfl) (by kernel_rfl) (by kernel_rfl) (by kernel_rfl)
  have tO := isTypeOf
  have nA := as_noAsE
  have nU := noUnwrapE
  have nV := noUnwrapsE
  have mA := as_methodAssignableTo
  have a25 := as_assignableE
  have f6 := as_valueOf27
  have f7 := as_type27
  have mK := as_methodKind
  have mE := as_methodElem
  have mI := as_methodImplements
  have k27 := as_kind27
  have k25 := as_kind25
  have e27 := as_elem27
  have i25 := as_implements25
  have n8 := as_isNil27 ⟨w.heap.size, 0, none⟩ t ((w.alloc (.cells #[.pointer (some t)] 136)).alloc (.cells #[.pointer (some ⟨15, 136, none⟩), .pointer (some ⟨w.heap.size, 0, none⟩), .int .u64 150] 164)) (by simp)
  have hlt : 11 < w.heap.size := by
    exact cell_lt hg
  have hg2 : ((w.alloc (.cells #[.pointer (some t)] 136)).alloc (.cells #[.pointer (some ⟨15, 136, none⟩), .pointer (some ⟨w.heap.size, 0, none⟩), .int .u64 150] 164)).cell? ⟨11, 0, none⟩ = some (.iface 205 (.agg #[.pointer (some ⟨15, 38, none⟩)])) := by
    rw [World.cell?_alloc_lt _ _ ⟨11, 0, none⟩ (by simp; omega), World.cell?_alloc_lt _ _ ⟨11, 0, none⟩ hlt]; exact hg
  have htl : t.block < w.heap.size := by
    rcases Nat.lt_or_ge t.block w.heap.size with h | h
    · exact h
    · simp [World.cell?, Array.getElem?_eq_none h] at ht0
  go_enter Tryz.func83, Tryz.ntmps83
  go_wp2
  refine wp_loop_rounds 1 ?_
  rw [rounds_succ]
  go_wp2
  go_ret
  exact ⟨rfl, (((Ext.refl _).alloc _).alloc _).alloc _⟩
end Go.Proofs.YtihdpijgngooaaaGreatDoor
namespace Go.Proofs.YtihdpijgngooaaaGreatDoor
open Go Go.RowKit
structure AllErrs (w : World) (ad : Nat → Addr) : Prop where
  var : ∀ c, 1 ≤ c ∧ c ≤ 11 → w.cell? ⟨gE c, 0, none⟩ = some (.iface 262 (.pointer (some (ad c))))
  row : ∀ c, 1 ≤ c ∧ c ≤ 11 → ∃ cs t, w.heap[(ad c).block]? = some (.cells cs t (0, 0))
  inj : ∀ c d, 1 ≤ c ∧ c ≤ 11 → 1 ≤ d ∧ d ≤ 11 → ad c = ad d → c = d
  ty : w.cell? ⟨11, 0, none⟩ = some (.iface 205 (.agg #[.pointer (some ⟨15, 38, none⟩)]))
theorem AllErrs.at1 {w : World} {ad : Nat → Addr} (h : AllErrs w ad) : w.cell? ⟨3, 0, none⟩ = some (.iface 262 (.pointer (some (ad 1)))) := h.var 1 (by omega)
theorem AllErrs.at2 {w : World} {ad : Nat → Addr} (h : AllErrs w ad) : w.cell? ⟨0, 0, none⟩ = some (.iface 262 (.pointer (some (ad 2)))) := h.var 2 (by omega)
theorem AllErrs.at3 {w : World} {ad : Nat → Addr} (h : AllErrs w ad) : w.cell? ⟨2, 0, none⟩ = some (.iface 262 (.pointer (some (ad 3)))) := h.var 3 (by omega)
theorem AllErrs.at4 {w : World} {ad : Nat → Addr} (h : AllErrs w ad) : w.cell? ⟨1, 0, none⟩ = some (.iface 262 (.pointer (some (ad 4)))) := h.var 4 (by omega)
theorem AllErrs.at5 {w : World} {ad : Nat → Addr} (h : AllErrs w ad) : w.cell? ⟨4, 0, none⟩ = some (.iface 262 (.pointer (some (ad 5)))) := h.var 5 (by omega)
theorem AllErrs.at6 {w : World} {ad : Nat → Addr} (h : AllErrs w ad) : w.cell? ⟨5, 0, none⟩ = some (.iface 262 (.pointer (some (ad 6)))) := h.var 6 (by omega)
theorem AllErrs.at7 {w : World} {ad : Nat → Addr} (h : AllErrs w ad) : w.cell? ⟨6, 0, none⟩ = some (.iface 262 (.pointer (some (ad 7)))) := h.var 7 (by omega)
theorem AllErrs.at8 {w : World} {ad : Nat → Addr} (h : AllErrs w ad) : w.cell? ⟨7, 0, none⟩ = some (.iface 262 (.pointer (some (ad 8)))) := h.var 8 (by omega)
theorem AllErrs.at9 {w : World} {ad : Nat → Addr} (h : AllErrs w ad) : w.cell? ⟨8, 0, none⟩ = some (.iface 262 (.pointer (some (ad 9)))) := h.var 9 (by omega)
theorem AllErrs.at10 {w : World} {ad : Nat → Addr} (h : AllErrs w ad) : w.cell? ⟨9, 0, none⟩ = some (.iface 262 (.pointer (some (ad 10)))) := h.var 10 (by omega)
theorem AllErrs.at11 {w : World} {ad : Nat → Addr} (h : AllErrs w ad) : w.cell? ⟨10, 0, none⟩ = some (.iface 262 (.pointer (some (ad 11)))) := h.var 11 (by omega)
theorem AllErrs.ext {w w' : World} {ad : Nat → Addr} (h : AllErrs w ad) (x : Ext w w') : AllErrs w' ad :=
  ⟨fun c hc => x.cellx (h.var c hc), fun c hc => by obtain ⟨cs, t, e⟩ := h.row c hc; exact ⟨cs, t, x.get e⟩, h.inj, x.cellx h.ty⟩
def IsAs (w : World) (ad : Nat → Addr) (e : Value) (c : Nat) : Prop := ∀ w', Ext w w' → ∀ d, 1 ≤ d ∧ d ≤ 11 → Calls Tryz.prog 84 #[e, .iface 262 (.pointer (some (ad d)))] w' fun r w'' => r = .returned (.bool (decide (d = c))) ∧ w' = w''
theorem IsAs.sent {w : World} {ad : Nat → Addr} (h : AllErrs w ad) (c : Nat) (hc : 1 ≤ c ∧ c ≤ 11) : IsAs w ad (.iface 262 (.pointer (some (ad c)))) c := by
  intro w' x d hd
  by_cases e : d = c
  · subst e
    rw [decide_eq_true rfl]
    exact is_same (ad d) w'
  · rw [decide_eq_false e]
    have h' := h.ext x
    obtain ⟨c1, t1, e1⟩ := h'.row c hc
    obtain ⟨c2, t2, e2⟩ := h'.row d hd
    exact is_other (ad c) (ad d) c1 c2 t1 t2 w' (fun e' => e (h.inj d c hd hc e'.symm)) e1 e2
theorem IsAs.fault {w : World} {ad : Nat → Addr} (h : AllErrs w ad) (c : Nat) (hc : 1 ≤ c ∧ c ≤ 11) (b : Nat) (hb : w.cell? ⟨b, 1, none⟩ = some (.iface 262 (.pointer (some (ad c))))) : IsAs w ad (.iface 134 (.pointer (some ⟨b, 0, none⟩))) c := by
  intro w' x d hd
  by_cases e : d = c
  · subst e
    rw [decide_eq_true rfl]
    exact is_wrap_same b (ad d) w' (x.cellx hb)
  · rw [decide_eq_false e]
    have h' := h.ext x
    obtain ⟨c1, t1, e1⟩ := h'.row c hc
    obtain ⟨c2, t2, e2⟩ := h'.row d hd
    exact is_wrap_other b (ad d) (ad c) c1 c2 t1 t2 w' (x.cellx hb) (fun e' => e (h.inj d c hd hc e'.symm)) e1 e2
theorem IsAs.none {w : World} {ad : Nat → Addr} (h : AllErrs w ad) (a : Addr) (ha : ∃ cs t, w.heap[a.block]? = some (.cells cs t (0, 0))) (hne : ∀ c, 1 ≤ c ∧ c ≤ 11 → a ≠ ad c) : IsAs w ad (.iface 262 (.pointer (some a))) 0 := by
  intro w' x d hd
  rw [decide_eq_false (by omega)]
  obtain ⟨c1, t1, e1⟩ := ha
  obtain ⟨c2, t2, e2⟩ := (h.ext x).row d hd
  exact is_other a (ad d) c1 c2 t1 t2 w' (hne d hd) (x.get e1) e2
def codeV (c : Nat) : Int := if c = 0 then -1 else c
set_option maxRecDepth 100000 in
set_option maxHeartbeats 400000 in
theorem code_nil (w : World) : Calls Tryz.prog 52 #[.nilIface] w fun e w' => e = .returned (.tuple #[.int .i64 0, .int .i64 (-1)]) ∧ w = w' := by
  go_enter Tryz.func52, Tryz.ntmps52
  go_wp2
  go_ret2
  exact ⟨rfl, rfl⟩
set_option maxRecDepth 100000 in
set_option maxHeartbeats 3200000 in
theorem code_sent (w : World) (ad : Nat → Addr) (h : AllErrs w ad) (x : Value) (c : Nat) (hc : c ≤ 11) (hi : IsAs w ad (.iface 262 x) c) :
    Calls Tryz.prog 52 #[.iface 262 x] w fun e w' => e = .returned (.tuple #[.int .i64 (codeV c), .int .i64 (-1)]) ∧ Ext w w' := by
  have hA := hid (as_miss x ⟨w.heap.size, 0, none⟩ (.pointer none) (w.alloc (.cells #[.pointer none] 134)) (((Ext.refl w).alloc _).cellx h.ty) (by simp) (by simp))
  go_enter Tryz.func52, Tryz.ntmps52
  go_wp2_with fail
  refine hA.out.mono ?_
  intro e w1 hx
  obtain ⟨rfl, hx1⟩ := hx
  replace hx1 := ((Ext.refl w).alloc _).trans hx1
  clear hA
  have g0 := (h.ext hx1).at1
  have g1 := (h.ext hx1).at2
  have g2 := (h.ext hx1).at3
  have g3 := (h.ext hx1).at4
  have g4 := (h.ext hx1).at5
  have g5 := (h.ext hx1).at6
  have g6 := (h.ext hx1).at7
  have g7 := (h.ext hx1).at8
  have g8 := (h.ext hx1).at9
  have g9 := (h.ext hx1).at10
  have g10 := (h.ext hx1).at11
  obtain ⟨W, hW⟩ : ∃ W, W = w1.alloc (.cells #[.iface 262 (.pointer (some (ad 1))), .iface 262 (.pointer (some (ad 2))), .iface 262 (.pointer (some (ad 3))), .iface 262 (.pointer (some (ad 4))), .iface 262 (.pointer (some (ad 5))), .iface 262 (.pointer (some (ad 6))), .iface 262 (.pointer (some (ad 7))), .iface 262 (.pointer (some (ad 8))), .iface 262 (.pointer (some (ad 9))), .iface 262 (.pointer (some (ad 10))), .iface 262 (.pointer (some (ad 11)))] 38) := ⟨_, rfl⟩
  have hcell : ∀ k, k < 11 → W.cell? ⟨w1.heap.size, k, none⟩ = some (.iface 262 (.pointer (some (ad (k + 1))))) := fun k hk => by
    have hB := Blk.new w1 #[.iface 262 (.pointer (some (ad 1))), .iface 262 (.pointer (some (ad 2))), .iface 262 (.pointer (some (ad 3))), .iface 262 (.pointer (some (ad 4))), .iface 262 (.pointer (some (ad 5))), .iface 262 (.pointer (some (ad 6))), .iface 262 (.pointer (some (ad 7))), .iface 262 (.pointer (some (ad 8))), .iface 262 (.pointer (some (ad 9))), .iface 262 (.pointer (some (ad 10))), .iface 262 (.pointer (some (ad 11)))] 38
    rw [← hW] at hB
    rw [hB.cell k]
    rcases (by omega : k = 0 ∨ k = 1 ∨ k = 2 ∨ k = 3 ∨ k = 4 ∨ k = 5 ∨ k = 6 ∨ k = 7 ∨ k = 8 ∨ k = 9 ∨ k = 10) with rfl | rfl | rfl | rfl | rfl | rfl | rfl | rfl | rfl | rfl | rfl <;> rfl
  have hX : Ext w W := by rw [hW]; exact hx1.alloc _
  have HW := hid hW
  have Hc := fun k hk => hid (hcell k hk)
  have HI := hid (hi _ hX)
  have Hx := hid hX
  clear hcell hW hX hi
  go_wp2
  rw [← HW.out]
  clear g0 g1 g2 g3 g4 g5 g6 g7 g8 g9 g10 HW h hx1
  generalize w1.heap.size = N at *
  go_loop [3, 29] (fun t3 t29 => ∃ k : Nat, t29 = .int .i64 (k : Int) ∧ k ≤ 11 ∧ t3 = .int .i64 (-1) ∧ ∀ d, 1 ≤ d → d ≤ k → d ≠ c) (fun _ t29 => 11 - (intOf t29).toNat)
  case atStart => exact ⟨0, rfl, Nat.zero_le _, rfl, fun d h1 h2 => by omega⟩
  case round =>
    obtain ⟨k, rfl, hk, rfl, hne⟩ := hrel
    have Hne := hid hne
    clear hne
    by_cases hlt : k < 11
    · have hck := (Hc k hlt).out
      have hcall := hid (HI.out (k + 1) (by omega))
      by_cases he : k + 1 = c
      · have hcv : Hid (codeV c = (k : Int) + 1) := hid (by unfold codeV; rw [if_neg (by omega)]; omega)
        rw [decide_eq_true he] at hcall
        clear he
        have hlt2 : (k : Int) < 11 := by omega
        go_wp2_with fail
        refine hcall.out.mono ?_
        rintro e w3 ⟨rfl, rfl⟩
        go_wp2
        go_ret2
        exact ⟨by rw [hcv.out]; rfl, Hx.out⟩
      · rw [decide_eq_false he] at hcall
        have hlt2 : (k : Int) < 11 := by omega
        have He := hid he
        clear he
        go_wp2_with fail
        refine hcall.out.mono ?_
        rintro e w3 ⟨rfl, rfl⟩
        go_wp2
        go_round
        case rel => exact ⟨k + 1, by go_num, by omega, rfl, fun d h1 h2 => by
          by_cases hd : d = k + 1
          · rw [hd]; exact He.out
          · exact Hne.out d h1 (by omega)⟩
        case measure => simp [intOf]; omega
    · obtain rfl : k = 11 := by omega
      have hcv : Hid (codeV c = -1) := hid (by
        unfold codeV
        rw [if_pos]
        rcases Nat.eq_zero_or_pos c with h0 | h0
        · exact h0
        · exact absurd rfl (Hne.out c h0 hc))
      go_wp2
      go_ret2
      exact ⟨by rw [hcv.out]; rfl, Hx.out⟩
theorem code_err (w : World) (ad : Nat → Addr) (h : AllErrs w ad) (c : Nat) (hc : c ≤ 11) :
    Calls Tryz.prog 52 #[errv (evOf ad) c] w fun e w' => e = .returned (.tuple #[.int .i64 (c : Int), .int .i64 (-1)]) ∧ Ext w w' := by
  unfold errv
  by_cases h0 : c = 0
  · subst h0
    rw [if_pos rfl]
    exact (code_nil w).mono fun e w' ⟨h1, h2⟩ => ⟨h1, h2 ▸ Ext.refl _⟩
  · rw [if_neg h0]
    have := code_sent w ad h _ c hc (IsAs.sent h c (by omega))
    unfold codeV at this
    rw [if_neg h0] at this
    exact this
set_option maxRecDepth 100000 in
set_option maxHeartbeats 800000 in
theorem coded3_any (w : World) (ad : Nat → Addr) (h : AllErrs w ad) (c : Nat) (hc : c ≤ 11) (k : Int) :
    Calls Tryz.prog 15 #[errv (evOf ad) c, .int .i64 k] w fun e w' => e = .returned (.bool (decide ((c : Int) = k))) ∧ Ext w w' := by
  have HC := hid (code_err w ad h c hc)
  clear h
  generalize errv (evOf ad) c = ev at *
  by_cases hck : (c : Int) = k
  · have Hck := hid (decide_eq_true hck)
    rw [hck] at HC
    clear hck
    go_enter Tryz.func15, Tryz.ntmps15
    go_wp2_with fail
    refine HC.out.mono ?_
    intro e w1 hx
    obtain ⟨rfl, hx⟩ := hx
    go_wp2
    go_ret
    exact ⟨by rw [Hck.out]; rfl, hx⟩
  · have Hck := hid (decide_eq_false hck)
    go_enter Tryz.func15, Tryz.ntmps15
    go_wp2_with fail
    refine HC.out.mono ?_
    intro e w1 hx
    obtain ⟨rfl, hx⟩ := hx
    go_wp2
    go_ret
    exact ⟨by rw [Hck.out]; rfl, hx⟩
theorem AllErrs.errs {w : World} {ad : Nat → Addr} (h : AllErrs w ad) : Errs w (evOf ad) :=
  ⟨⟨h.at2, h.at3, h.at4, h.at8⟩, h.at1, h.at11⟩
theorem PP.FirstBad.uniq {P : PP} {i j : Nat} {s t : PS} (h : P.FirstBad i s) (g : P.FirstBad j t) : i = j ∧ s = t := by
  obtain ⟨h1, h2, h3⟩ := h
  obtain ⟨g1, g2, g3⟩ := g
  have e : i = j := by
    rcases Nat.lt_trichotomy i j with e | e | e
    · exact absurd (g3 i s e h1) h2
    · exact e
    · exact absurd (h3 j t e g1) g2
  subst e
  exact ⟨rfl, Option.some.inj (h1.symm.trans g1)⟩
theorem PP.FirstBad.not {P : PP} {i : Nat} {s : PS} (h : P.FirstBad i s) : ¬ P.allWell := fun g => by
  obtain ⟨h1, h2, _⟩ := h
  have hi : i < P.stmts.length := by
    rcases Nat.lt_or_ge i P.stmts.length with e | e
    · exact e
    · rw [List.getElem?_eq_none e] at h1; cases h1
  exact h2 (g i s hi h1)
theorem FaultIs.uniq {P : PP} {c d : Nat} {p q : Int} (h : FaultIs P c p) (g : FaultIs P d q) : c = d ∧ p = q := by
  rcases h with ⟨h1, h2, h3⟩ | ⟨h1, h2, h3, h4⟩ | ⟨h1, i, s, h2, h3, h4⟩ <;> rcases g with ⟨g1, g2, g3⟩ | ⟨g1, g2, g3, g4⟩ | ⟨g1, j, t, g2, g3, g4⟩
  · exact ⟨h2.trans g2.symm, h3.trans g3.symm⟩
  · exact absurd g1 h1
  · exact absurd g1 h1
  · exact absurd h1 g1
  · exact ⟨h3.trans g3.symm, h4.trans g4.symm⟩
  · exact absurd h2 g2.not
  · exact absurd h1 g1
  · exact absurd g2 h2.not
  · obtain ⟨rfl, rfl⟩ := h2.uniq g2
    exact ⟨h3.trans g3.symm, h4.trans g4.symm⟩
theorem PP.FirstK.uniq {P : PP} {l : List Int} {i j : Nat} (h : P.FirstK l i) (g : P.FirstK l j) : i = j := by
  obtain ⟨x, h1, h2, h3⟩ := h
  obtain ⟨y, g1, g2, g3⟩ := g
  rcases Nat.lt_trichotomy i j with e | e | e
  · rw [g3 i x e h1] at h2; cases h2
  · exact e
  · rw [h3 j y e g1] at g2; cases g2
def RunFault (P : PP) (l : List Int) (c : Nat) (p : Int) : Prop :=
  (¬ (P.err1 = 0 ∧ P.allWell) ∧ FaultIs P c p) ∨ (P.err1 = 0 ∧ P.allWell ∧ 2000 < l.length ∧ c = 8 ∧ p = -1) ∨
  (P.err1 = 0 ∧ P.allWell ∧ l.length ≤ 2000 ∧ ∃ i : Nat, P.FirstK l i ∧ c = 2 ∧ p = (i : Int))
theorem RunFault.uniq {P : PP} {l : List Int} {c d : Nat} {p q : Int} (h : RunFault P l c p) (g : RunFault P l d q) : c = d ∧ p = q := by
  rcases h with ⟨h1, h2⟩ | ⟨h1, h2, h3, h4, h5⟩ | ⟨h1, h2, h3, i, h4, h5, h6⟩ <;> rcases g with ⟨g1, g2⟩ | ⟨g1, g2, g3, g4, g5⟩ | ⟨g1, g2, g3, j, g4, g5, g6⟩
  · exact h2.uniq g2
  · exact absurd ⟨g1, g2⟩ h1
  · exact absurd ⟨g1, g2⟩ h1
  · exact absurd ⟨h1, h2⟩ g1
  · exact ⟨h4.trans g4.symm, h5.trans g5.symm⟩
  · omega
  · exact absurd ⟨h1, h2⟩ g1
  · omega
  · obtain rfl := h4.uniq g4
    exact ⟨h5.trans g5.symm, h6.trans g6.symm⟩
section
variable {P : Program} {ops : Array Oper} {X : Nat → Prop} {w0 : World} {Q : Act → World → Prop} {L : List Nat}
end
def IntsNew (W : World) (l : List Int) (v : Value) (w : World) : Prop := (∃ a n c, v = .slice a n c) ∧ IntsR w w.heap.size v l ∧ Ext W w
theorem IntsNew.ext {W w w' : World} {l : List Int} {v : Value} (h : IntsNew W l v w) (x : Ext w w') : IntsNew W l v w' := ⟨h.1, ElR.lift (h.2.1.old (x.old _)) x.size, h.2.2.trans x⟩
def RunNew (W : World) (P : PP) (l : List Int) (t : Value) (w : World) : Prop := (∃ a1 n1 c1 a2 n2 c2 a3 n3 c3 ev, t = .tuple #[.agg #[.slice a1 n1 c1, .slice a2 n2 c2, .slice a3 n3 c3], ev] ∧ RunOut P l W.heap.size w (.agg #[.slice a1 n1 c1, .slice a2 n2 c2, .slice a3 n3 c3]) ev) ∧ Ext W w
theorem RunNew.ext {W w w' : World} {P : PP} {l : List Int} {t : Value} (h : RunNew W P l t w) (x : Ext w w') : RunNew W P l t w' := by
  obtain ⟨⟨a1, n1, c1, a2, n2, c2, a3, n3, c3, ev, h1, h2⟩, h3⟩ := h
  exact ⟨⟨a1, n1, c1, a2, n2, c2, a3, n3, c3, ev, h1, h2.ext x⟩, h3.trans x⟩
def tup0 : Value → Value
  | .tuple cs => cs.getD 0 undef
  | _ => undef
def tup1 : Value → Value
  | .tuple cs => cs.getD 1 undef
  | _ => undef
def IsTup (t : Value) : Prop := ∃ u v, t = .tuple #[u, v]
theorem ErrIs.ext {ad : Nat → Addr} {P : PP} {w w' : World} {v : Value} (h : ErrIs ad P w v) (x : Ext w w') : ErrIs ad P w' v := by
  rcases h with h | h | ⟨h1, i, s, b, h2, h3, h4⟩
  · exact .inl h
  · exact .inr (.inl h)
  · exact .inr (.inr ⟨h1, i, s, b, h2, h3, h4.ext x⟩)
theorem RunNo.ext {ad : Nat → Addr} {P : PP} {l : List Int} {w w' : World} {v : Value} (h : RunNo ad P l w v) (x : Ext w w') : RunNo ad P l w' v := by
  rcases h with ⟨h1, h2⟩ | h | ⟨h1, h2, h3, i, b, h4, h5, h6⟩
  · exact .inl ⟨h1, h2.ext x⟩
  · exact .inr (.inl h)
  · exact .inr (.inr ⟨h1, h2, h3, i, b, h4, h5, h6.ext x⟩)
theorem FaultIs.zero {P : PP} {p : Int} (h : FaultIs P 0 p) : P.err1 = 0 ∧ P.allWell ∧ p = -1 := by
  rcases h with ⟨h1, h2, _⟩ | ⟨h1, h2, _, h4⟩ | ⟨h1, i, s, h2, h3, _⟩
  · exact absurd h2.symm h1
  · exact ⟨h1, h2, h4⟩
  · exact absurd h3.symm h2.2.1
theorem FaultIs.pos {P : PP} {c : Nat} {p : Int} (h : FaultIs P c p) (hc : c ≠ 0) : ¬ (P.err1 = 0 ∧ P.allWell) := fun g => by
  rcases h with ⟨h1, _, _⟩ | ⟨_, _, h3, _⟩ | ⟨_, i, s, h2, _, _⟩
  · exact h1 g.1
  · exact hc h3
  · exact h2.not g.2
theorem any_noU {α : Type} {l : List α} {p : α → Bool} (h : ∀ j f, j < l.length → l[j]? = some f → p f = false) : l.any p = false := List.any_eq_false.2 fun f hf => by
  obtain ⟨j, hj, e⟩ := List.mem_iff_getElem.1 hf
  rw [h j f hj (by rw [List.getElem?_eq_getElem hj, e])]
  decide
theorem StrsR.atU {w : World} {n0 : Nat} {a : Option Addr} {n cap : Nat} {l : List ByteArray} (h : StrsR w n0 (.slice a n cap) l) {k : Nat} (hk : k < l.length) : ∃ y q, a = some y ∧ l[k]? = some q ∧ w.cell? (y.add k) = some (.string q) := by
  obtain ⟨a', cap', h1, h2, h3, h4, h5⟩ := h
  obtain ⟨rfl, rfl, rfl⟩ : a = a' ∧ n = l.length ∧ cap = cap' := by simpa using h1
  obtain ⟨y, rfl⟩ := h4 (by omega)
  have hx : l[k]? = some (l[k]'hk) := List.getElem?_eq_getElem hk
  exact ⟨y, _, rfl, hx, (h5 y rfl (by omega)).2 k hk _ hx⟩
set_option maxRecDepth 100000 in
set_option maxHeartbeats 25600000 in
theorem rfprog_big (a1 a2 a3 : Option Addr) (c1 c2 c3 : Nat) (P : PP) (w : World) (h : ProgR w w.heap.size (.slice a1 P.vars.length c1) (.slice a2 P.funs.length c2) (.slice a3 P.stmts.length c3) P)
    (hz1 : ∀ s ∈ P.vars, s.size ≤ 1000000) (hz2 : ∀ s ∈ P.names, s.size ≤ 1000000) (hb : P.big = true) :
    Calls Tryz.prog 9 #[pval a1 a2 a3 c1 c2 c3 P] w fun e w' => Ext w w' ∧ ∃ (c : Nat) (p : Int), e = .returned (.agg #[.int .i64 (c : Int), .int .i64 p]) ∧ FaultIs P c p := by
  have HP0 := hid h
  have Hz1 := hid hz1
  have Hz2 := hid hz2
  have hml1 : (P.vars.length : Int) ≤ 9223372036854775807 := by
    obtain ⟨_, _, _, h2, h3, _⟩ := h.vars
    omega
  have hml2 := h.funs.len
  have hml3 := h.stmts.len
  obtain ⟨W2, hW2⟩ : ∃ W2, W2 = (w.alloc (.cells (pcells a1 a2 a3 c1 c2 c3 P) 26)).alloc (.cells #[.int .i64 0, .int .i64 0] 30) := ⟨_, rfl⟩
  have HW2 : Hid (Ext w W2) := hid (by rw [hW2]; exact ((Ext.refl _).alloc _).alloc _)
  have HB1 : Hid (Blk W2 w.heap.size (pcells a1 a2 a3 c1 c2 c3 P) 26) := hid (by rw [hW2]; exact (Blk.new _ _ _).alloc _)
  have HB2 : Hid (Blk W2 (w.heap.size + 1) #[.int .i64 0, .int .i64 0] 30) := hid (by
    rw [hW2]
    have := Blk.new (w.alloc (.cells (pcells a1 a2 a3 c1 c2 c3 P) 26)) #[.int .i64 0, .int .i64 0] 30
    rwa [heap_size_alloc] at this)
  have HP := hid (h.ext HW2.out)
  have HBa := fun (c : Nat) w1 => hid (rbare_any (c : Int) w1)
  unfold pcells at hW2
  have HWe := hid hW2
  clear h hW2 hz1 hz2
  unfold pval
  go_enter Tryz.func9, Tryz.ntmps9
  have Hf : Hid (FaultIs P 8 (-1)) := hid (by
    have h : P.err1 = 8 := by unfold PP.err1; rw [hb]; rfl
    exact .inl ⟨by rw [h]; decide, h.symm, rfl⟩)
  have hbb := hb
  unfold PP.big at hbb
  simp only [Bool.or_eq_true, decide_eq_true_eq] at hbb
  clear hb
  by_cases b1 : 40 < P.vars.length
  · clear hbb
    go_wp2_with fail
    rw [← HWe.out]
    refine (HBa 8 _).out.mono ?_
    intro e w8 hx8
    obtain ⟨rfl, hx8⟩ := hx8
    have HB8 := HB2.out.ext hx8
    have z0 := HB8.av 0 rfl
    have z1 := HB8.av 1 rfl
    have f0 := HB8.free 0
    have f1 := HB8.free 1
    have HBz := hid (two (v0 := (.int .i64 ((8 : Nat) : Int))) (v1 := (.int .i64 (-1))) HB8)
    have HKz := hid (two_keep w8 (w.heap.size + 1) (.int .i64 ((8 : Nat) : Int)) (.int .i64 (-1)))
    have hE := hid (Keep.new (HW2.out.trans hx8) HKz.out fun b hb => by omega)
    clear HB8
    go_wp2
    have c0 := HBz.out.av 0 rfl
    have c1' := HBz.out.av 1 rfl
    generalize ((w8.setCell ⟨w.heap.size + 1, 0, none⟩ (.int .i64 ((8 : Nat) : Int))).setCell ⟨w.heap.size + 1, 1, none⟩ (.int .i64 (-1))) = W10 at *
    exact bodyPost_ret (v := .agg #[(.int .i64 ((8 : Nat) : Int)), (.int .i64 (-1))]) (by simp [results, Tryz.results9, go_sem, c0, c1']) rfl ⟨hE.out, _, _, rfl, Hf.out⟩
  · by_cases b2 : 6 < P.funs.length
    · clear hbb
      go_wp2_with fail
      rw [← HWe.out]
      refine (HBa 8 _).out.mono ?_
      intro e w8 hx8
      obtain ⟨rfl, hx8⟩ := hx8
      have HB8 := HB2.out.ext hx8
      have z0 := HB8.av 0 rfl
      have z1 := HB8.av 1 rfl
      have f0 := HB8.free 0
      have f1 := HB8.free 1
      have HBz := hid (two (v0 := (.int .i64 ((8 : Nat) : Int))) (v1 := (.int .i64 (-1))) HB8)
      have HKz := hid (two_keep w8 (w.heap.size + 1) (.int .i64 ((8 : Nat) : Int)) (.int .i64 (-1)))
      have hE := hid (Keep.new (HW2.out.trans hx8) HKz.out fun b hb => by omega)
      clear HB8
      go_wp2
      have c0 := HBz.out.av 0 rfl
      have c1' := HBz.out.av 1 rfl
      generalize ((w8.setCell ⟨w.heap.size + 1, 0, none⟩ (.int .i64 ((8 : Nat) : Int))).setCell ⟨w.heap.size + 1, 1, none⟩ (.int .i64 (-1))) = W10 at *
      exact bodyPost_ret (v := .agg #[(.int .i64 ((8 : Nat) : Int)), (.int .i64 (-1))]) (by simp [results, Tryz.results9, go_sem, c0, c1']) rfl ⟨hE.out, _, _, rfl, Hf.out⟩
    · have b3 : 80 < P.stmts.length := by omega
      clear hbb
      go_wp2_with fail
      rw [← HWe.out]
      refine (HBa 8 _).out.mono ?_
      intro e w8 hx8
      obtain ⟨rfl, hx8⟩ := hx8
      have HB8 := HB2.out.ext hx8
      have z0 := HB8.av 0 rfl
      have z1 := HB8.av 1 rfl
      have f0 := HB8.free 0
      have f1 := HB8.free 1
      have HBz := hid (two (v0 := (.int .i64 ((8 : Nat) : Int))) (v1 := (.int .i64 (-1))) HB8)
      have HKz := hid (two_keep w8 (w.heap.size + 1) (.int .i64 ((8 : Nat) : Int)) (.int .i64 (-1)))
      have hE := hid (Keep.new (HW2.out.trans hx8) HKz.out fun b hb => by omega)
      clear HB8
      go_wp2
      have c0 := HBz.out.av 0 rfl
      have c1' := HBz.out.av 1 rfl
      generalize ((w8.setCell ⟨w.heap.size + 1, 0, none⟩ (.int .i64 ((8 : Nat) : Int))).setCell ⟨w.heap.size + 1, 1, none⟩ (.int .i64 (-1))) = W10 at *
      exact bodyPost_ret (v := .agg #[(.int .i64 ((8 : Nat) : Int)), (.int .i64 (-1))]) (by simp [results, Tryz.results9, go_sem, c0, c1']) rfl ⟨hE.out, _, _, rfl, Hf.out⟩
set_option maxRecDepth 100000 in
set_option maxHeartbeats 25600000 in
theorem rfprog_no (a1 a2 a3 : Option Addr) (c1 c2 c3 : Nat) (P : PP) (w : World) (h : ProgR w w.heap.size (.slice a1 P.vars.length c1) (.slice a2 P.funs.length c2) (.slice a3 P.stmts.length c3) P)
    (hz1 : ∀ s ∈ P.vars, s.size ≤ 1000000) (hz2 : ∀ s ∈ P.names, s.size ≤ 1000000) (hb : P.big = false) :
    Calls Tryz.prog 9 #[pval a1 a2 a3 c1 c2 c3 P] w fun e w' => Ext w w' ∧ ∃ (c : Nat) (p : Int), e = .returned (.agg #[.int .i64 (c : Int), .int .i64 p]) ∧ FaultIs P c p := by
  have HP0 := hid h
  have Hz1 := hid hz1
  have Hz2 := hid hz2
  have hml1 : (P.vars.length : Int) ≤ 9223372036854775807 := by
    obtain ⟨_, _, _, h2, h3, _⟩ := h.vars
    omega
  have hml2 := h.funs.len
  have hml3 := h.stmts.len
  obtain ⟨W2, hW2⟩ : ∃ W2, W2 = (w.alloc (.cells (pcells a1 a2 a3 c1 c2 c3 P) 26)).alloc (.cells #[.int .i64 0, .int .i64 0] 30) := ⟨_, rfl⟩
  have HW2 : Hid (Ext w W2) := hid (by rw [hW2]; exact ((Ext.refl _).alloc _).alloc _)
  have HB1 : Hid (Blk W2 w.heap.size (pcells a1 a2 a3 c1 c2 c3 P) 26) := hid (by rw [hW2]; exact (Blk.new _ _ _).alloc _)
  have HB2 : Hid (Blk W2 (w.heap.size + 1) #[.int .i64 0, .int .i64 0] 30) := hid (by
    rw [hW2]
    have := Blk.new (w.alloc (.cells (pcells a1 a2 a3 c1 c2 c3 P) 26)) #[.int .i64 0, .int .i64 0] 30
    rwa [heap_size_alloc] at this)
  have HP := hid (h.ext HW2.out)
  have HBa := fun (c : Nat) w1 => hid (rbare_any (c : Int) w1)
  unfold pcells at hW2
  have HWe := hid hW2
  clear h hW2 hz1 hz2
  unfold pval
  go_enter Tryz.func9, Tryz.ntmps9
  have HBig := hid hb
  have hbb := hb
  unfold PP.big at hbb
  simp only [Bool.or_eq_false_iff, decide_eq_false_iff_not] at hbb
  obtain ⟨⟨b1, b2⟩, b3⟩ := hbb
  clear hb
  go_wp2
  rw [← HWe.out]
  go_loopw [3] (fun t3 wr => ∃ k : Nat, t3 = .int .i64 (k : Int) ∧ k ≤ P.vars.length ∧ (∀ j s, j < k → P.vars[j]? = some s → nameOk s = true) ∧ Ext W2 wr) (fun t3 _ => P.vars.length - (intOf t3).toNat)
  case atStart => exact ⟨0, rfl, Nat.zero_le _, fun j s h => by omega, Ext.refl _⟩
  case round =>
    obtain ⟨k, rfl, hk, hp, hx⟩ := hrel
    have Hp := hid hp
    have Hx := hid hx
    clear hp hx
    have HBr := hid (HB1.out.ext Hx.out)
    have d0 := HBr.out.av 0 rfl
    have d1 := HBr.out.av 1 rfl
    have d2 := HBr.out.av 2 rfl
    simp only [pcells, qA0, qA1, qA2] at d0 d1 d2
    by_cases hlt : k < P.vars.length
    · obtain ⟨y, q, rfl, hq, hc⟩ := (HP.out.ext Hx.out).vars.atU hlt
      have HN := hid (risname_any q wr (by have := Hz1.out q (List.mem_of_getElem? hq); omega))
      have Hq := hid hq
      clear hq
      go_wp2_with fail
      refine HN.out.mono ?_
      intro e w1 hx1
      obtain ⟨rfl, rfl⟩ := hx1
      clear HN
      cases hn : nameOk q with
      | false =>
        have Hbad := hid (anyBad_of Hq.out hn)
        clear hn
        have Hf : Hid (FaultIs P 5 (-1)) := hid (by
          have h : P.err1 = 5 := by unfold PP.err1 namesErr; rw [HBig.out, Hbad.out]; simp
          exact .inl ⟨by rw [h]; decide, h.symm, rfl⟩)
        go_wp2_with fail
        refine (HBa 5 _).out.mono ?_
        intro e w8 hx8
        obtain ⟨rfl, hx8⟩ := hx8
        have HB8 := HB2.out.ext ((Hx.out).trans hx8)
        have z0 := HB8.av 0 rfl
        have z1 := HB8.av 1 rfl
        have f0 := HB8.free 0
        have f1 := HB8.free 1
        have HBz := hid (two (v0 := (.int .i64 ((5 : Nat) : Int))) (v1 := (.int .i64 (-1))) HB8)
        have HKz := hid (two_keep w8 (w.heap.size + 1) (.int .i64 ((5 : Nat) : Int)) (.int .i64 (-1)))
        have hE := hid (Keep.new (HW2.out.trans ((Hx.out).trans hx8)) HKz.out fun b hb => by omega)
        clear HB8
        go_wp2
        have c0 := HBz.out.av 0 rfl
        have c1' := HBz.out.av 1 rfl
        generalize ((w8.setCell ⟨w.heap.size + 1, 0, none⟩ (.int .i64 ((5 : Nat) : Int))).setCell ⟨w.heap.size + 1, 1, none⟩ (.int .i64 (-1))) = W10 at *
        exact bodyPost_ret (v := .agg #[(.int .i64 ((5 : Nat) : Int)), (.int .i64 (-1))]) (by simp [results, Tryz.results9, go_sem, c0, c1']) rfl ⟨hE.out, _, _, rfl, Hf.out⟩
      | true =>
        have Hn := hid hn
        clear hn
        go_wp2
        go_roundw
        case rel =>
          refine ⟨k + 1, by go_num, by omega, fun j s hj hs => ?_, Hx.out⟩
          by_cases hjk : j = k
          · subst hjk
            obtain rfl := Option.some.inj (Hq.out.symm.trans hs)
            exact Hn.out
          · exact Hp.out j s (by omega) hs
        case measure => simp [intOf]; omega
    · obtain rfl : k = P.vars.length := by omega
      have HV := hid (anyBad_no Hp.out)
      clear Hp
      go_wp2
      clear d0 d1 d2 HBr
      go_loopw [5] (fun t5 wr => ∃ k : Nat, t5 = .int .i64 (k : Int) ∧ k ≤ P.funs.length ∧ (∀ j s, j < k → P.names[j]? = some s → nameOk s = true) ∧ Ext W2 wr) (fun t5 _ => P.funs.length - (intOf t5).toNat)
      case atStart => exact ⟨0, rfl, Nat.zero_le _, fun j s h => by omega, Hx.out⟩
      case round =>
        clear Hx
        obtain ⟨k, rfl, hk, hp, hx⟩ := hrel
        have Hp := hid hp
        have Hx := hid hx
        clear hp hx
        have HBr := hid (HB1.out.ext Hx.out)
        have d0 := HBr.out.av 0 rfl
        have d1 := HBr.out.av 1 rfl
        have d2 := HBr.out.av 2 rfl
        simp only [pcells, qA0, qA1, qA2] at d0 d1 d2
        by_cases hlt : k < P.funs.length
        · obtain ⟨y, f, av, cv, rfl, hq, e0, e1, e2, _⟩ := (HP.out.ext Hx.out).funs.at hlt
          have hqn : P.names[k]? = some f.name := by unfold PP.names; rw [List.getElem?_map, hq]; rfl
          have HN := hid (risname_any f.name wr (by have := Hz2.out f.name (List.mem_of_getElem? hqn); omega))
          have Hq := hid hqn
          clear hq hqn e1 e2
          go_wp2_with fail
          refine HN.out.mono ?_
          intro e w1 hx1
          obtain ⟨rfl, rfl⟩ := hx1
          clear HN
          cases hn : nameOk f.name with
          | false =>
            have Hbad := hid (anyBad_of Hq.out hn)
            clear hn
            have Hf : Hid (FaultIs P 5 (-1)) := hid (by
              have h : P.err1 = 5 := by unfold PP.err1 namesErr; rw [HBig.out, HV.out, Hbad.out]; simp
              exact .inl ⟨by rw [h]; decide, h.symm, rfl⟩)
            go_wp2_with fail
            refine (HBa 5 _).out.mono ?_
            intro e w8 hx8
            obtain ⟨rfl, hx8⟩ := hx8
            have HB8 := HB2.out.ext ((Hx.out).trans hx8)
            have z0 := HB8.av 0 rfl
            have z1 := HB8.av 1 rfl
            have f0 := HB8.free 0
            have f1 := HB8.free 1
            have HBz := hid (two (v0 := (.int .i64 ((5 : Nat) : Int))) (v1 := (.int .i64 (-1))) HB8)
            have HKz := hid (two_keep w8 (w.heap.size + 1) (.int .i64 ((5 : Nat) : Int)) (.int .i64 (-1)))
            have hE := hid (Keep.new (HW2.out.trans ((Hx.out).trans hx8)) HKz.out fun b hb => by omega)
            clear HB8
            go_wp2
            have c0 := HBz.out.av 0 rfl
            have c1' := HBz.out.av 1 rfl
            generalize ((w8.setCell ⟨w.heap.size + 1, 0, none⟩ (.int .i64 ((5 : Nat) : Int))).setCell ⟨w.heap.size + 1, 1, none⟩ (.int .i64 (-1))) = W10 at *
            exact bodyPost_ret (v := .agg #[(.int .i64 ((5 : Nat) : Int)), (.int .i64 (-1))]) (by simp [results, Tryz.results9, go_sem, c0, c1']) rfl ⟨hE.out, _, _, rfl, Hf.out⟩
          | true =>
            have Hn := hid hn
            clear hn
            go_wp2
            go_roundw
            case rel =>
              refine ⟨k + 1, by go_num, by omega, fun j s hj hs => ?_, Hx.out⟩
              by_cases hjk : j = k
              · subst hjk
                obtain rfl := Option.some.inj (Hq.out.symm.trans hs)
                exact Hn.out
              · exact Hp.out j s (by omega) hs
            case measure => simp [intOf]; omega
        · obtain rfl : k = P.funs.length := by omega
          have HF := hid (anyBad_no (l := P.names) (fun j s hj hs => Hp.out j s (by simpa [PP.names] using hj) hs))
          clear Hp
          go_wp2
          clear d0 d1 d2 HBr
          go_loopw [7] (fun t7 wr => ∃ i : Nat, t7 = .int .i64 (i : Int) ∧ i ≤ P.vars.length ∧ (∀ (a b : Nat) (s t : ByteArray), a < i → b < a → P.vars[a]? = some s → P.vars[b]? = some t → eqB s t = false) ∧ Ext W2 wr) (fun t7 _ => P.vars.length - (intOf t7).toNat)
          case atStart => exact ⟨0, rfl, Nat.zero_le _, fun a b s t h => by omega, Hx.out⟩
          case round =>
            clear Hx
            obtain ⟨i, rfl, hi, hp, hx⟩ := hrel
            have Hp := hid hp
            have Hx := hid hx
            clear hp hx
            have HBr := hid (HB1.out.ext Hx.out)
            have d0 := HBr.out.av 0 rfl
            have d1 := HBr.out.av 1 rfl
            have d2 := HBr.out.av 2 rfl
            simp only [pcells, qA0, qA1, qA2] at d0 d1 d2
            by_cases hli : i < P.vars.length
            · obtain ⟨yi, qi, rfl, hqi, _⟩ := (HP.out.ext Hx.out).vars.atU hli
              have Hqi := hid hqi
              clear hqi
              go_wp2
              clear d0 d1 d2 HBr
              go_loopw [8] (fun t8 wr => ∃ k : Nat, t8 = .int .i64 (k : Int) ∧ k ≤ i ∧ (∀ (b : Nat) (t : ByteArray), b < k → P.vars[b]? = some t → eqB qi t = false) ∧ Ext W2 wr) (fun t8 _ => i - (intOf t8).toNat)
              case atStart => exact ⟨0, rfl, Nat.zero_le _, fun b t h => by omega, Hx.out⟩
              case round =>
                clear Hx
                obtain ⟨k, rfl, hk, hpk, hx⟩ := hrel
                have Hpk := hid hpk
                have Hx := hid hx
                clear hpk hx
                by_cases hlt : k < i
                · obtain ⟨y, q, hy, hq, hc⟩ := (HP.out.ext Hx.out).vars.atU (show k < P.vars.length by omega)
                  obtain rfl := Option.some.inj hy
                  obtain ⟨y2, q2, hy2, hq2, hc2⟩ := (HP.out.ext Hx.out).vars.atU hli
                  obtain rfl := Option.some.inj hy2
                  obtain rfl : q2 = qi := Option.some.inj (hq2.symm.trans Hqi.out)
                  have hcK : ∀ w1, Keep (fun _ => False) wr w1 → w1.cell? (yi.add k) = some (.string q) := fun w1 k => k.ext.cellx hc
                  have hcI : ∀ w1, Keep (fun _ => False) wr w1 → w1.cell? (yi.add i) = some (.string q2) := fun w1 k => k.ext.cellx hc2
                  have dk := (HB1.out.ext Hx.out).kc (X := fun _ => False) (fun e => e) 0 rfl
                  simp only [pcells, qA0, qA1, qA2] at dk
                  have Hq := hid hq
                  clear hq hc hc2 hq2 hy hy2
                  cases he : eqB q2 q with
                  | true =>
                    have Hd := hid (dupS_of hlt Hqi.out Hq.out he)
                    rw [eqB_comm] at he
                    go_wp2
                    refine wp_flowT (fun _ => False) (by kernel_rfl) (by kernel_rfl) ?_
                    repeat (apply FlowT.d; (intro w1 hk; unfold does; go_simp; (try go_ints); (first | exact DetR.mk | (simp only [↓IntWalk.iteOmega, Oper.doesUpon_value]; exact DetR.mk) | (simp only [↓IntWalk.iteOmega]; go_simp; (try go_ints); exact DetR.mk))); simp only [Act.put, qS0, qS1, qS2])
                    refine FlowT.fin fun w7 hx7 hk7 => ?_
                    have Hx7 := hid (Hx.out.trans hx7)
                    clear hx7 hk7 hcK hcI dk he
                    have Hf : Hid (FaultIs P 7 (-1)) := hid (by
                      have h : P.err1 = 7 := by unfold PP.err1 namesErr; rw [HBig.out, HV.out, HF.out, Hd.out]; cases dupS P.names <;> simp
                      exact .inl ⟨by rw [h]; decide, h.symm, rfl⟩)
                    go_wp2_with fail
                    refine (HBa 7 _).out.mono ?_
                    intro e w8 hx8
                    obtain ⟨rfl, hx8⟩ := hx8
                    have HB8 := HB2.out.ext ((Hx7.out).trans hx8)
                    have z0 := HB8.av 0 rfl
                    have z1 := HB8.av 1 rfl
                    have f0 := HB8.free 0
                    have f1 := HB8.free 1
                    have HBz := hid (two (v0 := (.int .i64 ((7 : Nat) : Int))) (v1 := (.int .i64 (-1))) HB8)
                    have HKz := hid (two_keep w8 (w.heap.size + 1) (.int .i64 ((7 : Nat) : Int)) (.int .i64 (-1)))
                    have hE := hid (Keep.new (HW2.out.trans ((Hx7.out).trans hx8)) HKz.out fun b hb => by omega)
                    clear HB8
                    go_wp2
                    have c0 := HBz.out.av 0 rfl
                    have c1' := HBz.out.av 1 rfl
                    generalize ((w8.setCell ⟨w.heap.size + 1, 0, none⟩ (.int .i64 ((7 : Nat) : Int))).setCell ⟨w.heap.size + 1, 1, none⟩ (.int .i64 (-1))) = W10 at *
                    exact bodyPost_ret (v := .agg #[(.int .i64 ((7 : Nat) : Int)), (.int .i64 (-1))]) (by simp [results, Tryz.results9, go_sem, c0, c1']) rfl ⟨hE.out, _, _, rfl, Hf.out⟩
                  | false =>
                    have He := hid he
                    rw [eqB_comm] at he
                    go_wp2
                    refine wp_flowT (fun _ => False) (by kernel_rfl) (by kernel_rfl) ?_
                    repeat (apply FlowT.d; (intro w1 hk; unfold does; go_simp; (try go_ints); (first | exact DetR.mk | (simp only [↓IntWalk.iteOmega, Oper.doesUpon_value]; exact DetR.mk) | (simp only [↓IntWalk.iteOmega]; go_simp; (try go_ints); exact DetR.mk))); simp only [Act.put, qS0, qS1, qS2])
                    refine FlowT.fin fun w7 hx7 hk7 => ?_
                    have Hx7 := hid (Hx.out.trans hx7)
                    clear hx7 hk7 hcK hcI dk he
                    go_wp2
                    go_roundw
                    case rel =>
                      refine ⟨k + 1, by go_num, by omega, fun b t hb ht => ?_, Hx7.out⟩
                      by_cases hjk : b = k
                      · subst hjk
                        obtain rfl := Option.some.inj (Hq.out.symm.trans ht)
                        exact He.out
                      · exact Hpk.out b t (by omega) ht
                    case measure => simp [intOf]; omega
                · obtain rfl : k = i := by omega
                  go_wp2
                  go_roundw
                  case rel =>
                    refine ⟨k + 1, by go_num, by omega, fun a b s t ha hb hs ht => ?_, Hx.out⟩
                    by_cases hjk : a = k
                    · subst hjk
                      obtain rfl := Option.some.inj (Hqi.out.symm.trans hs)
                      exact Hpk.out b t hb ht
                    · exact Hp.out a b s t (by omega) hb hs ht
                  case measure => simp [intOf]; omega
            · obtain rfl : i = P.vars.length := by omega
              have HDv := hid (dupS_no (l := P.vars) fun a b s t ha hb hs ht => Hp.out a b s t ha hb hs ht)
              clear Hp
              go_wp2
              clear d0 d1 d2 HBr
              go_loopw [9] (fun t9 wr => ∃ i : Nat, t9 = .int .i64 (i : Int) ∧ i ≤ P.funs.length ∧ (∀ (a b : Nat) (s t : ByteArray), a < i → b < a → P.names[a]? = some s → P.names[b]? = some t → eqB s t = false) ∧ Ext W2 wr) (fun t9 _ => P.funs.length - (intOf t9).toNat)
              case atStart => exact ⟨0, rfl, Nat.zero_le _, fun a b s t h => by omega, Hx.out⟩
              case round =>
                clear Hx
                obtain ⟨i, rfl, hi, hp, hx⟩ := hrel
                have Hp := hid hp
                have Hx := hid hx
                clear hp hx
                have HBr := hid (HB1.out.ext Hx.out)
                have d0 := HBr.out.av 0 rfl
                have d1 := HBr.out.av 1 rfl
                have d2 := HBr.out.av 2 rfl
                simp only [pcells, qA0, qA1, qA2] at d0 d1 d2
                by_cases hli : i < P.funs.length
                · obtain ⟨yi, qi, _, _, rfl, hqi, _⟩ := (HP.out.ext Hx.out).funs.at hli
                  have Hqf := hid hqi
                  have Hqi := hid (show P.names[i]? = some qi.name by unfold PP.names; rw [List.getElem?_map, hqi]; rfl)
                  clear hqi
                  go_wp2
                  clear d0 d1 d2 HBr
                  go_loopw [10] (fun t10 wr => ∃ k : Nat, t10 = .int .i64 (k : Int) ∧ k ≤ i ∧ (∀ (b : Nat) (t : ByteArray), b < k → P.names[b]? = some t → eqB qi.name t = false) ∧ Ext W2 wr) (fun t10 _ => i - (intOf t10).toNat)
                  case atStart => exact ⟨0, rfl, Nat.zero_le _, fun b t h => by omega, Hx.out⟩
                  case round =>
                    clear Hx
                    obtain ⟨k, rfl, hk, hpk, hx⟩ := hrel
                    have Hpk := hid hpk
                    have Hx := hid hx
                    clear hpk hx
                    by_cases hlt : k < i
                    · obtain ⟨y, q, _, _, hy, hqf, hc, _⟩ := (HP.out.ext Hx.out).funs.at (show k < P.funs.length by omega)
                      obtain rfl := Option.some.inj hy
                      obtain ⟨y2, q2, _, _, hy2, hq2, hc2, _⟩ := (HP.out.ext Hx.out).funs.at hli
                      obtain rfl := Option.some.inj hy2
                      obtain rfl : q2 = qi := Option.some.inj (hq2.symm.trans Hqf.out)
                      have hq : P.names[k]? = some q.name := by unfold PP.names; rw [List.getElem?_map, hqf]; rfl
                      have hcK : ∀ w1, Keep (fun _ => False) wr w1 → w1.cell? (yi.add (k * 3)) = some (.string q.name) := fun w1 k => k.ext.cellx hc
                      have hcI : ∀ w1, Keep (fun _ => False) wr w1 → w1.cell? (yi.add (i * 3)) = some (.string q2.name) := fun w1 k => k.ext.cellx hc2
                      have dk := (HB1.out.ext Hx.out).kc (X := fun _ => False) (fun e => e) 1 rfl
                      simp only [pcells, qA0, qA1, qA2] at dk
                      have Hq := hid hq
                      clear hq hqf hc hc2 hq2 hy hy2
                      cases he : eqB q2.name q.name with
                      | true =>
                        have Hd := hid (dupS_of hlt Hqi.out Hq.out he)
                        rw [eqB_comm] at he
                        go_wp2
                        refine wp_flowT (fun _ => False) (by kernel_rfl) (by kernel_rfl) ?_
                        repeat (apply FlowT.d; (intro w1 hk; unfold does; go_simp; (try go_ints); (first | exact DetR.mk | (simp only [↓IntWalk.iteOmega, Oper.doesUpon_value]; exact DetR.mk) | (simp only [↓IntWalk.iteOmega]; go_simp; (try go_ints); exact DetR.mk))); simp only [Act.put, qS0, qS1, qS2])
                        refine FlowT.fin fun w7 hx7 hk7 => ?_
                        have Hx7 := hid (Hx.out.trans hx7)
                        clear hx7 hk7 hcK hcI dk he
                        have Hf : Hid (FaultIs P 7 (-1)) := hid (by
                          have h : P.err1 = 7 := by unfold PP.err1 namesErr; rw [HBig.out, HV.out, HF.out, Hd.out]; cases dupS P.vars <;> simp
                          exact .inl ⟨by rw [h]; decide, h.symm, rfl⟩)
                        go_wp2_with fail
                        refine (HBa 7 _).out.mono ?_
                        intro e w8 hx8
                        obtain ⟨rfl, hx8⟩ := hx8
                        have HB8 := HB2.out.ext ((Hx7.out).trans hx8)
                        have z0 := HB8.av 0 rfl
                        have z1 := HB8.av 1 rfl
                        have f0 := HB8.free 0
                        have f1 := HB8.free 1
                        have HBz := hid (two (v0 := (.int .i64 ((7 : Nat) : Int))) (v1 := (.int .i64 (-1))) HB8)
                        have HKz := hid (two_keep w8 (w.heap.size + 1) (.int .i64 ((7 : Nat) : Int)) (.int .i64 (-1)))
                        have hE := hid (Keep.new (HW2.out.trans ((Hx7.out).trans hx8)) HKz.out fun b hb => by omega)
                        clear HB8
                        go_wp2
                        have c0 := HBz.out.av 0 rfl
                        have c1' := HBz.out.av 1 rfl
                        generalize ((w8.setCell ⟨w.heap.size + 1, 0, none⟩ (.int .i64 ((7 : Nat) : Int))).setCell ⟨w.heap.size + 1, 1, none⟩ (.int .i64 (-1))) = W10 at *
                        exact bodyPost_ret (v := .agg #[(.int .i64 ((7 : Nat) : Int)), (.int .i64 (-1))]) (by simp [results, Tryz.results9, go_sem, c0, c1']) rfl ⟨hE.out, _, _, rfl, Hf.out⟩
                      | false =>
                        have He := hid he
                        rw [eqB_comm] at he
                        go_wp2
                        refine wp_flowT (fun _ => False) (by kernel_rfl) (by kernel_rfl) ?_
                        repeat (apply FlowT.d; (intro w1 hk; unfold does; go_simp; (try go_ints); (first | exact DetR.mk | (simp only [↓IntWalk.iteOmega, Oper.doesUpon_value]; exact DetR.mk) | (simp only [↓IntWalk.iteOmega]; go_simp; (try go_ints); exact DetR.mk))); simp only [Act.put, qS0, qS1, qS2])
                        refine FlowT.fin fun w7 hx7 hk7 => ?_
                        have Hx7 := hid (Hx.out.trans hx7)
                        clear hx7 hk7 hcK hcI dk he
                        go_wp2
                        go_roundw
                        case rel =>
                          refine ⟨k + 1, by go_num, by omega, fun b t hb ht => ?_, Hx7.out⟩
                          by_cases hjk : b = k
                          · subst hjk
                            obtain rfl := Option.some.inj (Hq.out.symm.trans ht)
                            exact He.out
                          · exact Hpk.out b t (by omega) ht
                        case measure => simp [intOf]; omega
                    · obtain rfl : k = i := by omega
                      go_wp2
                      go_roundw
                      case rel =>
                        refine ⟨k + 1, by go_num, by omega, fun a b s t ha hb hs ht => ?_, Hx.out⟩
                        by_cases hjk : a = k
                        · subst hjk
                          obtain rfl := Option.some.inj (Hqi.out.symm.trans hs)
                          exact Hpk.out b t hb ht
                        · exact Hp.out a b s t (by omega) hb hs ht
                      case measure => simp [intOf]; omega
                · obtain rfl : i = P.funs.length := by omega
                  have HDf := hid (dupS_no (l := P.names) fun a b s t ha hb hs ht => Hp.out a b s t (by simpa [PP.names] using ha) hb hs ht)
                  have H1 := hid (show P.err1 = P.funsErr by unfold PP.err1 namesErr; rw [HBig.out, HV.out, HF.out, HDv.out, HDf.out]; simp)
                  clear Hp
                  go_wp2
                  clear d0 d1 d2 HBr
                  go_loopw [11] (fun t11 wr => ∃ k : Nat, t11 = .int .i64 (k : Int) ∧ k ≤ P.funs.length ∧ (∀ j f, j < k → P.funs[j]? = some f → bad9 f = false) ∧ Ext W2 wr) (fun t11 _ => P.funs.length - (intOf t11).toNat)
                  case atStart => exact ⟨0, rfl, Nat.zero_le _, fun j s h => by omega, Hx.out⟩
                  case round =>
                    clear Hx
                    obtain ⟨k, rfl, hk, hp, hx⟩ := hrel
                    have Hp := hid hp
                    have Hx := hid hx
                    clear hp hx
                    have HBr := hid (HB1.out.ext Hx.out)
                    have d0 := HBr.out.av 0 rfl
                    have d1 := HBr.out.av 1 rfl
                    have d2 := HBr.out.av 2 rfl
                    simp only [pcells, qA0, qA1, qA2] at d0 d1 d2
                    by_cases hlt : k < P.funs.length
                    · obtain ⟨y, f, av, cv, rfl, hq, e0, e1, e2, _⟩ := (HP.out.ext Hx.out).funs.at hlt
                      have Hq := hid hq
                      clear hq e0 e2
                      by_cases h3 : 3 < f.params.length
                      · have Hb := hid (show P.funsErr = 9 by unfold PP.funsErr; rw [List.any_eq_true.2 ⟨f, List.mem_of_getElem? Hq.out, show bad9 f = true by unfold bad9; exact decide_eq_true h3⟩]; rfl)
                        have Hf : Hid (FaultIs P 9 (-1)) := hid (by
                          have h : P.err1 = 9 := H1.out.trans Hb.out
                          exact .inl ⟨by rw [h]; decide, h.symm, rfl⟩)
                        go_wp2_with fail
                        refine (HBa 9 _).out.mono ?_
                        intro e w8 hx8
                        obtain ⟨rfl, hx8⟩ := hx8
                        have HB8 := HB2.out.ext ((Hx.out).trans hx8)
                        have z0 := HB8.av 0 rfl
                        have z1 := HB8.av 1 rfl
                        have f0 := HB8.free 0
                        have f1 := HB8.free 1
                        have HBz := hid (two (v0 := (.int .i64 ((9 : Nat) : Int))) (v1 := (.int .i64 (-1))) HB8)
                        have HKz := hid (two_keep w8 (w.heap.size + 1) (.int .i64 ((9 : Nat) : Int)) (.int .i64 (-1)))
                        have hE := hid (Keep.new (HW2.out.trans ((Hx.out).trans hx8)) HKz.out fun b hb => by omega)
                        clear HB8
                        go_wp2
                        have c0 := HBz.out.av 0 rfl
                        have c1' := HBz.out.av 1 rfl
                        generalize ((w8.setCell ⟨w.heap.size + 1, 0, none⟩ (.int .i64 ((9 : Nat) : Int))).setCell ⟨w.heap.size + 1, 1, none⟩ (.int .i64 (-1))) = W10 at *
                        exact bodyPost_ret (v := .agg #[(.int .i64 ((9 : Nat) : Int)), (.int .i64 (-1))]) (by simp [results, Tryz.results9, go_sem, c0, c1']) rfl ⟨hE.out, _, _, rfl, Hf.out⟩
                      · have Hb := hid (show bad9 f = false by unfold bad9; exact decide_eq_false h3)
                        go_wp2
                        go_roundw
                        case rel =>
                          refine ⟨k + 1, by go_num, by omega, fun j s hj hs => ?_, Hx.out⟩
                          by_cases hjk : j = k
                          · subst hjk
                            obtain rfl := Option.some.inj (Hq.out.symm.trans hs)
                            exact Hb.out
                          · exact Hp.out j s (by omega) hs
                        case measure => simp [intOf]; omega
                    · obtain rfl : k = P.funs.length := by omega
                      have H9 := hid (any_noU (l := P.funs) (p := bad9) Hp.out)
                      clear Hp
                      go_wp2
                      clear d0 d1 d2 HBr
                      go_loopw [12] (fun t12 wr => ∃ k : Nat, t12 = .int .i64 (k : Int) ∧ k ≤ P.funs.length ∧ (∀ j f, j < k → P.funs[j]? = some f → P.bad2 f = false) ∧ Ext W2 wr) (fun t12 _ => P.funs.length - (intOf t12).toNat)
                      case atStart => exact ⟨0, rfl, Nat.zero_le _, fun j s h => by omega, Hx.out⟩
                      case round =>
                        clear Hx
                        obtain ⟨k, rfl, hk, hp, hx⟩ := hrel
                        have Hp := hid hp
                        have Hx := hid hx
                        clear hp hx
                        have HBr := hid (HB1.out.ext Hx.out)
                        have d0 := HBr.out.av 0 rfl
                        have d1 := HBr.out.av 1 rfl
                        have d2 := HBr.out.av 2 rfl
                        simp only [pcells, qA0, qA1, qA2] at d0 d1 d2
                        by_cases hlt : k < P.funs.length
                        · obtain ⟨y, f, av, cv, rfl, hq, e0, e1, e2, hI⟩ := (HP.out.ext Hx.out).funs.at hlt
                          have Hq := hid hq
                          have HIp := hid hI
                          have g1 : ∀ w1, Keep (fun _ => False) wr w1 → w1.cell? ⟨(y.add (k * 3)).block, (y.add (k * 3)).off + 1, none⟩ = some (.slice av f.params.length cv) := fun w1 k => k.ext.cellx e1
                          have He2 := hid e2
                          have m0 := HBr.out.kc (X := fun _ => False) (fun e => e) 0 rfl
                          have m1 := HBr.out.kc (X := fun _ => False) (fun e => e) 1 rfl
                          have m2 := HBr.out.kc (X := fun _ => False) (fun e => e) 2 rfl
                          simp only [pcells, qA0, qA1, qA2] at m0 m1 m2
                          have HA := fun w1 (x : Ext wr w1) => hid (rarevars_any a1 (some y) a3 c1 c2 c3 P (.slice av f.params.length cv) f.params w1 w.heap.size (HIp.out.old (x.old _)))
                          have HV2 := fun w1 => hid (risvar_any a1 (some y) a3 c1 c2 c3 P f.ret w1)
                          unfold pval at HA HV2
                          clear hq e0 e1 e2 hI
                          go_wp2
                          refine wp_flowT (fun _ => False) (by kernel_rfl) (by kernel_rfl) ?_
                          repeat (apply FlowT.d; (intro w1 hk; unfold does; go_simp; (try go_ints); (first | exact DetR.mk | (simp only [↓IntWalk.iteOmega, Oper.doesUpon_value]; exact DetR.mk) | (simp only [↓IntWalk.iteOmega]; go_simp; (try go_ints); exact DetR.mk))); simp only [Act.put, qS0, qS1, qS2])
                          apply FlowT.d
                          · intro w1 hk
                            unfold does
                            go_simp
                            exact CallR.det ((HA w1 hk.ext).out)
                          simp only [Act.put, qS0, qS1, qS2]
                          repeat (apply FlowT.d; (intro w1 hk; unfold does; go_simp; (try go_ints); (first | exact DetR.mk | (simp only [↓IntWalk.iteOmega, Oper.doesUpon_value]; exact DetR.mk) | (simp only [↓IntWalk.iteOmega]; go_simp; (try go_ints); exact DetR.mk))); simp only [Act.put, qS0, qS1, qS2])
                          refine FlowT.fin fun w7 hx7 hk7 => ?_
                          have Hx7 := hid (Hx.out.trans hx7)
                          have g2 : ∀ w1, Keep (fun _ => False) w7 w1 → w1.cell? ⟨(y.add (k * 3)).block, (y.add (k * 3)).off + 2, none⟩ = some (.int .i64 f.ret) := fun w1 k => (hx7.trans k.ext).cellx He2.out
                          replace m0 := fun w1 (k : Keep (fun _ => False) w7 w1) => m0 w1 ((hx7.keep _).trans k)
                          replace m1 := fun w1 (k : Keep (fun _ => False) w7 w1) => m1 w1 ((hx7.keep _).trans k)
                          replace m2 := fun w1 (k : Keep (fun _ => False) w7 w1) => m2 w1 ((hx7.keep _).trans k)
                          clear hx7 hk7 g1 HA d0 d1 d2
                          go_wp2
                          refine wp_flowT (fun _ => False) (by kernel_rfl) (by kernel_rfl) ?_
                          repeat (apply FlowT.d; (intro w1 hk; unfold does; go_simp; (try go_ints); (first | exact DetR.mk | (simp only [↓IntWalk.iteOmega, Oper.doesUpon_value]; exact DetR.mk) | (simp only [↓IntWalk.iteOmega]; go_simp; (try go_ints); exact DetR.mk))); simp only [Act.put, qS0, qS1, qS2])
                          apply FlowT.d
                          · intro w1 hk
                            unfold does
                            go_simp
                            exact CallR.det ((HV2 w1).out)
                          simp only [Act.put, qS0, qS1, qS2]
                          repeat (apply FlowT.d; (intro w1 hk; unfold does; go_simp; (try go_ints); (first | exact DetR.mk | (simp only [↓IntWalk.iteOmega, Oper.doesUpon_value]; exact DetR.mk) | (simp only [↓IntWalk.iteOmega]; go_simp; (try go_ints); exact DetR.mk))); simp only [Act.put, qS0, qS1, qS2])
                          refine FlowT.fin fun w9 hx9 hk9 => ?_
                          have Hx9 := hid (Hx7.out.trans hx9)
                          clear hx9 hk9 g2 HV2 m0 m1 m2
                          cases ha : P.allV f.params with
                          | false =>
                            have Hb := hid (show P.funsErr = 2 by unfold PP.funsErr; rw [H9.out, List.any_eq_true.2 ⟨f, List.mem_of_getElem? Hq.out, show P.bad2 f = true by unfold PP.bad2; rw [ha]; rfl⟩]; rfl)
                            clear ha
                            have Hf : Hid (FaultIs P 2 (-1)) := hid (by
                              have h : P.err1 = 2 := H1.out.trans Hb.out
                              exact .inl ⟨by rw [h]; decide, h.symm, rfl⟩)
                            go_wp2_with fail
                            refine (HBa 2 _).out.mono ?_
                            intro e w8 hx8
                            obtain ⟨rfl, hx8⟩ := hx8
                            have HB8 := HB2.out.ext ((Hx9.out).trans hx8)
                            have z0 := HB8.av 0 rfl
                            have z1 := HB8.av 1 rfl
                            have f0 := HB8.free 0
                            have f1 := HB8.free 1
                            have HBz := hid (two (v0 := (.int .i64 ((2 : Nat) : Int))) (v1 := (.int .i64 (-1))) HB8)
                            have HKz := hid (two_keep w8 (w.heap.size + 1) (.int .i64 ((2 : Nat) : Int)) (.int .i64 (-1)))
                            have hE := hid (Keep.new (HW2.out.trans ((Hx9.out).trans hx8)) HKz.out fun b hb => by omega)
                            clear HB8
                            go_wp2
                            have c0 := HBz.out.av 0 rfl
                            have c1' := HBz.out.av 1 rfl
                            generalize ((w8.setCell ⟨w.heap.size + 1, 0, none⟩ (.int .i64 ((2 : Nat) : Int))).setCell ⟨w.heap.size + 1, 1, none⟩ (.int .i64 (-1))) = W10 at *
                            exact bodyPost_ret (v := .agg #[(.int .i64 ((2 : Nat) : Int)), (.int .i64 (-1))]) (by simp [results, Tryz.results9, go_sem, c0, c1']) rfl ⟨hE.out, _, _, rfl, Hf.out⟩
                          | true =>
                            have Ha := hid ha
                            clear ha
                            cases hv : P.inV f.ret with
                            | false =>
                              have Hb := hid (show P.funsErr = 2 by unfold PP.funsErr; rw [H9.out, List.any_eq_true.2 ⟨f, List.mem_of_getElem? Hq.out, show P.bad2 f = true by unfold PP.bad2; rw [hv]; simp⟩]; rfl)
                              clear hv
                              have Hf : Hid (FaultIs P 2 (-1)) := hid (by
                                have h : P.err1 = 2 := H1.out.trans Hb.out
                                exact .inl ⟨by rw [h]; decide, h.symm, rfl⟩)
                              go_wp2_with fail
                              refine (HBa 2 _).out.mono ?_
                              intro e w8 hx8
                              obtain ⟨rfl, hx8⟩ := hx8
                              have HB8 := HB2.out.ext ((Hx9.out).trans hx8)
                              have z0 := HB8.av 0 rfl
                              have z1 := HB8.av 1 rfl
                              have f0 := HB8.free 0
                              have f1 := HB8.free 1
                              have HBz := hid (two (v0 := (.int .i64 ((2 : Nat) : Int))) (v1 := (.int .i64 (-1))) HB8)
                              have HKz := hid (two_keep w8 (w.heap.size + 1) (.int .i64 ((2 : Nat) : Int)) (.int .i64 (-1)))
                              have hE := hid (Keep.new (HW2.out.trans ((Hx9.out).trans hx8)) HKz.out fun b hb => by omega)
                              clear HB8
                              go_wp2
                              have c0 := HBz.out.av 0 rfl
                              have c1' := HBz.out.av 1 rfl
                              generalize ((w8.setCell ⟨w.heap.size + 1, 0, none⟩ (.int .i64 ((2 : Nat) : Int))).setCell ⟨w.heap.size + 1, 1, none⟩ (.int .i64 (-1))) = W10 at *
                              exact bodyPost_ret (v := .agg #[(.int .i64 ((2 : Nat) : Int)), (.int .i64 (-1))]) (by simp [results, Tryz.results9, go_sem, c0, c1']) rfl ⟨hE.out, _, _, rfl, Hf.out⟩
                            | true =>
                              have Hb := hid (show P.bad2 f = false by unfold PP.bad2; rw [Ha.out, hv]; rfl)
                              clear hv
                              go_wp2
                              go_roundw
                              case rel =>
                                refine ⟨k + 1, by go_num, by omega, fun j s hj hs => ?_, Hx9.out⟩
                                by_cases hjk : j = k
                                · subst hjk
                                  obtain rfl := Option.some.inj (Hq.out.symm.trans hs)
                                  exact Hb.out
                                · exact Hp.out j s (by omega) hs
                              case measure => simp [intOf]; omega
                        · obtain rfl : k = P.funs.length := by omega
                          have HG2 := hid (any_noU (l := P.funs) (p := P.bad2) Hp.out)
                          clear Hp
                          go_wp2
                          clear d0 d1 d2 HBr
                          go_loopw [15] (fun t15 wr => ∃ i : Nat, t15 = .int .i64 (i : Int) ∧ i ≤ P.funs.length ∧ (∀ j f, j < i → P.funs[j]? = some f → bad7 f = false) ∧ Ext W2 wr) (fun t15 _ => P.funs.length - (intOf t15).toNat)
                          case atStart => exact ⟨0, rfl, Nat.zero_le _, fun j s h => by omega, Hx.out⟩
                          case round =>
                            clear Hx
                            obtain ⟨i, rfl, hi, hp, hx⟩ := hrel
                            have Hp := hid hp
                            have Hx := hid hx
                            clear hp hx
                            have HBr := hid (HB1.out.ext Hx.out)
                            have d0 := HBr.out.av 0 rfl
                            have d1 := HBr.out.av 1 rfl
                            have d2 := HBr.out.av 2 rfl
                            simp only [pcells, qA0, qA1, qA2] at d0 d1 d2
                            by_cases hli : i < P.funs.length
                            · obtain ⟨y, f, av, cv, rfl, hq, e0, e1, e2, hI⟩ := (HP.out.ext Hx.out).funs.at hli
                              have Hq := hid hq
                              have HIp := hid hI
                              have hcv : f.params.length ≤ cv ∧ (cv : Int) ≤ 9223372036854775807 := by
                                obtain ⟨_, _, h1, h2, h3, _⟩ := hI
                                simp only [Value.slice.injEq] at h1
                                obtain ⟨_, _, rfl⟩ := h1
                                exact ⟨h2, h3⟩
                              obtain ⟨hcv1, hcv2⟩ := hcv
                              have Hxi := Hx
                              clear hq e0 e2 hI
                              go_wp2
                              clear d0 d1 d2 HBr e1
                              rename World => wi
                              go_loopw [17] (fun t17 wr => ∃ k : Nat, t17 = .int .i64 (k : Int) ∧ k ≤ f.params.length ∧ (∀ j, j < k → ¬ f.params.getD j 0 ∈ f.params.take j) ∧ Ext wi wr) (fun t17 _ => f.params.length - (intOf t17).toNat)
                              case atStart => exact ⟨0, rfl, Nat.zero_le _, fun b h => by omega, Ext.refl _⟩
                              case round =>
                                obtain ⟨k, rfl, hk, hpk, hx⟩ := hrel
                                have Hpk := hid hpk
                                have Hxk := hid hx
                                clear hpk hx
                                by_cases hlt : k < f.params.length
                                · obtain ⟨yp, q, rfl, hqk, hc⟩ := (HIp.out.old (Hxk.out.old _)).at hlt
                                  have hcK : ∀ w1, Keep (fun _ => False) wr w1 → w1.cell? (yp.add k) = some (.int .i64 q) := fun w1 k => k.ext.cellx hc
                                  have HHs := fun w1 (x : Ext wr w1) => hid (rhas_any (.slice (some yp) k cv) (f.params.take k) q w1 w.heap.size ((HIp.out.old ((Hxk.out.trans x).old _)).take k hk))
                                  have hkc : k ≤ cv := by omega
                                  have hgq : f.params.getD k 0 = q := by rw [List.getD_eq_getElem?_getD, hqk]; rfl
                                  have Hgq := hid hgq
                                  clear hqk hc hgq
                                  go_wp2
                                  refine wp_flowT (fun _ => False) (by kernel_rfl) (by kernel_rfl) ?_
                                  repeat (apply FlowT.d; (intro w1 hk; unfold does; go_simp; (try go_ints); (first | exact DetR.mk | (simp only [↓IntWalk.iteOmega, Oper.doesUpon_value]; exact DetR.mk) | (simp only [↓IntWalk.iteOmega]; go_simp; (try go_ints); exact DetR.mk))); simp only [Act.put, qS0, qS1, qS2])
                                  apply FlowT.d
                                  · intro w1 hk
                                    unfold does
                                    go_simp
                                    exact CallR.det ((HHs w1 hk.ext).out.mono fun e w' ⟨h1, h2⟩ => ⟨h1, h2 ▸ Ext.refl _⟩)
                                  simp only [Act.put, qS0, qS1, qS2]
                                  repeat (apply FlowT.d; (intro w1 hk; unfold does; go_simp; (try go_ints); (first | exact DetR.mk | (simp only [↓IntWalk.iteOmega, Oper.doesUpon_value]; exact DetR.mk) | (simp only [↓IntWalk.iteOmega]; go_simp; (try go_ints); exact DetR.mk))); simp only [Act.put, qS0, qS1, qS2])
                                  refine FlowT.fin fun w7 hx7 hk7 => ?_
                                  have Hx7 := hid (Hxk.out.trans hx7)
                                  have Hx8 := hid (Hx.out.trans Hx7.out)
                                  clear hx7 hk7 hcK HHs
                                  by_cases hin : q ∈ f.params.take k
                                  · have Hb := hid (show P.funsErr = 7 by unfold PP.funsErr; rw [H9.out, HG2.out, List.any_eq_true.2 ⟨f, List.mem_of_getElem? Hq.out, show bad7 f = true from List.any_eq_true.2 ⟨k, List.mem_range.2 hlt, by rw [Hgq.out]; exact decide_eq_true hin⟩⟩]; rfl)
                                    rw [decide_eq_true hin]
                                    clear hin
                                    have Hf : Hid (FaultIs P 7 (-1)) := hid (by
                                      have h : P.err1 = 7 := H1.out.trans Hb.out
                                      exact .inl ⟨by rw [h]; decide, h.symm, rfl⟩)
                                    go_wp2_with fail
                                    refine (HBa 7 _).out.mono ?_
                                    intro e w8 hx8
                                    obtain ⟨rfl, hx8⟩ := hx8
                                    have HB8 := HB2.out.ext ((Hx8.out).trans hx8)
                                    have z0 := HB8.av 0 rfl
                                    have z1 := HB8.av 1 rfl
                                    have f0 := HB8.free 0
                                    have f1 := HB8.free 1
                                    have HBz := hid (two (v0 := (.int .i64 ((7 : Nat) : Int))) (v1 := (.int .i64 (-1))) HB8)
                                    have HKz := hid (two_keep w8 (w.heap.size + 1) (.int .i64 ((7 : Nat) : Int)) (.int .i64 (-1)))
                                    have hE := hid (Keep.new (HW2.out.trans ((Hx8.out).trans hx8)) HKz.out fun b hb => by omega)
                                    clear HB8
                                    go_wp2
                                    have c0 := HBz.out.av 0 rfl
                                    have c1' := HBz.out.av 1 rfl
                                    generalize ((w8.setCell ⟨w.heap.size + 1, 0, none⟩ (.int .i64 ((7 : Nat) : Int))).setCell ⟨w.heap.size + 1, 1, none⟩ (.int .i64 (-1))) = W10 at *
                                    exact bodyPost_ret (v := .agg #[(.int .i64 ((7 : Nat) : Int)), (.int .i64 (-1))]) (by simp [results, Tryz.results9, go_sem, c0, c1']) rfl ⟨hE.out, _, _, rfl, Hf.out⟩
                                  · have Hin := hid hin
                                    rw [decide_eq_false hin]
                                    clear hin
                                    go_wp2
                                    go_roundw
                                    case rel =>
                                      refine ⟨k + 1, by go_num, by omega, fun j hj => ?_, Hx7.out⟩
                                      by_cases hjk : j = k
                                      · subst hjk
                                        rw [Hgq.out]; exact Hin.out
                                      · exact Hpk.out j (by omega)
                                    case measure => simp [intOf]; omega
                                · obtain rfl : k = f.params.length := by omega
                                  have Hb := hid (show bad7 f = false from List.any_eq_false.2 fun j hj => by simp only [decide_eq_true_eq]; exact Hpk.out j (List.mem_range.1 hj))
                                  go_wp2
                                  go_roundw
                                  case rel =>
                                    refine ⟨i + 1, by go_num, by omega, fun j s hj hs => ?_, Hx.out.trans Hxk.out⟩
                                    by_cases hjk : j = i
                                    · subst hjk
                                      obtain rfl := Option.some.inj (Hq.out.symm.trans hs)
                                      exact Hb.out
                                    · exact Hp.out j s (by omega) hs
                                  case measure => simp [intOf]; omega
                            · obtain rfl : i = P.funs.length := by omega
                              have HG7 := hid (any_noU (l := P.funs) (p := bad7) Hp.out)
                              have HE0 := hid (show P.err1 = 0 by rw [H1.out]; unfold PP.funsErr; rw [H9.out, HG2.out, HG7.out]; rfl)
                              clear Hp
                              go_wp2
                              clear d0 d1 d2 HBr
                              go_loopw [18] (fun t18 wr => ∃ k : Nat, t18 = .int .i64 (k : Int) ∧ k ≤ P.stmts.length ∧ (∀ j s, j < k → P.stmts[j]? = some s → P.stmtErr s = 0) ∧ Ext W2 wr) (fun t18 _ => P.stmts.length - (intOf t18).toNat)
                              case atStart => exact ⟨0, rfl, Nat.zero_le _, fun j s h => by omega, Hx.out⟩
                              case round =>
                                clear Hx
                                obtain ⟨k, rfl, hk, hp, hx⟩ := hrel
                                have Hp := hid hp
                                have Hx := hid hx
                                clear hp hx
                                have HBr := hid (HB1.out.ext Hx.out)
                                have d0 := HBr.out.av 0 rfl
                                have d1 := HBr.out.av 1 rfl
                                have d2 := HBr.out.av 2 rfl
                                simp only [pcells, qA0, qA1, qA2] at d0 d1 d2
                                by_cases hlt : k < P.stmts.length
                                · obtain ⟨y, s, av, cv, rfl, hq, e0, e1, e2, e3, hI⟩ := (HP.out.ext Hx.out).stmts.at hlt
                                  have Hq := hid hq
                                  have HIp := hid hI
                                  have hal : (s.args.length : Int) ≤ 9223372036854775807 := by
                                    obtain ⟨_, _, _, h2, h3, _⟩ := hI
                                    omega
                                  have g0 : ∀ w1, Keep (fun _ => False) wr w1 → w1.cell? (y.add (k * 4)) = some (.string s.kind) := fun w1 k => k.ext.cellx e0
                                  have g1 : ∀ w1, Keep (fun _ => False) wr w1 → w1.cell? ⟨(y.add (k * 4)).block, (y.add (k * 4)).off + 1, none⟩ = some (.int .i64 s.x) := fun w1 k => k.ext.cellx e1
                                  have g2 : ∀ w1, Keep (fun _ => False) wr w1 → w1.cell? ⟨(y.add (k * 4)).block, (y.add (k * 4)).off + 2, none⟩ = some (.int .i64 s.y) := fun w1 k => k.ext.cellx e2
                                  have g3 : ∀ w1, Keep (fun _ => False) wr w1 → w1.cell? ⟨(y.add (k * 4)).block, (y.add (k * 4)).off + 3, none⟩ = some (.slice av s.args.length cv) := fun w1 k => k.ext.cellx e3
                                  have m0 := HBr.out.kc (X := fun _ => False) (fun e => e) 0 rfl
                                  have m1 := HBr.out.kc (X := fun _ => False) (fun e => e) 1 rfl
                                  have m2 := HBr.out.kc (X := fun _ => False) (fun e => e) 2 rfl
                                  simp only [pcells, qA0, qA1, qA2] at m0 m1 m2
                                  have HSe := fun w1 (x : Ext wr w1) => hid (rstmterr_any a1 a2 (some y) c1 c2 c3 P s av cv w1 w.heap.size (HIp.out.old (x.old _)) hml2 hal)
                                  unfold pval sval at HSe
                                  clear hq e0 e1 e2 e3 hI d0 d1
                                  go_wp2
                                  refine wp_flowT (fun _ => False) (by kernel_rfl) (by kernel_rfl) ?_
                                  repeat (apply FlowT.d; (intro w1 hk; unfold does; go_simp; (try go_ints); (first | exact DetR.mk | (simp only [↓IntWalk.iteOmega, Oper.doesUpon_value]; exact DetR.mk) | (simp only [↓IntWalk.iteOmega]; go_simp; (try go_ints); exact DetR.mk))); simp only [Act.put, qS0, qS1, qS2])
                                  apply FlowT.d
                                  · intro w1 hk
                                    unfold does
                                    go_simp
                                    exact CallR.det ((HSe w1 hk.ext).out)
                                  simp only [Act.put, qS0, qS1, qS2]
                                  repeat (apply FlowT.d; (intro w1 hk; unfold does; go_simp; (try go_ints); (first | exact DetR.mk | (simp only [↓IntWalk.iteOmega, Oper.doesUpon_value]; exact DetR.mk) | (simp only [↓IntWalk.iteOmega]; go_simp; (try go_ints); exact DetR.mk))); simp only [Act.put, qS0, qS1, qS2])
                                  refine FlowT.fin fun w7 hx7 hk7 => ?_
                                  have Hx7 := hid (Hx.out.trans hx7)
                                  clear hx7 hk7 g0 g1 g2 g3 m0 m1 m2 HSe d2
                                  by_cases hz : P.stmtErr s = 0
                                  · have Hz := hid hz
                                    rw [hz]
                                    clear hz
                                    go_wp2
                                    go_roundw
                                    case rel =>
                                      refine ⟨k + 1, by go_num, by omega, fun j t hj hs => ?_, Hx7.out⟩
                                      by_cases hjk : j = k
                                      · subst hjk
                                        obtain rfl := Option.some.inj (Hq.out.symm.trans hs)
                                        exact Hz.out
                                      · exact Hp.out j t (by omega) hs
                                    case measure => simp [intOf]; omega
                                  · have Hf : Hid (FaultIs P (P.stmtErr s) (k : Int)) := hid (.inr (.inr ⟨HE0.out, k, s, ⟨Hq.out, hz, fun j t hj ht => Hp.out j t hj ht⟩, rfl, rfl⟩))
                                    have hpos : 0 < P.stmtErr s := Nat.pos_of_ne_zero hz
                                    clear hz
                                    generalize P.stmtErr s = ec at *
                                    have HB8 := HB2.out.ext Hx7.out
                                    have z0 := HB8.av 0 rfl
                                    have z1 := HB8.av 1 rfl
                                    have f0 := HB8.free 0
                                    have f1 := HB8.free 1
                                    have HBz := hid (two (v0 := (.int .i64 (ec : Int))) (v1 := (.int .i64 (k : Int))) HB8)
                                    have HKz := hid (two_keep w7 (w.heap.size + 1) (.int .i64 (ec : Int)) (.int .i64 (k : Int)))
                                    have hE := hid (Keep.new (HW2.out.trans Hx7.out) HKz.out fun b hb => by omega)
                                    clear HB8
                                    go_wp2
                                    have c0 := HBz.out.av 0 rfl
                                    have c1' := HBz.out.av 1 rfl
                                    generalize ((w7.setCell ⟨w.heap.size + 1, 0, none⟩ (.int .i64 (ec : Int))).setCell ⟨w.heap.size + 1, 1, none⟩ (.int .i64 (k : Int))) = W10 at *
                                    exact bodyPost_ret (v := .agg #[(.int .i64 (ec : Int)), (.int .i64 (k : Int))]) (by simp [results, Tryz.results9, go_sem, c0, c1']) rfl ⟨hE.out, _, _, rfl, Hf.out⟩
                                · obtain rfl : k = P.stmts.length := by omega
                                  have Hf : Hid (FaultIs P 0 (-1)) := hid (.inr (.inl ⟨HE0.out, fun j t _ ht => Hp.out j t (by
                                    rcases Nat.lt_or_ge j P.stmts.length with h | h
                                    · exact h
                                    · rw [List.getElem?_eq_none h] at ht; cases ht) ht, rfl, rfl⟩))
                                  have HFi := fun w1 => hid (rfine_any w1)
                                  clear Hp
                                  go_wp2_with fail
                                  refine (HFi _).out.mono ?_
                                  intro e w8 hx8
                                  obtain ⟨rfl, hx8⟩ := hx8
                                  have HB8 := HB2.out.ext (Hx.out.trans hx8)
                                  have z0 := HB8.av 0 rfl
                                  have z1 := HB8.av 1 rfl
                                  have f0 := HB8.free 0
                                  have f1 := HB8.free 1
                                  have HBz := hid (two (v0 := (.int .i64 ((0 : Nat) : Int))) (v1 := (.int .i64 (-1))) HB8)
                                  have HKz := hid (two_keep w8 (w.heap.size + 1) (.int .i64 ((0 : Nat) : Int)) (.int .i64 (-1)))
                                  have hE := hid (Keep.new (HW2.out.trans (Hx.out.trans hx8)) HKz.out fun b hb => by omega)
                                  clear HB8
                                  go_wp2
                                  have c0 := HBz.out.av 0 rfl
                                  have c1' := HBz.out.av 1 rfl
                                  generalize ((w8.setCell ⟨w.heap.size + 1, 0, none⟩ (.int .i64 ((0 : Nat) : Int))).setCell ⟨w.heap.size + 1, 1, none⟩ (.int .i64 (-1))) = W10 at *
                                  exact bodyPost_ret (v := .agg #[(.int .i64 ((0 : Nat) : Int)), (.int .i64 (-1))]) (by simp [results, Tryz.results9, go_sem, c0, c1']) rfl ⟨hE.out, _, _, rfl, Hf.out⟩
theorem rfprog_all (a1 a2 a3 : Option Addr) (c1 c2 c3 : Nat) (P : PP) (w : World) (h : ProgR w w.heap.size (.slice a1 P.vars.length c1) (.slice a2 P.funs.length c2) (.slice a3 P.stmts.length c3) P)
    (hz1 : ∀ s ∈ P.vars, s.size ≤ 1000000) (hz2 : ∀ s ∈ P.names, s.size ≤ 1000000) :
    Calls Tryz.prog 9 #[pval a1 a2 a3 c1 c2 c3 P] w fun e w' => Ext w w' ∧ ∃ (c : Nat) (p : Int), e = .returned (.agg #[.int .i64 (c : Int), .int .i64 p]) ∧ FaultIs P c p := by
  cases hb : P.big with
  | true => exact rfprog_big a1 a2 a3 c1 c2 c3 P w h hz1 hz2 hb
  | false => exact rfprog_no a1 a2 a3 c1 c2 c3 P w h hz1 hz2 hb
def sumUp (S : List (List Int)) (k : Nat) : Nat := ((List.range k).map fun n : Nat => (S.getD n []).length).sum
theorem FaultIs.well {P : PP} {c : Nat} {p : Int} (h : FaultIs P c p) (hw : P.Well) : c = 0 ∧ p = -1 := h.uniq (.inr (.inl ⟨hw.1, hw.2, rfl, rfl⟩))
theorem FaultIs.no {P : PP} {c : Nat} {p : Int} (h : FaultIs P c p) (hw : ¬ P.Well) : c ≠ 0 := fun e => by
  subst e
  exact hw ⟨h.zero.1, h.zero.2.1⟩
theorem field_fault (a b : Int) (w : World) : (Instr.field 30 (.agg #[.int .i64 a, .int .i64 b]) 0).run Tryz.prog w = .ok (.int .i64 a) w := by kernel_rfl
theorem take_taken {P : PP} {me k : Int} {s t : SH} {x : NV} (hw : P.Well) (hok : s.Ok P me k) (hx : NOk P k x) (hm : x.to = me) (hr : Runs P me k (s.push x) t) (ht : t.todo = []) : t.Taken x := by
  have hI : t.Ok P me k ∧ t.Dn (fun _ => False) x := hr.keeps (fun u => u.Ok P me k ∧ u.Dn (fun _ => False) x) (fun u hu hne => ⟨(step_less hw hu.1 hne).1, step_dn hw hu.1 hu.2⟩) ⟨push_ok hok hx hm, .inr (.inl (List.mem_append_right _ (List.mem_singleton.2 rfl)))⟩
  rcases hI.2 with h | h | h | h
  · exact h
  · rw [ht] at h; cases h
  · exact absurd hm (hI.1.out x h).2
  · exact h.elim
theorem has_taken {c : SC} {t t2 : SH} {kd x : Int} {l : List Int} (hw : c.P.Well) (hok : t.Ok c.P (c.me : Nat) (c.k : Nat)) (ht : t2.Taken ⟨(c.me : Nat), kd, x :: l⟩) (ho : c.own x = true) (hk : kd ≠ 101) (he : t2.has = t.has) : ∀ q ∈ l, q ∈ c.hasL t x := fun q hq => by
  unfold SC.hasL
  rw [if_pos ho]
  refine (mem_keysL fun e h => ?_).2 ?_
  · have := (hok.has e h).2.1
    have := hw.nodes
    omega
  · rw [← he]
    exact ht.2 hk q hq
theorem coded3_c (w : World) (ad : Nat → Addr) (h : AllErrs w ad) (c : Nat) (h0 : c ≠ 0) (hc : c ≤ 11) (k : Int) (hk : (c : Int) = k) : Calls Tryz.prog 15 #[.iface 262 (.pointer (some (ad c))), .int .i64 k] w fun e w' => e = .returned (.bool true) ∧ Ext w w' := by
  have h1 := coded3_any w ad h c hc k
  unfold errv evOf at h1
  rw [if_neg h0, decide_eq_true hk] at h1
  exact h1
theorem coded3_0 (w : World) (ad : Nat → Addr) (h : AllErrs w ad) : Calls Tryz.prog 15 #[.nilIface, .int .i64 0] w fun e w' => e = .returned (.bool true) ∧ Ext w w' := coded3_any w ad h 0 (by omega) 0
def badN (m : Int) (n : Int) : Bool := decide (n < 0) || decide (m ≤ n)
set_option maxRecDepth 100000 in
set_option maxHeartbeats 12800000 in
theorem shardtakes_any (a1 a2 a3 : Option Addr) (c1 c2 c3 : Nat) (P : PP) (me kk kd : Int) (sa : Option Addr) (sc : Nat) (nums : List Int) (w : World) (ad : Nat → Addr) (hE : ErrsP w ad) (hA : AllErrs w ad) (hP : ProgR w w.heap.size (.slice a1 P.vars.length c1) (.slice a2 P.funs.length c2) (.slice a3 P.stmts.length c3) P) (hI : IntsR w w.heap.size (.slice sa nums.length sc) nums) :
    Calls Tryz.prog 4 #[pval a1 a2 a3 c1 c2 c3 P, .int .i64 me, .int .i64 kk, .int .u8 kd, .slice sa nums.length sc] w fun e w' => e = .returned (.bool true) ∧ Ext w w' := by
  have HAA := hid hA
  have HIs := hid hI
  have hnl := hI.len
  clear hA hI
  have HE := hid hE
  have HP := hid hP
  obtain ⟨W1, hW1⟩ : ∃ W1, W1 = w.alloc (.cells (pcells a1 a2 a3 c1 c2 c3 P) 26) := ⟨_, rfl⟩
  have HX1 : Hid (Ext w W1) := hid (by rw [hW1]; exact (Ext.refl _).alloc _)
  have HB1 : Hid (Blk W1 w.heap.size (pcells a1 a2 a3 c1 c2 c3 P) 26) := hid (by rw [hW1]; exact Blk.new _ _ _)
  have HR := hid (shardedfact_any W1 ad (hE.ext HX1.out))
  have HW1 : Hid (W1 = w.alloc (.cells #[.slice a1 P.vars.length c1, .slice a2 P.funs.length c2, .slice a3 P.stmts.length c3] 26)) := hid (by rw [hW1]; rfl)
  unfold pval
  clear hE hP hW1
  go_enter Tryz.func4, Tryz.ntmps4
  go_wp2_with fail
  rw [← HW1.out]
  refine HR.out.mono ?_
  intro e w1 hx
  obtain ⟨rfl, hx1⟩ := hx
  have HL := hid (large_q a1 a2 a3 c1 c2 c3 16 (by omega) P w1 w.heap.size (HP.out.ext (HX1.out.trans hx1)))
  rw [show ((16 : Nat) : Int) = (16 : Int) from rfl] at HL
  unfold pval at HL
  have HX1' := hid (HX1.out.trans hx1)
  have HBp1 := hid (HB1.out.ext hx1)
  have p0 := HBp1.out.av 0 rfl
  have p1 := HBp1.out.av 1 rfl
  have p2 := HBp1.out.av 2 rfl
  simp only [pcells, qA0, qA1, qA2] at p0 p1 p2
  clear HR hx1
  go_wp2_with fail
  refine HL.out.mono ?_
  intro e w2 hx
  obtain ⟨r, rfl, hr, hsm, hx2⟩ := hx
  have HX2 := hid (HX1'.out.trans hx2)
  have HBp := hid (HBp1.out.ext hx2)
  clear HL hx2 p0 p1 p2
  rcases (by omega : r = 1 ∨ r = 0) with rfl | rfl
  · clear hsm hr
    go_wp2
    go_ret
    exact ⟨rfl, HX2.out⟩
  have HSm := hid (hsm rfl).1
  have HQl := hid (hsm rfl).2.1
  have HVl := hid (hsm rfl).2.2
  clear hsm hr
  by_cases hlen : nums.length ≤ 20
  case neg =>
    go_wp2
    go_ret
    exact ⟨rfl, HX2.out⟩
  have hz1 : ∀ s ∈ P.vars, s.size ≤ 1000000 := fun s hs => by have := HSm.out.vs s hs; omega
  have hz2 : ∀ s ∈ P.names, s.size ≤ 1000000 := fun s hs => by
    obtain ⟨f, hf, rfl⟩ := List.mem_map.1 hs
    have := (HSm.out.fs f hf).1
    omega
  have Hz1 := hid hz1
  have Hz2 := hid hz2
  have HPS := hid (show PS0 w2 w2.heap.size ad a1 a2 a3 c1 c2 c3 P from ⟨HE.out.ext HX2.out, (HP.out.ext HX2.out).lift HX2.out.size, Hz1.out, Hz2.out⟩)
  clear hz1 hz2
  have HF9 := hid (rfprog_all a1 a2 a3 c1 c2 c3 P w2 HPS.out.prog Hz1.out Hz2.out)
  have p0 := HBp.out.av 0 rfl
  have p1 := HBp.out.av 1 rfl
  have p2 := HBp.out.av 2 rfl
  simp only [pcells, qA0, qA1, qA2] at p0 p1 p2
  unfold pval at HF9
  go_wp2_with fail
  refine HF9.out.mono ?_
  intro e w8 hx
  obtain ⟨hx8, fc, fp, rfl, hfi⟩ := hx
  have Hfi := hid hfi
  have Hx8 := hid hx8
  have hff := field_fault (fc : Int) fp w8
  clear HF9 hfi hx8 p0 p1 p2
  by_cases hw : P.Well
  case neg =>
    have hc := Hfi.out.no hw
    have hlt : decide ((0 : Int) < (fc : Int)) = true := decide_eq_true (by omega)
    have hlt2 : (0 < fc) = True := by simp; omega
    have HXz := hid (HX2.out.trans Hx8.out)
    go_wp2
    go_ret
    exact ⟨rfl, HXz.out⟩
  obtain ⟨rfl, rfl⟩ := Hfi.out.well hw
  clear hff
  have hff := field_fault 0 (-1) w8
  have Hw := hid hw
  have HXz := hid (HX2.out.trans Hx8.out)
  by_cases hk1 : kk < 1
  · go_wp2
    go_ret
    exact ⟨rfl, HXz.out⟩
  by_cases hk2 : 6 < kk
  · go_wp2
    go_ret
    exact ⟨rfl, HXz.out⟩
  obtain ⟨k2, rfl⟩ := Int.eq_ofNat_of_zero_le (show 0 ≤ kk by omega)
  have Hk2 : Hid (1 ≤ k2 ∧ k2 ≤ 6) := hid (by omega)
  have Hlen := hid hlen
  have j1 : (k2 = 0) = False := by simp; omega
  have j2 : (6 < k2) = False := by simp; omega
  have j4 : ((k2 : Int) < 1) = False := by simp; omega
  have j5 : ((6 : Int) < (k2 : Int)) = False := by simp; omega
  clear hk1 hk2 hw
  have HQ := hid (ownprogram_any a1 a2 a3 c1 c2 c3 P w8 (HPS.out.on (Nat.le_refl _) Hx8.out).prog HSm.out)
  unfold pval at HQ
  have p0 := (HBp.out.ext Hx8.out).av 0 rfl
  have p1 := (HBp.out.ext Hx8.out).av 1 rfl
  have p2 := (HBp.out.ext Hx8.out).av 2 rfl
  simp only [pcells, qA0, qA1, qA2] at p0 p1 p2
  go_wp2_with fail
  refine HQ.out.mono ?_
  intro e w3 hx
  obtain ⟨hx3, b1, b2, b3, d1, d2, d3, rfl, hq⟩ := hx
  have Hx3 := hid (Hx8.out.trans hx3)
  have HPQ := hid (show PS0 w3 w3.heap.size ad b1 b2 b3 d1 d2 d3 P from ⟨HE.out.ext (HX2.out.trans Hx3.out), hq, Hz1.out, Hz2.out⟩)
  have HX3 := hid (HX2.out.trans Hx3.out)
  clear HQ hx3 hq p0 p1 p2
  by_cases hm1 : me < 0
  ·
    have HN := hid (shardnew_bound b1 b2 b3 d1 d2 d3 P me (k2 : Int) w3 w3.heap.size ad (HPQ.out.pw Hw.out) (by omega))
    unfold pval evOf at HN
    go_wp2_with fail
    refine HN.out.mono ?_
    intro e w4 hx
    obtain ⟨rfl, hx4⟩ := hx
    have HX4 := hid (HX3.out.trans hx4)
    have HCo := hid (coded3_c w4 ad (HAA.out.ext HX4.out) 2 (by decide) (by decide) 2 rfl)
    clear HN hx4
    go_wp2_with fail
    refine HCo.out.mono ?_
    intro e w5 hx
    obtain ⟨rfl, hx5⟩ := hx
    have HX5 := hid (HX4.out.trans hx5)
    clear HCo hx5
    go_wp2
    go_ret
    exact ⟨rfl, HX5.out⟩
  by_cases hm2 : (k2 : Int) ≤ me
  ·
    have HN := hid (shardnew_bound b1 b2 b3 d1 d2 d3 P me (k2 : Int) w3 w3.heap.size ad (HPQ.out.pw Hw.out) (by omega))
    unfold pval evOf at HN
    go_wp2_with fail
    refine HN.out.mono ?_
    intro e w4 hx
    obtain ⟨rfl, hx4⟩ := hx
    have HX4 := hid (HX3.out.trans hx4)
    have HCo := hid (coded3_c w4 ad (HAA.out.ext HX4.out) 2 (by decide) (by decide) 2 rfl)
    clear HN hx4
    go_wp2_with fail
    refine HCo.out.mono ?_
    intro e w5 hx
    obtain ⟨rfl, hx5⟩ := hx
    have HX5 := hid (HX4.out.trans hx5)
    clear HCo hx5
    go_wp2
    go_ret
    exact ⟨rfl, HX5.out⟩
  obtain ⟨mm, rfl⟩ := Int.eq_ofNat_of_zero_le (show 0 ≤ me by omega)
  have HN := hid (shardnew_yes b1 b2 b3 d1 d2 d3 P mm k2 w3 w3.heap.size ad (HPQ.out.pw Hw.out) (Nat.le_refl _) (by have := Hk2.out; omega))
  unfold pval at HN
  have i3 : decide ((mm : Int) < 0) = false := decide_eq_false (by omega)
  have i4 : decide ((k2 : Int) ≤ (mm : Int)) = false := decide_eq_false (by omega)
  have i5 : (k2 ≤ mm) = False := by simp; omega
  have Hmk : Hid (mm < k2) := hid (by omega)
  clear hm1 hm2
  go_wp2_with fail
  refine HN.out.mono ?_
  intro e w4 hx
  obtain ⟨g, c, G, F, u, t, os, rfl, hcP, hcm, hck, hr, ht, hS, hN, hF, hI, hG, hx4⟩ := hx
  have hf := hr.full Hw.out (start_full Hw.out)
  obtain ⟨hso1, hso2⟩ := start_okS (me := (mm : Nat)) (k := (k2 : Nat)) Hw.out
  have hph := (hr.ok Hw.out hso1).2
  obtain ⟨au, cu, hu⟩ := hN.row.form
  subst hu
  obtain ⟨s0, hs0⟩ : ∃ s0 : SH, s0 = { t with out := [] } := ⟨_, rfl⟩
  have HSh := hid (show ShAt w4 G F g c s0 from by rw [hs0]; exact hS)
  have Hok := hid (show s0.Ok c.P (c.me : Nat) (c.k : Nat) from by
    rw [hcP, hcm, hck, hs0]
    exact hf.rest.ok)
  have Hph : Hid (s0.phi ≤ 20000000) := hid (by
    rw [hs0]
    refine Nat.le_trans ?_ (Nat.le_trans hph hso2)
    unfold SH.phi SH.load
    simp only [List.length_nil]
    omega)
  have HcE := hid (And.intro hcP (And.intro hcm (And.intro hck (show c.P.Well from hcP ▸ Hw.out))))
  have HX34 := hid hx4
  have HFo := hid hF
  have HX4 := hid (HX3.out.trans hx4)
  have Hx24 := hid (Hx3.out.trans hx4)
  have HNo := hid (rnodesof_any a1 a2 a3 c1 c2 c3 P w4 w4.heap.size ((HPS.out.on (Nat.le_refl _) Hx24.out).prog) (by have := Hw.out.few; omega) (by have := Hw.out.few; omega))
  unfold pval at HNo
  have p0 := (HBp.out.ext Hx24.out).av 0 rfl
  have p1 := (HBp.out.ext Hx24.out).av 1 rfl
  have p2 := (HBp.out.ext Hx24.out).av 2 rfl
  simp only [pcells, qA0, qA1, qA2] at p0 p1 p2
  clear HN hr ht hS hN hF hI hG hx4 hf hso1 hso2 hph hs0 hcP hcm hck j1 j2 j4 j5 hff
  go_wp2_with fail
  refine HNo.out.mono ?_
  intro e w6 hx
  obtain ⟨rfl, hx6⟩ := hx
  have HX6 := hid (HX4.out.trans hx6)
  have Hx26 := hid (Hx24.out.trans hx6)
  have HSh6 := hid (HSh.out.ext hx6)
  have Hx46 := hid hx6
  have p1 := (HBp.out.ext Hx26.out).av 1 rfl
  simp only [pcells, qA0, qA1, qA2] at p1
  have hfl : P.funs.length ≤ 6 := by have := Hw.out.few; omega
  have hno : P.nodesV ≤ 120 := by have := Hw.out.nodes; omega
  clear HNo hx6 p0 p2
  have HOI := hid (ownintsR_any (.slice sa nums.length sc) nums w6 w.heap.size (HIs.out.old (HX6.out.old _)) (by have := Hlen.out; omega))
  by_cases hkd : kd = 100 ∨ kd = 101
  case neg =>
    have hkd1 : kd ≠ 100 := fun h => hkd (.inl h)
    have hkd2 : kd ≠ 101 := fun h => hkd (.inr h)
    have e1 : (kd == 100) = false := beq_eq_false_iff_ne.2 hkd1
    have e2 : (kd == 101) = false := beq_eq_false_iff_ne.2 hkd2
    have e3 : (kd != 100) = true := by simp only [bne, e1]; rfl
    have e4 : (kd != 101) = true := by simp only [bne, e2]; rfl
    go_wp2_with fail
    refine HOI.out.mono ?_
    intro e w8' hx
    obtain ⟨v8, rfl, hx8', hr8⟩ := hx
    have HX8 := hid (HX6.out.trans hx8')
    have HSh8 := hid (HSh6.out.ext hx8')
    have HR8 : Hid (IRow 0 w8' v8 nums) := hid (own_low hr8 (Nat.zero_le _))
    clear HOI hx8' hr8
    have HTk := hid (shardtake_kind kd v8 w8' g ad (HE.out.ext HX8.out).at4 hkd1 hkd2)
    unfold evOf at HTk
    clear hkd hkd1 hkd2
    go_wp2_with fail
    refine HTk.out.mono ?_
    intro e w9 hx
    obtain ⟨rfl, hx9⟩ := hx
    have HX9 := hid (HX8.out.trans hx9)
    have HCo := hid (coded3_c w9 ad (HAA.out.ext HX9.out) 4 (by decide) (by decide) 4 rfl)
    clear HTk hx9
    go_wp2_with fail
    refine HCo.out.mono ?_
    intro e w10 hx
    obtain ⟨rfl, hx10⟩ := hx
    have HX10 := hid (HX9.out.trans hx10)
    clear HCo hx10
    go_wp2
    go_ret
    exact ⟨rfl, HX10.out⟩
  by_cases hsh : (kd = 100 ∧ nums.length = 0) ∨ (kd = 101 ∧ nums.length ≠ 2)
  case pos =>
    have hsh' := hsh
    rcases hsh with ⟨rfl, hl0⟩ | ⟨rfl, hl2⟩
    · obtain rfl : nums = [] := List.eq_nil_of_length_eq_zero hl0
      simp only [List.length_nil] at HOI ⊢
      go_wp2_with fail
      refine HOI.out.mono ?_
      intro e w8' hx
      obtain ⟨v8, rfl, hx8', hr8⟩ := hx
      have HX8 := hid (HX6.out.trans hx8')
      have HSh8 := hid (HSh6.out.ext hx8')
      have HR8 : Hid (IRow 0 w8' v8 ([] : List Int)) := hid (own_low hr8 (Nat.zero_le _))
      clear HOI hx8' hr8
      obtain ⟨av, cv, rfl⟩ := row_form HR8.out
      simp only [List.length_nil]
      have HTk := hid (shardtake_shape 100 av 0 cv w8' g ad (HE.out.ext HX8.out).at3 (.inl ⟨rfl, rfl⟩) (by omega))
      unfold evOf at HTk
      clear hkd hsh'
      go_wp2_with fail
      refine HTk.out.mono ?_
      intro e w9 hx
      obtain ⟨rfl, hx9⟩ := hx
      have HX9 := hid (HX8.out.trans hx9)
      have HCo := hid (coded3_c w9 ad (HAA.out.ext HX9.out) 3 (by decide) (by decide) 3 rfl)
      clear HTk hx9
      go_wp2_with fail
      refine HCo.out.mono ?_
      intro e w10 hx
      obtain ⟨rfl, hx10⟩ := hx
      have HX10 := hid (HX9.out.trans hx10)
      clear HCo hx10
      go_wp2
      go_ret
      exact ⟨rfl, HX10.out⟩
    · have e1 : ((nums.length : Int) == 2) = false := beq_eq_false_iff_ne.2 (by omega)
      have e2 : ((nums.length : Int) != 2) = true := by simp only [bne, e1]; rfl
      go_wp2_with fail
      refine HOI.out.mono ?_
      intro e w8' hx
      obtain ⟨v8, rfl, hx8', hr8⟩ := hx
      have HX8 := hid (HX6.out.trans hx8')
      have HSh8 := hid (HSh6.out.ext hx8')
      have HR8 : Hid (IRow 0 w8' v8 nums) := hid (own_low hr8 (Nat.zero_le _))
      clear HOI hx8' hr8
      obtain ⟨av, cv, rfl⟩ := row_form HR8.out
      have HTk := hid (shardtake_shape 101 av nums.length cv w8' g ad (HE.out.ext HX8.out).at3 (.inr ⟨rfl, hl2⟩) hnl)
      unfold evOf at HTk
      clear hkd hsh' hl2
      go_wp2_with fail
      refine HTk.out.mono ?_
      intro e w9 hx
      obtain ⟨rfl, hx9⟩ := hx
      have HX9 := hid (HX8.out.trans hx9)
      have HCo := hid (coded3_c w9 ad (HAA.out.ext HX9.out) 3 (by decide) (by decide) 3 rfl)
      clear HTk hx9
      go_wp2_with fail
      refine HCo.out.mono ?_
      intro e w10 hx
      obtain ⟨rfl, hx10⟩ := hx
      have HX10 := hid (HX9.out.trans hx10)
      clear HCo hx10
      go_wp2
      go_ret
      exact ⟨rfl, HX10.out⟩
  obtain ⟨x, l, rfl⟩ : ∃ x l, nums = x :: l := by
    cases nums with
    | nil =>
      refine absurd ?_ hsh
      rcases hkd with h | h
      · exact .inl ⟨h, rfl⟩
      · exact .inr ⟨h, by simp⟩
    | cons x l => exact ⟨x, l, rfl⟩
  obtain ⟨y, x', rfl, hx', hc0⟩ := HIs.out.at (k := 0) (by simp)
  obtain rfl : x = x' := by simpa using hx'
  have Hcl : Hid (∀ (j : Nat) (q : Int), (x :: l)[j]? = some q → w.cell? (y.add j) = some (.int .i64 q)) := hid fun j q hq => by
    have hj : j < (x :: l).length := (List.getElem?_eq_some_iff.1 hq).1
    obtain ⟨y2, q2, e1, e2, e3⟩ := HIs.out.at (k := j) hj
    obtain rfl := Option.some.inj e1
    rw [hq] at e2
    obtain rfl := Option.some.inj e2
    exact e3
  have hy0 : y.add 0 = y := by simp [Addr.add]
  rw [hy0] at hc0
  have Hcy0 := hid hc0
  have c0 := HX6.out.cellx hc0
  simp only [List.length_cons] at hlen hnl HIs Hlen ⊢
  have HOIf := fun w7 (hx : Ext w6 w7) => hid (ownintsR_any (.slice (some y) (l.length + 1) sc) (x :: l) w7 w.heap.size (HIs.out.old ((HX6.out.trans hx).old _)) (by have := Hlen.out; simp only [List.length_cons]; omega))
  clear HOI hx' hc0 hy0 hnl
  rcases hkd with rfl | rfl
  · have Hms : Hid (c.most 100 = (P.nodesV : Int) + (P.funs.length : Int)) := hid (by
      unfold SC.most
      rw [if_neg (by decide), HcE.out.1]
      unfold PP.objectsV
      omega)
    clear hsh
    by_cases hx0 : x < 0
    · have Hown : c.own x = !true := decide_eq_false fun h => by omega
      obtain ⟨fb, hfb⟩ : ∃ fb, fb = true := ⟨_, rfl⟩
      have Hfb : Hid (c.own (x) = !fb) := hid (by rw [hfb]; exact Hown)
      clear Hown
      go_wp2
      go_loopw [17, 18] (fun t17 t18 wr => ∃ (i : Nat) (e : Int), t18 = .int .i64 (i : Int) ∧ t17 = .int .i64 e ∧ (1 ≤ i ∧ i ≤ l.length + 1) ∧ (e = if (fb || (l.take (i - 1)).any (badN ((P.nodesV : Int) + (P.funs.length : Int)))) = true then 2 else 0) ∧ Ext w6 wr) (fun _ t18 _ => l.length + 2 - (intOf t18).toNat)
      case atStart => exact ⟨1, 2, rfl, rfl, by omega, by rw [hfb]; simp, Ext.refl _⟩
      case round =>
        clear c0 hfb
        obtain ⟨i, e, rfl, rfl, hi, he, hxr⟩ := hrel
        have He := hid he
        have Hxr := hid hxr
        clear he hxr
        by_cases hlt : i < l.length + 1
        · obtain ⟨q, hq⟩ : ∃ q, l[i - 1]? = some q := ⟨_, List.getElem?_eq_getElem (by omega)⟩
          have cq := (HX6.out.trans Hxr.out).cellx (Hcl.out i q (by rw [show i = i - 1 + 1 by omega, List.getElem?_cons_succ]; exact hq))
          have Hnx : Hid ((l.take (i + 1 - 1)).any (badN ((P.nodesV : Int) + (P.funs.length : Int))) = ((l.take (i - 1)).any (badN ((P.nodesV : Int) + (P.funs.length : Int))) || badN ((P.nodesV : Int) + (P.funs.length : Int)) q)) := hid (by rw [show i + 1 - 1 = i - 1 + 1 by omega, List.take_add_one, hq, List.any_append]; simp)
          clear hq
          by_cases hq0 : q < 0
          · have Hbq : Hid (badN ((P.nodesV : Int) + (P.funs.length : Int)) q = true) := hid (by unfold badN; rw [decide_eq_true hq0]; rfl)
            go_wp2
            go_roundw
            case rel => exact ⟨i + 1, 2, by go_num, rfl, by omega, by rw [Hnx.out, Hbq.out]; simp, Hxr.out⟩
            case measure => simp [intOf]; omega
          · by_cases hqm : ((P.nodesV : Int) + (P.funs.length : Int)) ≤ q
            · have Hbq : Hid (badN ((P.nodesV : Int) + (P.funs.length : Int)) q = true) := hid (by unfold badN; rw [decide_eq_true hqm, Bool.or_true])
              go_wp2
              go_roundw
              case rel => exact ⟨i + 1, 2, by go_num, rfl, by omega, by rw [Hnx.out, Hbq.out]; simp, Hxr.out⟩
              case measure => simp [intOf]; omega
            · have Hbq : Hid (badN ((P.nodesV : Int) + (P.funs.length : Int)) q = false) := hid (by unfold badN; rw [decide_eq_false hq0, decide_eq_false hqm]; rfl)
              go_wp2
              go_roundw
              case rel => exact ⟨i + 1, e, by go_num, rfl, by omega, by rw [Hnx.out, Hbq.out, Bool.or_false]; exact He.out, Hxr.out⟩
              case measure => simp [intOf]; omega
        · obtain rfl : i = l.length + 1 := by omega
          rw [show l.length + 1 - 1 = l.length from rfl, List.take_length] at He
          clear hlt hi
          cases hB : c.bnd 100 (x) l with
          | false =>
            have he2 : e = 2 := by
              rw [He.out, if_pos]
              unfold SC.bnd at hB
              rw [Hfb.out, Hms.out] at hB
              rw [show badN = fun m n => decide (n < 0) || decide (m ≤ n) from rfl]
              revert hB
              generalize (l.any fun n => decide (n < 0) || decide (_ ≤ n)) = bb
              cases fb <;> cases bb <;> decide
            subst he2
            have HOI := HOIf _ Hxr.out
            go_wp2_with fail
            refine HOI.out.mono ?_
            intro e w8' hx
            obtain ⟨v8, rfl, hx8', hr8⟩ := hx
            have HX8 := hid ((HX6.out.trans Hxr.out).trans hx8')
            have HSh8 := hid (HSh6.out.ext (Hxr.out.trans hx8'))
            have HX38 := hid (((HX34.out.trans Hx46.out).trans Hxr.out).trans hx8')
            have HR8 : Hid (IRow 0 w8' v8 ((x) :: l)) := hid (own_low hr8 (Nat.zero_le _))
            clear HOI hx8' hr8
            have HTk := hid (shardtake_bound c s0 100 v8 (x) l w8' G F g ad (HE.out.ext HX8.out).at2 HSh8.out HR8.out (.inl rfl) hB (by omega))
            unfold evOf at HTk
            clear hB
            go_wp2_with fail
            refine HTk.out.mono ?_
            intro e w9 hx
            obtain ⟨rfl, hx9⟩ := hx
            have HX9 := hid (HX8.out.trans hx9)
            have HCo := hid (coded3_c w9 ad (HAA.out.ext HX9.out) 2 (by decide) (by decide) 2 rfl)
            clear HTk hx9
            go_wp2_with fail
            refine HCo.out.mono ?_
            intro e w10 hx
            obtain ⟨rfl, hx10⟩ := hx
            have HX10 := hid (HX9.out.trans hx10)
            clear HCo hx10
            go_wp2
            go_ret
            exact ⟨rfl, HX10.out⟩
          | true =>
            have he2 : e = 0 := by
              rw [He.out, if_neg]
              unfold SC.bnd at hB
              rw [Hfb.out, Hms.out] at hB
              rw [show badN = fun m n => decide (n < 0) || decide (m ≤ n) from rfl]
              revert hB
              generalize (l.any fun n => decide (n < 0) || decide (_ ≤ n)) = bb
              cases fb <;> cases bb <;> decide
            subst he2
            have HOI := HOIf _ Hxr.out
            go_wp2_with fail
            refine HOI.out.mono ?_
            intro e w8' hx
            obtain ⟨v8, rfl, hx8', hr8⟩ := hx
            have HX8 := hid ((HX6.out.trans Hxr.out).trans hx8')
            have HSh8 := hid (HSh6.out.ext (Hxr.out.trans hx8'))
            have HX38 := hid (((HX34.out.trans Hx46.out).trans Hxr.out).trans hx8')
            have HR8 : Hid (IRow 0 w8' v8 ((x) :: l)) := hid (own_low hr8 (Nat.zero_le _))
            clear HOI hx8' hr8
            have HTk := hid (shardtake_good c s0 100 v8 (x) l w8' G F g HSh8.out Hok.out HR8.out (.inl rfl) hB (by omega) (by have := Hph.out; omega))
            have HbO := hid (bnd_ok hB (.inl rfl))
            have HOw : Hid (c.own (x) = true) := hid (by
              unfold SC.bnd at hB
              rw [Bool.and_eq_true] at hB
              exact hB.1)
            clear hB
            go_wp2_with fail
            refine HTk.out.mono ?_
            intro e w9 hx
            obtain ⟨u2, t2, os2, F2, rfl, hr2, ht2, hS2, hN2, hF2, _, hK2⟩ := hx
            have hX38 := HX38.out
            have HX9 : Hid (Ext w w9) := hid (HX3.out.trans (Keep.new hX38 hK2 fun b hb => Nat.le_of_not_lt fun h => hb (HFo.out b h)))
            have HSh9 := hid hS2
            have HTn := hid (take_taken HcE.out.2.2.2 Hok.out HbO.out.1 rfl hr2 ht2)
            have HOk9 := hid (show ({ t2 with out := [] } : SH).Ok c.P (c.me : Nat) (c.k : Nat) from by
              have h1 := (hr2.ok HcE.out.2.2.2 (push_ok Hok.out HbO.out.1 rfl)).1
              exact ⟨h1.hnd, h1.has, h1.nnd, h1.nxt, h1.todo, fun _ h => (by cases h)⟩)
            have Hmem : Hid (100 ≠ (101 : Int) → ∀ q ∈ l, q ∈ c.hasL { t2 with out := [] } (x)) := hid fun hk => has_taken HcE.out.2.2.2 HOk9.out HTn.out HOw.out hk rfl
            obtain ⟨au2, cu2, hu2⟩ := hN2.row.form
            subst hu2
            have HCo := hid (coded3_0 w9 ad (HAA.out.ext HX9.out))
            clear HTk hr2 ht2 hS2 hN2 hF2 hK2 hX38
            go_wp2_with fail
            refine HCo.out.mono ?_
            intro e w10 hx
            obtain ⟨rfl, hx10⟩ := hx
            have HX10 := hid (HX9.out.trans hx10)
            have HSh10 := hid (HSh9.out.ext hx10)
            clear HCo hx10 HSh9
            go_wp2
            go_loopw [20] (fun t20 wr => ∃ i : Nat, t20 = .int .i64 (i : Int) ∧ (1 ≤ i ∧ i ≤ l.length + 1) ∧ Ext w10 wr) (fun t20 _ => l.length + 2 - (intOf t20).toNat)
            case atStart => exact ⟨1, rfl, by omega, Ext.refl _⟩
            case round =>
              obtain ⟨i, rfl, hi, hxr⟩ := hrel
              have Hxr2 := hid hxr
              by_cases hlt : i < l.length + 1
              · obtain ⟨q, hq⟩ : ∃ q, l[i - 1]? = some q := ⟨_, List.getElem?_eq_getElem (by omega)⟩
                have Hmq := hid (Hmem.out (by decide) q (List.mem_of_getElem? hq))
                have hcz : ∀ w1, Keep (fun _ => False) wr w1 → w1.cell? y = some (.int .i64 (x)) := fun w1 k => k.ext.cellx ((HX10.out.trans Hxr2.out).cellx Hcy0.out)
                have hcy : ∀ w1, Keep (fun _ => False) wr w1 → w1.cell? (y.add i) = some (.int .i64 q) := fun w1 k => k.ext.cellx ((HX10.out.trans Hxr2.out).cellx (Hcl.out i q (by rw [show i = i - 1 + 1 by omega, List.getElem?_cons_succ]; exact hq)))
                have HHa := fun w1 (hz : Ext wr w1) => hid (shardhas_any c { t2 with out := [] } (x) w1 _ F2 g (HSh10.out.ext (hxr.trans hz)) HOk9.out)
                obtain ⟨H, hH⟩ : ∃ H, H = c.hasL { t2 with out := [] } (x) := ⟨_, rfl⟩
                rw [← hH] at HHa Hmq
                clear hq hxr hH
                go_wp2
                refine wp_flow (fun _ => False) (by kernel_rfl) (by kernel_rfl) ?_
                apply Flow.d 0 _ rfl (by simp) (by kernel_rfl)
                · intro w1 hk; unfold does; go_simp; (try go_ints); exact DetR.mk
                simp only [qA0, qA1, qA2, Act.put, qS0, qS1, qS2]
                apply Flow.d 1 _ rfl (by simp) (by kernel_rfl)
                · intro w1 hk; unfold does; go_simp; (try go_ints); exact DetR.mk
                simp only [qA0, qA1, qA2, Act.put, qS0, qS1, qS2]
                apply Flow.d 2 _ rfl (by simp) (by kernel_rfl)
                · intro w1 hk; unfold does; go_simp; (try go_ints); exact DetR.mk
                simp only [qA0, qA1, qA2, Act.put, qS0, qS1, qS2]
                apply Flow.d 3 _ rfl (by simp) (by kernel_rfl)
                · intro w1 hk; unfold does; go_simp; (try go_ints); exact DetR.mk
                simp only [qA0, qA1, qA2, Act.put, qS0, qS1, qS2]
                apply Flow.d 5 _ rfl (by simp) (by kernel_rfl)
                · intro w1 hk; unfold does; go_simp; (try go_ints); exact DetR.mk
                simp only [qA0, qA1, qA2, Act.put, qS0, qS1, qS2]
                apply Flow.d 6 _ rfl (by simp) (by kernel_rfl)
                · intro w1 hk; unfold does; go_simp; (try go_ints); exact DetR.mk
                simp only [qA0, qA1, qA2, Act.put, qS0, qS1, qS2]
                apply Flow.d 7 _ rfl (by simp) (by kernel_rfl)
                · intro w1 hk; unfold does; go_simp; (try go_ints); exact DetR.mk
                simp only [qA0, qA1, qA2, Act.put, qS0, qS1, qS2]
                apply Flow.d 8 _ rfl (by simp) (by kernel_rfl)
                · intro w1 hk; unfold does; go_simp; (try go_ints); exact DetR.mk
                simp only [qA0, qA1, qA2, Act.put, qS0, qS1, qS2]
                refine Flow.one 4 _ rfl (by kernel_rfl) (fun v w' => IRow 0 w' v H ∧ Ext wr w') (fun _ _ _ ⟨h2, h3⟩ y => ⟨own_ext h2 y, h3.trans y⟩) (fun w6 hC hk => ?_) ?_
                · unfold does
                  go_simp
                  refine CallR.act ((HHa w6 hC).out.mono ?_)
                  rintro e w7 ⟨v, rfl, hr, hx⟩
                  exact ⟨v, rfl, hk.trans (hx.keep _), own_low hr (Nat.zero_le _), hC.trans hx⟩
                rintro v ⟨_, _, _⟩
                simp only [qA0, qA1, qA2, Act.put, qS0, qS1, qS2]
                refine Flow.one 9 _ rfl (by kernel_rfl) (fun v w' => v = .bool true ∧ Ext wr w') (fun _ _ _ ⟨h1, h3⟩ y => ⟨h1, h3.trans y⟩) (fun w6 hC hk => ?_) ?_
                · obtain ⟨hr, hx⟩ := hC
                  have HSa := sethas_any v H q w6 w6.heap.size (IntsR.own hr (Nat.le_refl _))
                  unfold does
                  go_simp
                  refine CallR.act (HSa.mono ?_)
                  rintro e w7 ⟨rfl, rfl⟩
                  exact ⟨_, rfl, hk, by rw [decide_eq_true Hmq.out], hx⟩
                rintro _ ⟨_, rfl, _⟩
                simp only [qA0, qA1, qA2, Act.put, qS0, qS1, qS2]
                apply Flow.d 10 _ rfl (by simp) (by kernel_rfl)
                · intro w1 hk; unfold does; go_simp; (try go_ints); exact DetR.mk
                simp only [qA0, qA1, qA2, Act.put, qS0, qS1, qS2]
                refine Flow.fin (by kernel_rfl) fun w6 hC6 hk6 => ?_
                have Hx6 := hid (Hxr2.out.trans hC6.2)
                clear hC6 hk6 hcy hcz HHa
                go_wp2
                go_roundw
                case rel => exact ⟨i + 1, by go_num, by omega, Hx6.out⟩
                case measure => simp [intOf]; omega
              · obtain rfl : i = l.length + 1 := by omega
                have HXz := hid (HX10.out.trans hxr)
                clear hxr
                go_wp2
                go_ret
                exact ⟨rfl, HXz.out⟩
    by_cases hx1 : (P.nodesV : Int) ≤ x
    · have Hown : c.own x = !true := decide_eq_false fun h => by rw [HcE.out.1] at h; omega
      obtain ⟨fb, hfb⟩ : ∃ fb, fb = true := ⟨_, rfl⟩
      have Hfb : Hid (c.own (x) = !fb) := hid (by rw [hfb]; exact Hown)
      clear Hown
      go_wp2
      go_loopw [17, 18] (fun t17 t18 wr => ∃ (i : Nat) (e : Int), t18 = .int .i64 (i : Int) ∧ t17 = .int .i64 e ∧ (1 ≤ i ∧ i ≤ l.length + 1) ∧ (e = if (fb || (l.take (i - 1)).any (badN ((P.nodesV : Int) + (P.funs.length : Int)))) = true then 2 else 0) ∧ Ext w6 wr) (fun _ t18 _ => l.length + 2 - (intOf t18).toNat)
      case atStart => exact ⟨1, 2, rfl, rfl, by omega, by rw [hfb]; simp, Ext.refl _⟩
      case round =>
        clear c0 hfb
        obtain ⟨i, e, rfl, rfl, hi, he, hxr⟩ := hrel
        have He := hid he
        have Hxr := hid hxr
        clear he hxr
        by_cases hlt : i < l.length + 1
        · obtain ⟨q, hq⟩ : ∃ q, l[i - 1]? = some q := ⟨_, List.getElem?_eq_getElem (by omega)⟩
          have cq := (HX6.out.trans Hxr.out).cellx (Hcl.out i q (by rw [show i = i - 1 + 1 by omega, List.getElem?_cons_succ]; exact hq))
          have Hnx : Hid ((l.take (i + 1 - 1)).any (badN ((P.nodesV : Int) + (P.funs.length : Int))) = ((l.take (i - 1)).any (badN ((P.nodesV : Int) + (P.funs.length : Int))) || badN ((P.nodesV : Int) + (P.funs.length : Int)) q)) := hid (by rw [show i + 1 - 1 = i - 1 + 1 by omega, List.take_add_one, hq, List.any_append]; simp)
          clear hq
          by_cases hq0 : q < 0
          · have Hbq : Hid (badN ((P.nodesV : Int) + (P.funs.length : Int)) q = true) := hid (by unfold badN; rw [decide_eq_true hq0]; rfl)
            go_wp2
            go_roundw
            case rel => exact ⟨i + 1, 2, by go_num, rfl, by omega, by rw [Hnx.out, Hbq.out]; simp, Hxr.out⟩
            case measure => simp [intOf]; omega
          · by_cases hqm : ((P.nodesV : Int) + (P.funs.length : Int)) ≤ q
            · have Hbq : Hid (badN ((P.nodesV : Int) + (P.funs.length : Int)) q = true) := hid (by unfold badN; rw [decide_eq_true hqm, Bool.or_true])
              go_wp2
              go_roundw
              case rel => exact ⟨i + 1, 2, by go_num, rfl, by omega, by rw [Hnx.out, Hbq.out]; simp, Hxr.out⟩
              case measure => simp [intOf]; omega
            · have Hbq : Hid (badN ((P.nodesV : Int) + (P.funs.length : Int)) q = false) := hid (by unfold badN; rw [decide_eq_false hq0, decide_eq_false hqm]; rfl)
              go_wp2
              go_roundw
              case rel => exact ⟨i + 1, e, by go_num, rfl, by omega, by rw [Hnx.out, Hbq.out, Bool.or_false]; exact He.out, Hxr.out⟩
              case measure => simp [intOf]; omega
        · obtain rfl : i = l.length + 1 := by omega
          rw [show l.length + 1 - 1 = l.length from rfl, List.take_length] at He
          clear hlt hi
          cases hB : c.bnd 100 (x) l with
          | false =>
            have he2 : e = 2 := by
              rw [He.out, if_pos]
              unfold SC.bnd at hB
              rw [Hfb.out, Hms.out] at hB
              rw [show badN = fun m n => decide (n < 0) || decide (m ≤ n) from rfl]
              revert hB
              generalize (l.any fun n => decide (n < 0) || decide (_ ≤ n)) = bb
              cases fb <;> cases bb <;> decide
            subst he2
            have HOI := HOIf _ Hxr.out
            go_wp2_with fail
            refine HOI.out.mono ?_
            intro e w8' hx
            obtain ⟨v8, rfl, hx8', hr8⟩ := hx
            have HX8 := hid ((HX6.out.trans Hxr.out).trans hx8')
            have HSh8 := hid (HSh6.out.ext (Hxr.out.trans hx8'))
            have HX38 := hid (((HX34.out.trans Hx46.out).trans Hxr.out).trans hx8')
            have HR8 : Hid (IRow 0 w8' v8 ((x) :: l)) := hid (own_low hr8 (Nat.zero_le _))
            clear HOI hx8' hr8
            have HTk := hid (shardtake_bound c s0 100 v8 (x) l w8' G F g ad (HE.out.ext HX8.out).at2 HSh8.out HR8.out (.inl rfl) hB (by omega))
            unfold evOf at HTk
            clear hB
            go_wp2_with fail
            refine HTk.out.mono ?_
            intro e w9 hx
            obtain ⟨rfl, hx9⟩ := hx
            have HX9 := hid (HX8.out.trans hx9)
            have HCo := hid (coded3_c w9 ad (HAA.out.ext HX9.out) 2 (by decide) (by decide) 2 rfl)
            clear HTk hx9
            go_wp2_with fail
            refine HCo.out.mono ?_
            intro e w10 hx
            obtain ⟨rfl, hx10⟩ := hx
            have HX10 := hid (HX9.out.trans hx10)
            clear HCo hx10
            go_wp2
            go_ret
            exact ⟨rfl, HX10.out⟩
          | true =>
            have he2 : e = 0 := by
              rw [He.out, if_neg]
              unfold SC.bnd at hB
              rw [Hfb.out, Hms.out] at hB
              rw [show badN = fun m n => decide (n < 0) || decide (m ≤ n) from rfl]
              revert hB
              generalize (l.any fun n => decide (n < 0) || decide (_ ≤ n)) = bb
              cases fb <;> cases bb <;> decide
            subst he2
            have HOI := HOIf _ Hxr.out
            go_wp2_with fail
            refine HOI.out.mono ?_
            intro e w8' hx
            obtain ⟨v8, rfl, hx8', hr8⟩ := hx
            have HX8 := hid ((HX6.out.trans Hxr.out).trans hx8')
            have HSh8 := hid (HSh6.out.ext (Hxr.out.trans hx8'))
            have HX38 := hid (((HX34.out.trans Hx46.out).trans Hxr.out).trans hx8')
            have HR8 : Hid (IRow 0 w8' v8 ((x) :: l)) := hid (own_low hr8 (Nat.zero_le _))
            clear HOI hx8' hr8
            have HTk := hid (shardtake_good c s0 100 v8 (x) l w8' G F g HSh8.out Hok.out HR8.out (.inl rfl) hB (by omega) (by have := Hph.out; omega))
            have HbO := hid (bnd_ok hB (.inl rfl))
            have HOw : Hid (c.own (x) = true) := hid (by
              unfold SC.bnd at hB
              rw [Bool.and_eq_true] at hB
              exact hB.1)
            clear hB
            go_wp2_with fail
            refine HTk.out.mono ?_
            intro e w9 hx
            obtain ⟨u2, t2, os2, F2, rfl, hr2, ht2, hS2, hN2, hF2, _, hK2⟩ := hx
            have hX38 := HX38.out
            have HX9 : Hid (Ext w w9) := hid (HX3.out.trans (Keep.new hX38 hK2 fun b hb => Nat.le_of_not_lt fun h => hb (HFo.out b h)))
            have HSh9 := hid hS2
            have HTn := hid (take_taken HcE.out.2.2.2 Hok.out HbO.out.1 rfl hr2 ht2)
            have HOk9 := hid (show ({ t2 with out := [] } : SH).Ok c.P (c.me : Nat) (c.k : Nat) from by
              have h1 := (hr2.ok HcE.out.2.2.2 (push_ok Hok.out HbO.out.1 rfl)).1
              exact ⟨h1.hnd, h1.has, h1.nnd, h1.nxt, h1.todo, fun _ h => (by cases h)⟩)
            have Hmem : Hid (100 ≠ (101 : Int) → ∀ q ∈ l, q ∈ c.hasL { t2 with out := [] } (x)) := hid fun hk => has_taken HcE.out.2.2.2 HOk9.out HTn.out HOw.out hk rfl
            obtain ⟨au2, cu2, hu2⟩ := hN2.row.form
            subst hu2
            have HCo := hid (coded3_0 w9 ad (HAA.out.ext HX9.out))
            clear HTk hr2 ht2 hS2 hN2 hF2 hK2 hX38
            go_wp2_with fail
            refine HCo.out.mono ?_
            intro e w10 hx
            obtain ⟨rfl, hx10⟩ := hx
            have HX10 := hid (HX9.out.trans hx10)
            have HSh10 := hid (HSh9.out.ext hx10)
            clear HCo hx10 HSh9
            go_wp2
            go_loopw [20] (fun t20 wr => ∃ i : Nat, t20 = .int .i64 (i : Int) ∧ (1 ≤ i ∧ i ≤ l.length + 1) ∧ Ext w10 wr) (fun t20 _ => l.length + 2 - (intOf t20).toNat)
            case atStart => exact ⟨1, rfl, by omega, Ext.refl _⟩
            case round =>
              obtain ⟨i, rfl, hi, hxr⟩ := hrel
              have Hxr2 := hid hxr
              by_cases hlt : i < l.length + 1
              · obtain ⟨q, hq⟩ : ∃ q, l[i - 1]? = some q := ⟨_, List.getElem?_eq_getElem (by omega)⟩
                have Hmq := hid (Hmem.out (by decide) q (List.mem_of_getElem? hq))
                have hcz : ∀ w1, Keep (fun _ => False) wr w1 → w1.cell? y = some (.int .i64 (x)) := fun w1 k => k.ext.cellx ((HX10.out.trans Hxr2.out).cellx Hcy0.out)
                have hcy : ∀ w1, Keep (fun _ => False) wr w1 → w1.cell? (y.add i) = some (.int .i64 q) := fun w1 k => k.ext.cellx ((HX10.out.trans Hxr2.out).cellx (Hcl.out i q (by rw [show i = i - 1 + 1 by omega, List.getElem?_cons_succ]; exact hq)))
                have HHa := fun w1 (hz : Ext wr w1) => hid (shardhas_any c { t2 with out := [] } (x) w1 _ F2 g (HSh10.out.ext (hxr.trans hz)) HOk9.out)
                obtain ⟨H, hH⟩ : ∃ H, H = c.hasL { t2 with out := [] } (x) := ⟨_, rfl⟩
                rw [← hH] at HHa Hmq
                clear hq hxr hH
                go_wp2
                refine wp_flow (fun _ => False) (by kernel_rfl) (by kernel_rfl) ?_
                apply Flow.d 0 _ rfl (by simp) (by kernel_rfl)
                · intro w1 hk; unfold does; go_simp; (try go_ints); exact DetR.mk
                simp only [qA0, qA1, qA2, Act.put, qS0, qS1, qS2]
                apply Flow.d 1 _ rfl (by simp) (by kernel_rfl)
                · intro w1 hk; unfold does; go_simp; (try go_ints); exact DetR.mk
                simp only [qA0, qA1, qA2, Act.put, qS0, qS1, qS2]
                apply Flow.d 2 _ rfl (by simp) (by kernel_rfl)
                · intro w1 hk; unfold does; go_simp; (try go_ints); exact DetR.mk
                simp only [qA0, qA1, qA2, Act.put, qS0, qS1, qS2]
                apply Flow.d 3 _ rfl (by simp) (by kernel_rfl)
                · intro w1 hk; unfold does; go_simp; (try go_ints); exact DetR.mk
                simp only [qA0, qA1, qA2, Act.put, qS0, qS1, qS2]
                apply Flow.d 5 _ rfl (by simp) (by kernel_rfl)
                · intro w1 hk; unfold does; go_simp; (try go_ints); exact DetR.mk
                simp only [qA0, qA1, qA2, Act.put, qS0, qS1, qS2]
                apply Flow.d 6 _ rfl (by simp) (by kernel_rfl)
                · intro w1 hk; unfold does; go_simp; (try go_ints); exact DetR.mk
                simp only [qA0, qA1, qA2, Act.put, qS0, qS1, qS2]
                apply Flow.d 7 _ rfl (by simp) (by kernel_rfl)
                · intro w1 hk; unfold does; go_simp; (try go_ints); exact DetR.mk
                simp only [qA0, qA1, qA2, Act.put, qS0, qS1, qS2]
                apply Flow.d 8 _ rfl (by simp) (by kernel_rfl)
                · intro w1 hk; unfold does; go_simp; (try go_ints); exact DetR.mk
                simp only [qA0, qA1, qA2, Act.put, qS0, qS1, qS2]
                refine Flow.one 4 _ rfl (by kernel_rfl) (fun v w' => IRow 0 w' v H ∧ Ext wr w') (fun _ _ _ ⟨h2, h3⟩ y => ⟨own_ext h2 y, h3.trans y⟩) (fun w6 hC hk => ?_) ?_
                · unfold does
                  go_simp
                  refine CallR.act ((HHa w6 hC).out.mono ?_)
                  rintro e w7 ⟨v, rfl, hr, hx⟩
                  exact ⟨v, rfl, hk.trans (hx.keep _), own_low hr (Nat.zero_le _), hC.trans hx⟩
                rintro v ⟨_, _, _⟩
                simp only [qA0, qA1, qA2, Act.put, qS0, qS1, qS2]
                refine Flow.one 9 _ rfl (by kernel_rfl) (fun v w' => v = .bool true ∧ Ext wr w') (fun _ _ _ ⟨h1, h3⟩ y => ⟨h1, h3.trans y⟩) (fun w6 hC hk => ?_) ?_
                · obtain ⟨hr, hx⟩ := hC
                  have HSa := sethas_any v H q w6 w6.heap.size (IntsR.own hr (Nat.le_refl _))
                  unfold does
                  go_simp
                  refine CallR.act (HSa.mono ?_)
                  rintro e w7 ⟨rfl, rfl⟩
                  exact ⟨_, rfl, hk, by rw [decide_eq_true Hmq.out], hx⟩
                rintro _ ⟨_, rfl, _⟩
                simp only [qA0, qA1, qA2, Act.put, qS0, qS1, qS2]
                apply Flow.d 10 _ rfl (by simp) (by kernel_rfl)
                · intro w1 hk; unfold does; go_simp; (try go_ints); exact DetR.mk
                simp only [qA0, qA1, qA2, Act.put, qS0, qS1, qS2]
                refine Flow.fin (by kernel_rfl) fun w6 hC6 hk6 => ?_
                have Hx6 := hid (Hxr2.out.trans hC6.2)
                clear hC6 hk6 hcy hcz HHa
                go_wp2
                go_roundw
                case rel => exact ⟨i + 1, by go_num, by omega, Hx6.out⟩
                case measure => simp [intOf]; omega
              · obtain rfl : i = l.length + 1 := by omega
                have HXz := hid (HX10.out.trans hxr)
                clear hxr
                go_wp2
                go_ret
                exact ⟨rfl, HXz.out⟩
    obtain ⟨xn, rfl⟩ := Int.eq_ofNat_of_zero_le (show 0 ≤ x by omega)
    have htm := tmod_nat xn k2
    have hmc := natmod xn k2
    have hxl : xn < P.nodesV := by omega
    generalize xn % k2 = r at htm hmc
    have h0 : ((k2 : Int) == 0) = false := beq_eq_false_iff_ne.2 (by have := Hk2.out; omega)
    have h1 : ((k2 : Int) = 0) = False := by have := Hk2.out; simp; omega
    have h2 : (k2 = 0) = False := by have := Hk2.out; simp; omega
    by_cases hrm : r = mm
    · have hb : ((r : Int) == (mm : Int)) = true := by rw [hrm]; simp
      have hb2 : ((r : Int) != (mm : Int)) = false := by simp only [bne, hb]; rfl
      have Hown : c.own (xn : Int) = !false := decide_eq_true (by rw [HcE.out.1, HcE.out.2.1, HcE.out.2.2.1, hmc]; omega)
      clear hrm hmc hxl
      obtain ⟨fb, hfb⟩ : ∃ fb, fb = false := ⟨_, rfl⟩
      have Hfb : Hid (c.own ((xn : Int)) = !fb) := hid (by rw [hfb]; exact Hown)
      clear Hown
      go_wp2
      go_loopw [17, 18] (fun t17 t18 wr => ∃ (i : Nat) (e : Int), t18 = .int .i64 (i : Int) ∧ t17 = .int .i64 e ∧ (1 ≤ i ∧ i ≤ l.length + 1) ∧ (e = if (fb || (l.take (i - 1)).any (badN ((P.nodesV : Int) + (P.funs.length : Int)))) = true then 2 else 0) ∧ Ext w6 wr) (fun _ t18 _ => l.length + 2 - (intOf t18).toNat)
      case atStart => exact ⟨1, 0, rfl, rfl, by omega, by rw [hfb]; simp, Ext.refl _⟩
      case round =>
        clear c0 hfb
        obtain ⟨i, e, rfl, rfl, hi, he, hxr⟩ := hrel
        have He := hid he
        have Hxr := hid hxr
        clear he hxr
        by_cases hlt : i < l.length + 1
        · obtain ⟨q, hq⟩ : ∃ q, l[i - 1]? = some q := ⟨_, List.getElem?_eq_getElem (by omega)⟩
          have cq := (HX6.out.trans Hxr.out).cellx (Hcl.out i q (by rw [show i = i - 1 + 1 by omega, List.getElem?_cons_succ]; exact hq))
          have Hnx : Hid ((l.take (i + 1 - 1)).any (badN ((P.nodesV : Int) + (P.funs.length : Int))) = ((l.take (i - 1)).any (badN ((P.nodesV : Int) + (P.funs.length : Int))) || badN ((P.nodesV : Int) + (P.funs.length : Int)) q)) := hid (by rw [show i + 1 - 1 = i - 1 + 1 by omega, List.take_add_one, hq, List.any_append]; simp)
          clear hq
          by_cases hq0 : q < 0
          · have Hbq : Hid (badN ((P.nodesV : Int) + (P.funs.length : Int)) q = true) := hid (by unfold badN; rw [decide_eq_true hq0]; rfl)
            go_wp2
            go_roundw
            case rel => exact ⟨i + 1, 2, by go_num, rfl, by omega, by rw [Hnx.out, Hbq.out]; simp, Hxr.out⟩
            case measure => simp [intOf]; omega
          · by_cases hqm : ((P.nodesV : Int) + (P.funs.length : Int)) ≤ q
            · have Hbq : Hid (badN ((P.nodesV : Int) + (P.funs.length : Int)) q = true) := hid (by unfold badN; rw [decide_eq_true hqm, Bool.or_true])
              go_wp2
              go_roundw
              case rel => exact ⟨i + 1, 2, by go_num, rfl, by omega, by rw [Hnx.out, Hbq.out]; simp, Hxr.out⟩
              case measure => simp [intOf]; omega
            · have Hbq : Hid (badN ((P.nodesV : Int) + (P.funs.length : Int)) q = false) := hid (by unfold badN; rw [decide_eq_false hq0, decide_eq_false hqm]; rfl)
              go_wp2
              go_roundw
              case rel => exact ⟨i + 1, e, by go_num, rfl, by omega, by rw [Hnx.out, Hbq.out, Bool.or_false]; exact He.out, Hxr.out⟩
              case measure => simp [intOf]; omega
        · obtain rfl : i = l.length + 1 := by omega
          rw [show l.length + 1 - 1 = l.length from rfl, List.take_length] at He
          clear hlt hi
          cases hB : c.bnd 100 ((xn : Int)) l with
          | false =>
            have he2 : e = 2 := by
              rw [He.out, if_pos]
              unfold SC.bnd at hB
              rw [Hfb.out, Hms.out] at hB
              rw [show badN = fun m n => decide (n < 0) || decide (m ≤ n) from rfl]
              revert hB
              generalize (l.any fun n => decide (n < 0) || decide (_ ≤ n)) = bb
              cases fb <;> cases bb <;> decide
            subst he2
            have HOI := HOIf _ Hxr.out
            go_wp2_with fail
            refine HOI.out.mono ?_
            intro e w8' hx
            obtain ⟨v8, rfl, hx8', hr8⟩ := hx
            have HX8 := hid ((HX6.out.trans Hxr.out).trans hx8')
            have HSh8 := hid (HSh6.out.ext (Hxr.out.trans hx8'))
            have HX38 := hid (((HX34.out.trans Hx46.out).trans Hxr.out).trans hx8')
            have HR8 : Hid (IRow 0 w8' v8 (((xn : Int)) :: l)) := hid (own_low hr8 (Nat.zero_le _))
            clear HOI hx8' hr8
            have HTk := hid (shardtake_bound c s0 100 v8 ((xn : Int)) l w8' G F g ad (HE.out.ext HX8.out).at2 HSh8.out HR8.out (.inl rfl) hB (by omega))
            unfold evOf at HTk
            clear hB
            go_wp2_with fail
            refine HTk.out.mono ?_
            intro e w9 hx
            obtain ⟨rfl, hx9⟩ := hx
            have HX9 := hid (HX8.out.trans hx9)
            have HCo := hid (coded3_c w9 ad (HAA.out.ext HX9.out) 2 (by decide) (by decide) 2 rfl)
            clear HTk hx9
            go_wp2_with fail
            refine HCo.out.mono ?_
            intro e w10 hx
            obtain ⟨rfl, hx10⟩ := hx
            have HX10 := hid (HX9.out.trans hx10)
            clear HCo hx10
            go_wp2
            go_ret
            exact ⟨rfl, HX10.out⟩
          | true =>
            have he2 : e = 0 := by
              rw [He.out, if_neg]
              unfold SC.bnd at hB
              rw [Hfb.out, Hms.out] at hB
              rw [show badN = fun m n => decide (n < 0) || decide (m ≤ n) from rfl]
              revert hB
              generalize (l.any fun n => decide (n < 0) || decide (_ ≤ n)) = bb
              cases fb <;> cases bb <;> decide
            subst he2
            have HOI := HOIf _ Hxr.out
            go_wp2_with fail
            refine HOI.out.mono ?_
            intro e w8' hx
            obtain ⟨v8, rfl, hx8', hr8⟩ := hx
            have HX8 := hid ((HX6.out.trans Hxr.out).trans hx8')
            have HSh8 := hid (HSh6.out.ext (Hxr.out.trans hx8'))
            have HX38 := hid (((HX34.out.trans Hx46.out).trans Hxr.out).trans hx8')
            have HR8 : Hid (IRow 0 w8' v8 (((xn : Int)) :: l)) := hid (own_low hr8 (Nat.zero_le _))
            clear HOI hx8' hr8
            have HTk := hid (shardtake_good c s0 100 v8 ((xn : Int)) l w8' G F g HSh8.out Hok.out HR8.out (.inl rfl) hB (by omega) (by have := Hph.out; omega))
            have HbO := hid (bnd_ok hB (.inl rfl))
            have HOw : Hid (c.own ((xn : Int)) = true) := hid (by
              unfold SC.bnd at hB
              rw [Bool.and_eq_true] at hB
              exact hB.1)
            clear hB
            go_wp2_with fail
            refine HTk.out.mono ?_
            intro e w9 hx
            obtain ⟨u2, t2, os2, F2, rfl, hr2, ht2, hS2, hN2, hF2, _, hK2⟩ := hx
            have hX38 := HX38.out
            have HX9 : Hid (Ext w w9) := hid (HX3.out.trans (Keep.new hX38 hK2 fun b hb => Nat.le_of_not_lt fun h => hb (HFo.out b h)))
            have HSh9 := hid hS2
            have HTn := hid (take_taken HcE.out.2.2.2 Hok.out HbO.out.1 rfl hr2 ht2)
            have HOk9 := hid (show ({ t2 with out := [] } : SH).Ok c.P (c.me : Nat) (c.k : Nat) from by
              have h1 := (hr2.ok HcE.out.2.2.2 (push_ok Hok.out HbO.out.1 rfl)).1
              exact ⟨h1.hnd, h1.has, h1.nnd, h1.nxt, h1.todo, fun _ h => (by cases h)⟩)
            have Hmem : Hid (100 ≠ (101 : Int) → ∀ q ∈ l, q ∈ c.hasL { t2 with out := [] } ((xn : Int))) := hid fun hk => has_taken HcE.out.2.2.2 HOk9.out HTn.out HOw.out hk rfl
            obtain ⟨au2, cu2, hu2⟩ := hN2.row.form
            subst hu2
            have HCo := hid (coded3_0 w9 ad (HAA.out.ext HX9.out))
            clear HTk hr2 ht2 hS2 hN2 hF2 hK2 hX38
            go_wp2_with fail
            refine HCo.out.mono ?_
            intro e w10 hx
            obtain ⟨rfl, hx10⟩ := hx
            have HX10 := hid (HX9.out.trans hx10)
            have HSh10 := hid (HSh9.out.ext hx10)
            clear HCo hx10 HSh9
            go_wp2
            go_loopw [20] (fun t20 wr => ∃ i : Nat, t20 = .int .i64 (i : Int) ∧ (1 ≤ i ∧ i ≤ l.length + 1) ∧ Ext w10 wr) (fun t20 _ => l.length + 2 - (intOf t20).toNat)
            case atStart => exact ⟨1, rfl, by omega, Ext.refl _⟩
            case round =>
              obtain ⟨i, rfl, hi, hxr⟩ := hrel
              have Hxr2 := hid hxr
              by_cases hlt : i < l.length + 1
              · obtain ⟨q, hq⟩ : ∃ q, l[i - 1]? = some q := ⟨_, List.getElem?_eq_getElem (by omega)⟩
                have Hmq := hid (Hmem.out (by decide) q (List.mem_of_getElem? hq))
                have hcz : ∀ w1, Keep (fun _ => False) wr w1 → w1.cell? y = some (.int .i64 ((xn : Int))) := fun w1 k => k.ext.cellx ((HX10.out.trans Hxr2.out).cellx Hcy0.out)
                have hcy : ∀ w1, Keep (fun _ => False) wr w1 → w1.cell? (y.add i) = some (.int .i64 q) := fun w1 k => k.ext.cellx ((HX10.out.trans Hxr2.out).cellx (Hcl.out i q (by rw [show i = i - 1 + 1 by omega, List.getElem?_cons_succ]; exact hq)))
                have HHa := fun w1 (hz : Ext wr w1) => hid (shardhas_any c { t2 with out := [] } ((xn : Int)) w1 _ F2 g (HSh10.out.ext (hxr.trans hz)) HOk9.out)
                obtain ⟨H, hH⟩ : ∃ H, H = c.hasL { t2 with out := [] } ((xn : Int)) := ⟨_, rfl⟩
                rw [← hH] at HHa Hmq
                clear hq hxr hH
                go_wp2
                refine wp_flow (fun _ => False) (by kernel_rfl) (by kernel_rfl) ?_
                apply Flow.d 0 _ rfl (by simp) (by kernel_rfl)
                · intro w1 hk; unfold does; go_simp; (try go_ints); exact DetR.mk
                simp only [qA0, qA1, qA2, Act.put, qS0, qS1, qS2]
                apply Flow.d 1 _ rfl (by simp) (by kernel_rfl)
                · intro w1 hk; unfold does; go_simp; (try go_ints); exact DetR.mk
                simp only [qA0, qA1, qA2, Act.put, qS0, qS1, qS2]
                apply Flow.d 2 _ rfl (by simp) (by kernel_rfl)
                · intro w1 hk; unfold does; go_simp; (try go_ints); exact DetR.mk
                simp only [qA0, qA1, qA2, Act.put, qS0, qS1, qS2]
                apply Flow.d 3 _ rfl (by simp) (by kernel_rfl)
                · intro w1 hk; unfold does; go_simp; (try go_ints); exact DetR.mk
                simp only [qA0, qA1, qA2, Act.put, qS0, qS1, qS2]
                apply Flow.d 5 _ rfl (by simp) (by kernel_rfl)
                · intro w1 hk; unfold does; go_simp; (try go_ints); exact DetR.mk
                simp only [qA0, qA1, qA2, Act.put, qS0, qS1, qS2]
                apply Flow.d 6 _ rfl (by simp) (by kernel_rfl)
                · intro w1 hk; unfold does; go_simp; (try go_ints); exact DetR.mk
                simp only [qA0, qA1, qA2, Act.put, qS0, qS1, qS2]
                apply Flow.d 7 _ rfl (by simp) (by kernel_rfl)
                · intro w1 hk; unfold does; go_simp; (try go_ints); exact DetR.mk
                simp only [qA0, qA1, qA2, Act.put, qS0, qS1, qS2]
                apply Flow.d 8 _ rfl (by simp) (by kernel_rfl)
                · intro w1 hk; unfold does; go_simp; (try go_ints); exact DetR.mk
                simp only [qA0, qA1, qA2, Act.put, qS0, qS1, qS2]
                refine Flow.one 4 _ rfl (by kernel_rfl) (fun v w' => IRow 0 w' v H ∧ Ext wr w') (fun _ _ _ ⟨h2, h3⟩ y => ⟨own_ext h2 y, h3.trans y⟩) (fun w6 hC hk => ?_) ?_
                · unfold does
                  go_simp
                  refine CallR.act ((HHa w6 hC).out.mono ?_)
                  rintro e w7 ⟨v, rfl, hr, hx⟩
                  exact ⟨v, rfl, hk.trans (hx.keep _), own_low hr (Nat.zero_le _), hC.trans hx⟩
                rintro v ⟨_, _, _⟩
                simp only [qA0, qA1, qA2, Act.put, qS0, qS1, qS2]
                refine Flow.one 9 _ rfl (by kernel_rfl) (fun v w' => v = .bool true ∧ Ext wr w') (fun _ _ _ ⟨h1, h3⟩ y => ⟨h1, h3.trans y⟩) (fun w6 hC hk => ?_) ?_
                · obtain ⟨hr, hx⟩ := hC
                  have HSa := sethas_any v H q w6 w6.heap.size (IntsR.own hr (Nat.le_refl _))
                  unfold does
                  go_simp
                  refine CallR.act (HSa.mono ?_)
                  rintro e w7 ⟨rfl, rfl⟩
                  exact ⟨_, rfl, hk, by rw [decide_eq_true Hmq.out], hx⟩
                rintro _ ⟨_, rfl, _⟩
                simp only [qA0, qA1, qA2, Act.put, qS0, qS1, qS2]
                apply Flow.d 10 _ rfl (by simp) (by kernel_rfl)
                · intro w1 hk; unfold does; go_simp; (try go_ints); exact DetR.mk
                simp only [qA0, qA1, qA2, Act.put, qS0, qS1, qS2]
                refine Flow.fin (by kernel_rfl) fun w6 hC6 hk6 => ?_
                have Hx6 := hid (Hxr2.out.trans hC6.2)
                clear hC6 hk6 hcy hcz HHa
                go_wp2
                go_roundw
                case rel => exact ⟨i + 1, by go_num, by omega, Hx6.out⟩
                case measure => simp [intOf]; omega
              · obtain rfl : i = l.length + 1 := by omega
                have HXz := hid (HX10.out.trans hxr)
                clear hxr
                go_wp2
                go_ret
                exact ⟨rfl, HXz.out⟩
    · have hb : ((r : Int) == (mm : Int)) = false := beq_eq_false_iff_ne.2 (by omega)
      have hb2 : ((r : Int) != (mm : Int)) = true := by simp only [bne, hb]; rfl
      have Hown : c.own (xn : Int) = !true := decide_eq_false fun h => hrm (by rw [HcE.out.1, HcE.out.2.1, HcE.out.2.2.1, hmc] at h; omega)
      clear hrm hmc hxl
      obtain ⟨fb, hfb⟩ : ∃ fb, fb = true := ⟨_, rfl⟩
      have Hfb : Hid (c.own ((xn : Int)) = !fb) := hid (by rw [hfb]; exact Hown)
      clear Hown
      go_wp2
      go_loopw [17, 18] (fun t17 t18 wr => ∃ (i : Nat) (e : Int), t18 = .int .i64 (i : Int) ∧ t17 = .int .i64 e ∧ (1 ≤ i ∧ i ≤ l.length + 1) ∧ (e = if (fb || (l.take (i - 1)).any (badN ((P.nodesV : Int) + (P.funs.length : Int)))) = true then 2 else 0) ∧ Ext w6 wr) (fun _ t18 _ => l.length + 2 - (intOf t18).toNat)
      case atStart => exact ⟨1, 2, rfl, rfl, by omega, by rw [hfb]; simp, Ext.refl _⟩
      case round =>
        clear c0 hfb
        obtain ⟨i, e, rfl, rfl, hi, he, hxr⟩ := hrel
        have He := hid he
        have Hxr := hid hxr
        clear he hxr
        by_cases hlt : i < l.length + 1
        · obtain ⟨q, hq⟩ : ∃ q, l[i - 1]? = some q := ⟨_, List.getElem?_eq_getElem (by omega)⟩
          have cq := (HX6.out.trans Hxr.out).cellx (Hcl.out i q (by rw [show i = i - 1 + 1 by omega, List.getElem?_cons_succ]; exact hq))
          have Hnx : Hid ((l.take (i + 1 - 1)).any (badN ((P.nodesV : Int) + (P.funs.length : Int))) = ((l.take (i - 1)).any (badN ((P.nodesV : Int) + (P.funs.length : Int))) || badN ((P.nodesV : Int) + (P.funs.length : Int)) q)) := hid (by rw [show i + 1 - 1 = i - 1 + 1 by omega, List.take_add_one, hq, List.any_append]; simp)
          clear hq
          by_cases hq0 : q < 0
          · have Hbq : Hid (badN ((P.nodesV : Int) + (P.funs.length : Int)) q = true) := hid (by unfold badN; rw [decide_eq_true hq0]; rfl)
            go_wp2
            go_roundw
            case rel => exact ⟨i + 1, 2, by go_num, rfl, by omega, by rw [Hnx.out, Hbq.out]; simp, Hxr.out⟩
            case measure => simp [intOf]; omega
          · by_cases hqm : ((P.nodesV : Int) + (P.funs.length : Int)) ≤ q
            · have Hbq : Hid (badN ((P.nodesV : Int) + (P.funs.length : Int)) q = true) := hid (by unfold badN; rw [decide_eq_true hqm, Bool.or_true])
              go_wp2
              go_roundw
              case rel => exact ⟨i + 1, 2, by go_num, rfl, by omega, by rw [Hnx.out, Hbq.out]; simp, Hxr.out⟩
              case measure => simp [intOf]; omega
            · have Hbq : Hid (badN ((P.nodesV : Int) + (P.funs.length : Int)) q = false) := hid (by unfold badN; rw [decide_eq_false hq0, decide_eq_false hqm]; rfl)
              go_wp2
              go_roundw
              case rel => exact ⟨i + 1, e, by go_num, rfl, by omega, by rw [Hnx.out, Hbq.out, Bool.or_false]; exact He.out, Hxr.out⟩
              case measure => simp [intOf]; omega
        · obtain rfl : i = l.length + 1 := by omega
          rw [show l.length + 1 - 1 = l.length from rfl, List.take_length] at He
          clear hlt hi
          cases hB : c.bnd 100 ((xn : Int)) l with
          | false =>
            have he2 : e = 2 := by
              rw [He.out, if_pos]
              unfold SC.bnd at hB
              rw [Hfb.out, Hms.out] at hB
              rw [show badN = fun m n => decide (n < 0) || decide (m ≤ n) from rfl]
              revert hB
              generalize (l.any fun n => decide (n < 0) || decide (_ ≤ n)) = bb
              cases fb <;> cases bb <;> decide
            subst he2
            have HOI := HOIf _ Hxr.out
            go_wp2_with fail
            refine HOI.out.mono ?_
            intro e w8' hx
            obtain ⟨v8, rfl, hx8', hr8⟩ := hx
            have HX8 := hid ((HX6.out.trans Hxr.out).trans hx8')
            have HSh8 := hid (HSh6.out.ext (Hxr.out.trans hx8'))
            have HX38 := hid (((HX34.out.trans Hx46.out).trans Hxr.out).trans hx8')
            have HR8 : Hid (IRow 0 w8' v8 (((xn : Int)) :: l)) := hid (own_low hr8 (Nat.zero_le _))
            clear HOI hx8' hr8
            have HTk := hid (shardtake_bound c s0 100 v8 ((xn : Int)) l w8' G F g ad (HE.out.ext HX8.out).at2 HSh8.out HR8.out (.inl rfl) hB (by omega))
            unfold evOf at HTk
            clear hB
            go_wp2_with fail
            refine HTk.out.mono ?_
            intro e w9 hx
            obtain ⟨rfl, hx9⟩ := hx
            have HX9 := hid (HX8.out.trans hx9)
            have HCo := hid (coded3_c w9 ad (HAA.out.ext HX9.out) 2 (by decide) (by decide) 2 rfl)
            clear HTk hx9
            go_wp2_with fail
            refine HCo.out.mono ?_
            intro e w10 hx
            obtain ⟨rfl, hx10⟩ := hx
            have HX10 := hid (HX9.out.trans hx10)
            clear HCo hx10
            go_wp2
            go_ret
            exact ⟨rfl, HX10.out⟩
          | true =>
            have he2 : e = 0 := by
              rw [He.out, if_neg]
              unfold SC.bnd at hB
              rw [Hfb.out, Hms.out] at hB
              rw [show badN = fun m n => decide (n < 0) || decide (m ≤ n) from rfl]
              revert hB
              generalize (l.any fun n => decide (n < 0) || decide (_ ≤ n)) = bb
              cases fb <;> cases bb <;> decide
            subst he2
            have HOI := HOIf _ Hxr.out
            go_wp2_with fail
            refine HOI.out.mono ?_
            intro e w8' hx
            obtain ⟨v8, rfl, hx8', hr8⟩ := hx
            have HX8 := hid ((HX6.out.trans Hxr.out).trans hx8')
            have HSh8 := hid (HSh6.out.ext (Hxr.out.trans hx8'))
            have HX38 := hid (((HX34.out.trans Hx46.out).trans Hxr.out).trans hx8')
            have HR8 : Hid (IRow 0 w8' v8 (((xn : Int)) :: l)) := hid (own_low hr8 (Nat.zero_le _))
            clear HOI hx8' hr8
            have HTk := hid (shardtake_good c s0 100 v8 ((xn : Int)) l w8' G F g HSh8.out Hok.out HR8.out (.inl rfl) hB (by omega) (by have := Hph.out; omega))
            have HbO := hid (bnd_ok hB (.inl rfl))
            have HOw : Hid (c.own ((xn : Int)) = true) := hid (by
              unfold SC.bnd at hB
              rw [Bool.and_eq_true] at hB
              exact hB.1)
            clear hB
            go_wp2_with fail
            refine HTk.out.mono ?_
            intro e w9 hx
            obtain ⟨u2, t2, os2, F2, rfl, hr2, ht2, hS2, hN2, hF2, _, hK2⟩ := hx
            have hX38 := HX38.out
            have HX9 : Hid (Ext w w9) := hid (HX3.out.trans (Keep.new hX38 hK2 fun b hb => Nat.le_of_not_lt fun h => hb (HFo.out b h)))
            have HSh9 := hid hS2
            have HTn := hid (take_taken HcE.out.2.2.2 Hok.out HbO.out.1 rfl hr2 ht2)
            have HOk9 := hid (show ({ t2 with out := [] } : SH).Ok c.P (c.me : Nat) (c.k : Nat) from by
              have h1 := (hr2.ok HcE.out.2.2.2 (push_ok Hok.out HbO.out.1 rfl)).1
              exact ⟨h1.hnd, h1.has, h1.nnd, h1.nxt, h1.todo, fun _ h => (by cases h)⟩)
            have Hmem : Hid (100 ≠ (101 : Int) → ∀ q ∈ l, q ∈ c.hasL { t2 with out := [] } ((xn : Int))) := hid fun hk => has_taken HcE.out.2.2.2 HOk9.out HTn.out HOw.out hk rfl
            obtain ⟨au2, cu2, hu2⟩ := hN2.row.form
            subst hu2
            have HCo := hid (coded3_0 w9 ad (HAA.out.ext HX9.out))
            clear HTk hr2 ht2 hS2 hN2 hF2 hK2 hX38
            go_wp2_with fail
            refine HCo.out.mono ?_
            intro e w10 hx
            obtain ⟨rfl, hx10⟩ := hx
            have HX10 := hid (HX9.out.trans hx10)
            have HSh10 := hid (HSh9.out.ext hx10)
            clear HCo hx10 HSh9
            go_wp2
            go_loopw [20] (fun t20 wr => ∃ i : Nat, t20 = .int .i64 (i : Int) ∧ (1 ≤ i ∧ i ≤ l.length + 1) ∧ Ext w10 wr) (fun t20 _ => l.length + 2 - (intOf t20).toNat)
            case atStart => exact ⟨1, rfl, by omega, Ext.refl _⟩
            case round =>
              obtain ⟨i, rfl, hi, hxr⟩ := hrel
              have Hxr2 := hid hxr
              by_cases hlt : i < l.length + 1
              · obtain ⟨q, hq⟩ : ∃ q, l[i - 1]? = some q := ⟨_, List.getElem?_eq_getElem (by omega)⟩
                have Hmq := hid (Hmem.out (by decide) q (List.mem_of_getElem? hq))
                have hcz : ∀ w1, Keep (fun _ => False) wr w1 → w1.cell? y = some (.int .i64 ((xn : Int))) := fun w1 k => k.ext.cellx ((HX10.out.trans Hxr2.out).cellx Hcy0.out)
                have hcy : ∀ w1, Keep (fun _ => False) wr w1 → w1.cell? (y.add i) = some (.int .i64 q) := fun w1 k => k.ext.cellx ((HX10.out.trans Hxr2.out).cellx (Hcl.out i q (by rw [show i = i - 1 + 1 by omega, List.getElem?_cons_succ]; exact hq)))
                have HHa := fun w1 (hz : Ext wr w1) => hid (shardhas_any c { t2 with out := [] } ((xn : Int)) w1 _ F2 g (HSh10.out.ext (hxr.trans hz)) HOk9.out)
                obtain ⟨H, hH⟩ : ∃ H, H = c.hasL { t2 with out := [] } ((xn : Int)) := ⟨_, rfl⟩
                rw [← hH] at HHa Hmq
                clear hq hxr hH
                go_wp2
                refine wp_flow (fun _ => False) (by kernel_rfl) (by kernel_rfl) ?_
                apply Flow.d 0 _ rfl (by simp) (by kernel_rfl)
                · intro w1 hk; unfold does; go_simp; (try go_ints); exact DetR.mk
                simp only [qA0, qA1, qA2, Act.put, qS0, qS1, qS2]
                apply Flow.d 1 _ rfl (by simp) (by kernel_rfl)
                · intro w1 hk; unfold does; go_simp; (try go_ints); exact DetR.mk
                simp only [qA0, qA1, qA2, Act.put, qS0, qS1, qS2]
                apply Flow.d 2 _ rfl (by simp) (by kernel_rfl)
                · intro w1 hk; unfold does; go_simp; (try go_ints); exact DetR.mk
                simp only [qA0, qA1, qA2, Act.put, qS0, qS1, qS2]
                apply Flow.d 3 _ rfl (by simp) (by kernel_rfl)
                · intro w1 hk; unfold does; go_simp; (try go_ints); exact DetR.mk
                simp only [qA0, qA1, qA2, Act.put, qS0, qS1, qS2]
                apply Flow.d 5 _ rfl (by simp) (by kernel_rfl)
                · intro w1 hk; unfold does; go_simp; (try go_ints); exact DetR.mk
                simp only [qA0, qA1, qA2, Act.put, qS0, qS1, qS2]
                apply Flow.d 6 _ rfl (by simp) (by kernel_rfl)
                · intro w1 hk; unfold does; go_simp; (try go_ints); exact DetR.mk
                simp only [qA0, qA1, qA2, Act.put, qS0, qS1, qS2]
                apply Flow.d 7 _ rfl (by simp) (by kernel_rfl)
                · intro w1 hk; unfold does; go_simp; (try go_ints); exact DetR.mk
                simp only [qA0, qA1, qA2, Act.put, qS0, qS1, qS2]
                apply Flow.d 8 _ rfl (by simp) (by kernel_rfl)
                · intro w1 hk; unfold does; go_simp; (try go_ints); exact DetR.mk
                simp only [qA0, qA1, qA2, Act.put, qS0, qS1, qS2]
                refine Flow.one 4 _ rfl (by kernel_rfl) (fun v w' => IRow 0 w' v H ∧ Ext wr w') (fun _ _ _ ⟨h2, h3⟩ y => ⟨own_ext h2 y, h3.trans y⟩) (fun w6 hC hk => ?_) ?_
                · unfold does
                  go_simp
                  refine CallR.act ((HHa w6 hC).out.mono ?_)
                  rintro e w7 ⟨v, rfl, hr, hx⟩
                  exact ⟨v, rfl, hk.trans (hx.keep _), own_low hr (Nat.zero_le _), hC.trans hx⟩
                rintro v ⟨_, _, _⟩
                simp only [qA0, qA1, qA2, Act.put, qS0, qS1, qS2]
                refine Flow.one 9 _ rfl (by kernel_rfl) (fun v w' => v = .bool true ∧ Ext wr w') (fun _ _ _ ⟨h1, h3⟩ y => ⟨h1, h3.trans y⟩) (fun w6 hC hk => ?_) ?_
                · obtain ⟨hr, hx⟩ := hC
                  have HSa := sethas_any v H q w6 w6.heap.size (IntsR.own hr (Nat.le_refl _))
                  unfold does
                  go_simp
                  refine CallR.act (HSa.mono ?_)
                  rintro e w7 ⟨rfl, rfl⟩
                  exact ⟨_, rfl, hk, by rw [decide_eq_true Hmq.out], hx⟩
                rintro _ ⟨_, rfl, _⟩
                simp only [qA0, qA1, qA2, Act.put, qS0, qS1, qS2]
                apply Flow.d 10 _ rfl (by simp) (by kernel_rfl)
                · intro w1 hk; unfold does; go_simp; (try go_ints); exact DetR.mk
                simp only [qA0, qA1, qA2, Act.put, qS0, qS1, qS2]
                refine Flow.fin (by kernel_rfl) fun w6 hC6 hk6 => ?_
                have Hx6 := hid (Hxr2.out.trans hC6.2)
                clear hC6 hk6 hcy hcz HHa
                go_wp2
                go_roundw
                case rel => exact ⟨i + 1, by go_num, by omega, Hx6.out⟩
                case measure => simp [intOf]; omega
              · obtain rfl : i = l.length + 1 := by omega
                have HXz := hid (HX10.out.trans hxr)
                clear hxr
                go_wp2
                go_ret
                exact ⟨rfl, HXz.out⟩
  · have hl1 : l.length = 1 := by
      have : (x :: l).length = 2 := Classical.byContradiction fun h => hsh (.inr ⟨rfl, h⟩)
      simpa using this
    have Hl1 := hid hl1
    clear hl1
    have Hms : Hid (c.most 101 = (P.nodesV : Int)) := hid (by
      unfold SC.most
      rw [if_pos rfl, HcE.out.1])
    have e1 : ((l.length : Int) + 1 == 2) = true := beq_iff_eq.2 (by have := Hl1.out; omega)
    have e2 : ((l.length : Int) + 1 != 2) = false := by simp only [bne, e1]; rfl
    have e3 : ((l.length : Int) + 1 = 2) = True := by have := Hl1.out; simp; omega
    have e4 : (l.length = 1) = True := by have := Hl1.out; simp [this]
    clear hsh
    by_cases hx0 : x < 0
    · have Hown : c.own x = !true := decide_eq_false fun h => by omega
      obtain ⟨fb, hfb⟩ : ∃ fb, fb = true := ⟨_, rfl⟩
      have Hfb : Hid (c.own (x) = !fb) := hid (by rw [hfb]; exact Hown)
      clear Hown
      go_wp2
      go_loopw [17, 18] (fun t17 t18 wr => ∃ (i : Nat) (e : Int), t18 = .int .i64 (i : Int) ∧ t17 = .int .i64 e ∧ (1 ≤ i ∧ i ≤ l.length + 1) ∧ (e = if (fb || (l.take (i - 1)).any (badN (P.nodesV : Int))) = true then 2 else 0) ∧ Ext w6 wr) (fun _ t18 _ => l.length + 2 - (intOf t18).toNat)
      case atStart => exact ⟨1, 2, rfl, rfl, by omega, by rw [hfb]; simp, Ext.refl _⟩
      case round =>
        clear c0 hfb
        obtain ⟨i, e, rfl, rfl, hi, he, hxr⟩ := hrel
        have He := hid he
        have Hxr := hid hxr
        clear he hxr
        by_cases hlt : i < l.length + 1
        · obtain ⟨q, hq⟩ : ∃ q, l[i - 1]? = some q := ⟨_, List.getElem?_eq_getElem (by omega)⟩
          have cq := (HX6.out.trans Hxr.out).cellx (Hcl.out i q (by rw [show i = i - 1 + 1 by omega, List.getElem?_cons_succ]; exact hq))
          have Hnx : Hid ((l.take (i + 1 - 1)).any (badN (P.nodesV : Int)) = ((l.take (i - 1)).any (badN (P.nodesV : Int)) || badN (P.nodesV : Int) q)) := hid (by rw [show i + 1 - 1 = i - 1 + 1 by omega, List.take_add_one, hq, List.any_append]; simp)
          clear hq
          by_cases hq0 : q < 0
          · have Hbq : Hid (badN (P.nodesV : Int) q = true) := hid (by unfold badN; rw [decide_eq_true hq0]; rfl)
            go_wp2
            go_roundw
            case rel => exact ⟨i + 1, 2, by go_num, rfl, by omega, by rw [Hnx.out, Hbq.out]; simp, Hxr.out⟩
            case measure => simp [intOf]; omega
          · by_cases hqm : (P.nodesV : Int) ≤ q
            · have Hbq : Hid (badN (P.nodesV : Int) q = true) := hid (by unfold badN; rw [decide_eq_true hqm, Bool.or_true])
              go_wp2
              go_roundw
              case rel => exact ⟨i + 1, 2, by go_num, rfl, by omega, by rw [Hnx.out, Hbq.out]; simp, Hxr.out⟩
              case measure => simp [intOf]; omega
            · have Hbq : Hid (badN (P.nodesV : Int) q = false) := hid (by unfold badN; rw [decide_eq_false hq0, decide_eq_false hqm]; rfl)
              go_wp2
              go_roundw
              case rel => exact ⟨i + 1, e, by go_num, rfl, by omega, by rw [Hnx.out, Hbq.out, Bool.or_false]; exact He.out, Hxr.out⟩
              case measure => simp [intOf]; omega
        · obtain rfl : i = l.length + 1 := by omega
          rw [show l.length + 1 - 1 = l.length from rfl, List.take_length] at He
          clear hlt hi
          cases hB : c.bnd 101 (x) l with
          | false =>
            have he2 : e = 2 := by
              rw [He.out, if_pos]
              unfold SC.bnd at hB
              rw [Hfb.out, Hms.out] at hB
              rw [show badN = fun m n => decide (n < 0) || decide (m ≤ n) from rfl]
              revert hB
              generalize (l.any fun n => decide (n < 0) || decide (_ ≤ n)) = bb
              cases fb <;> cases bb <;> decide
            subst he2
            have HOI := HOIf _ Hxr.out
            go_wp2_with fail
            refine HOI.out.mono ?_
            intro e w8' hx
            obtain ⟨v8, rfl, hx8', hr8⟩ := hx
            have HX8 := hid ((HX6.out.trans Hxr.out).trans hx8')
            have HSh8 := hid (HSh6.out.ext (Hxr.out.trans hx8'))
            have HX38 := hid (((HX34.out.trans Hx46.out).trans Hxr.out).trans hx8')
            have HR8 : Hid (IRow 0 w8' v8 ((x) :: l)) := hid (own_low hr8 (Nat.zero_le _))
            clear HOI hx8' hr8
            have HTk := hid (shardtake_bound c s0 101 v8 (x) l w8' G F g ad (HE.out.ext HX8.out).at2 HSh8.out HR8.out (.inr ⟨rfl, Hl1.out⟩) hB (by omega))
            unfold evOf at HTk
            clear hB
            go_wp2_with fail
            refine HTk.out.mono ?_
            intro e w9 hx
            obtain ⟨rfl, hx9⟩ := hx
            have HX9 := hid (HX8.out.trans hx9)
            have HCo := hid (coded3_c w9 ad (HAA.out.ext HX9.out) 2 (by decide) (by decide) 2 rfl)
            clear HTk hx9
            go_wp2_with fail
            refine HCo.out.mono ?_
            intro e w10 hx
            obtain ⟨rfl, hx10⟩ := hx
            have HX10 := hid (HX9.out.trans hx10)
            clear HCo hx10
            go_wp2
            go_ret
            exact ⟨rfl, HX10.out⟩
          | true =>
            have he2 : e = 0 := by
              rw [He.out, if_neg]
              unfold SC.bnd at hB
              rw [Hfb.out, Hms.out] at hB
              rw [show badN = fun m n => decide (n < 0) || decide (m ≤ n) from rfl]
              revert hB
              generalize (l.any fun n => decide (n < 0) || decide (_ ≤ n)) = bb
              cases fb <;> cases bb <;> decide
            subst he2
            have HOI := HOIf _ Hxr.out
            go_wp2_with fail
            refine HOI.out.mono ?_
            intro e w8' hx
            obtain ⟨v8, rfl, hx8', hr8⟩ := hx
            have HX8 := hid ((HX6.out.trans Hxr.out).trans hx8')
            have HSh8 := hid (HSh6.out.ext (Hxr.out.trans hx8'))
            have HX38 := hid (((HX34.out.trans Hx46.out).trans Hxr.out).trans hx8')
            have HR8 : Hid (IRow 0 w8' v8 ((x) :: l)) := hid (own_low hr8 (Nat.zero_le _))
            clear HOI hx8' hr8
            have HTk := hid (shardtake_good c s0 101 v8 (x) l w8' G F g HSh8.out Hok.out HR8.out (.inr ⟨rfl, Hl1.out⟩) hB (by omega) (by have := Hph.out; omega))
            have HbO := hid (bnd_ok hB (.inr ⟨rfl, Hl1.out⟩))
            have HOw : Hid (c.own (x) = true) := hid (by
              unfold SC.bnd at hB
              rw [Bool.and_eq_true] at hB
              exact hB.1)
            clear hB
            go_wp2_with fail
            refine HTk.out.mono ?_
            intro e w9 hx
            obtain ⟨u2, t2, os2, F2, rfl, hr2, ht2, hS2, hN2, hF2, _, hK2⟩ := hx
            have hX38 := HX38.out
            have HX9 : Hid (Ext w w9) := hid (HX3.out.trans (Keep.new hX38 hK2 fun b hb => Nat.le_of_not_lt fun h => hb (HFo.out b h)))
            have HSh9 := hid hS2
            have HTn := hid (take_taken HcE.out.2.2.2 Hok.out HbO.out.1 rfl hr2 ht2)
            have HOk9 := hid (show ({ t2 with out := [] } : SH).Ok c.P (c.me : Nat) (c.k : Nat) from by
              have h1 := (hr2.ok HcE.out.2.2.2 (push_ok Hok.out HbO.out.1 rfl)).1
              exact ⟨h1.hnd, h1.has, h1.nnd, h1.nxt, h1.todo, fun _ h => (by cases h)⟩)
            have Hmem : Hid (101 ≠ (101 : Int) → ∀ q ∈ l, q ∈ c.hasL { t2 with out := [] } (x)) := hid fun hk => has_taken HcE.out.2.2.2 HOk9.out HTn.out HOw.out hk rfl
            obtain ⟨au2, cu2, hu2⟩ := hN2.row.form
            subst hu2
            have HCo := hid (coded3_0 w9 ad (HAA.out.ext HX9.out))
            clear HTk hr2 ht2 hS2 hN2 hF2 hK2 hX38
            go_wp2_with fail
            refine HCo.out.mono ?_
            intro e w10 hx
            obtain ⟨rfl, hx10⟩ := hx
            have HX10 := hid (HX9.out.trans hx10)
            have HSh10 := hid (HSh9.out.ext hx10)
            clear HCo hx10 HSh9
            go_wp2
            go_ret
            exact ⟨rfl, HX10.out⟩
    by_cases hx1 : (P.nodesV : Int) ≤ x
    · have Hown : c.own x = !true := decide_eq_false fun h => by rw [HcE.out.1] at h; omega
      obtain ⟨fb, hfb⟩ : ∃ fb, fb = true := ⟨_, rfl⟩
      have Hfb : Hid (c.own (x) = !fb) := hid (by rw [hfb]; exact Hown)
      clear Hown
      go_wp2
      go_loopw [17, 18] (fun t17 t18 wr => ∃ (i : Nat) (e : Int), t18 = .int .i64 (i : Int) ∧ t17 = .int .i64 e ∧ (1 ≤ i ∧ i ≤ l.length + 1) ∧ (e = if (fb || (l.take (i - 1)).any (badN (P.nodesV : Int))) = true then 2 else 0) ∧ Ext w6 wr) (fun _ t18 _ => l.length + 2 - (intOf t18).toNat)
      case atStart => exact ⟨1, 2, rfl, rfl, by omega, by rw [hfb]; simp, Ext.refl _⟩
      case round =>
        clear c0 hfb
        obtain ⟨i, e, rfl, rfl, hi, he, hxr⟩ := hrel
        have He := hid he
        have Hxr := hid hxr
        clear he hxr
        by_cases hlt : i < l.length + 1
        · obtain ⟨q, hq⟩ : ∃ q, l[i - 1]? = some q := ⟨_, List.getElem?_eq_getElem (by omega)⟩
          have cq := (HX6.out.trans Hxr.out).cellx (Hcl.out i q (by rw [show i = i - 1 + 1 by omega, List.getElem?_cons_succ]; exact hq))
          have Hnx : Hid ((l.take (i + 1 - 1)).any (badN (P.nodesV : Int)) = ((l.take (i - 1)).any (badN (P.nodesV : Int)) || badN (P.nodesV : Int) q)) := hid (by rw [show i + 1 - 1 = i - 1 + 1 by omega, List.take_add_one, hq, List.any_append]; simp)
          clear hq
          by_cases hq0 : q < 0
          · have Hbq : Hid (badN (P.nodesV : Int) q = true) := hid (by unfold badN; rw [decide_eq_true hq0]; rfl)
            go_wp2
            go_roundw
            case rel => exact ⟨i + 1, 2, by go_num, rfl, by omega, by rw [Hnx.out, Hbq.out]; simp, Hxr.out⟩
            case measure => simp [intOf]; omega
          · by_cases hqm : (P.nodesV : Int) ≤ q
            · have Hbq : Hid (badN (P.nodesV : Int) q = true) := hid (by unfold badN; rw [decide_eq_true hqm, Bool.or_true])
              go_wp2
              go_roundw
              case rel => exact ⟨i + 1, 2, by go_num, rfl, by omega, by rw [Hnx.out, Hbq.out]; simp, Hxr.out⟩
              case measure => simp [intOf]; omega
            · have Hbq : Hid (badN (P.nodesV : Int) q = false) := hid (by unfold badN; rw [decide_eq_false hq0, decide_eq_false hqm]; rfl)
              go_wp2
              go_roundw
              case rel => exact ⟨i + 1, e, by go_num, rfl, by omega, by rw [Hnx.out, Hbq.out, Bool.or_false]; exact He.out, Hxr.out⟩
              case measure => simp [intOf]; omega
        · obtain rfl : i = l.length + 1 := by omega
          rw [show l.length + 1 - 1 = l.length from rfl, List.take_length] at He
          clear hlt hi
          cases hB : c.bnd 101 (x) l with
          | false =>
            have he2 : e = 2 := by
              rw [He.out, if_pos]
              unfold SC.bnd at hB
              rw [Hfb.out, Hms.out] at hB
              rw [show badN = fun m n => decide (n < 0) || decide (m ≤ n) from rfl]
              revert hB
              generalize (l.any fun n => decide (n < 0) || decide (_ ≤ n)) = bb
              cases fb <;> cases bb <;> decide
            subst he2
            have HOI := HOIf _ Hxr.out
            go_wp2_with fail
            refine HOI.out.mono ?_
            intro e w8' hx
            obtain ⟨v8, rfl, hx8', hr8⟩ := hx
            have HX8 := hid ((HX6.out.trans Hxr.out).trans hx8')
            have HSh8 := hid (HSh6.out.ext (Hxr.out.trans hx8'))
            have HX38 := hid (((HX34.out.trans Hx46.out).trans Hxr.out).trans hx8')
            have HR8 : Hid (IRow 0 w8' v8 ((x) :: l)) := hid (own_low hr8 (Nat.zero_le _))
            clear HOI hx8' hr8
            have HTk := hid (shardtake_bound c s0 101 v8 (x) l w8' G F g ad (HE.out.ext HX8.out).at2 HSh8.out HR8.out (.inr ⟨rfl, Hl1.out⟩) hB (by omega))
            unfold evOf at HTk
            clear hB
            go_wp2_with fail
            refine HTk.out.mono ?_
            intro e w9 hx
            obtain ⟨rfl, hx9⟩ := hx
            have HX9 := hid (HX8.out.trans hx9)
            have HCo := hid (coded3_c w9 ad (HAA.out.ext HX9.out) 2 (by decide) (by decide) 2 rfl)
            clear HTk hx9
            go_wp2_with fail
            refine HCo.out.mono ?_
            intro e w10 hx
            obtain ⟨rfl, hx10⟩ := hx
            have HX10 := hid (HX9.out.trans hx10)
            clear HCo hx10
            go_wp2
            go_ret
            exact ⟨rfl, HX10.out⟩
          | true =>
            have he2 : e = 0 := by
              rw [He.out, if_neg]
              unfold SC.bnd at hB
              rw [Hfb.out, Hms.out] at hB
              rw [show badN = fun m n => decide (n < 0) || decide (m ≤ n) from rfl]
              revert hB
              generalize (l.any fun n => decide (n < 0) || decide (_ ≤ n)) = bb
              cases fb <;> cases bb <;> decide
            subst he2
            have HOI := HOIf _ Hxr.out
            go_wp2_with fail
            refine HOI.out.mono ?_
            intro e w8' hx
            obtain ⟨v8, rfl, hx8', hr8⟩ := hx
            have HX8 := hid ((HX6.out.trans Hxr.out).trans hx8')
            have HSh8 := hid (HSh6.out.ext (Hxr.out.trans hx8'))
            have HX38 := hid (((HX34.out.trans Hx46.out).trans Hxr.out).trans hx8')
            have HR8 : Hid (IRow 0 w8' v8 ((x) :: l)) := hid (own_low hr8 (Nat.zero_le _))
            clear HOI hx8' hr8
            have HTk := hid (shardtake_good c s0 101 v8 (x) l w8' G F g HSh8.out Hok.out HR8.out (.inr ⟨rfl, Hl1.out⟩) hB (by omega) (by have := Hph.out; omega))
            have HbO := hid (bnd_ok hB (.inr ⟨rfl, Hl1.out⟩))
            have HOw : Hid (c.own (x) = true) := hid (by
              unfold SC.bnd at hB
              rw [Bool.and_eq_true] at hB
              exact hB.1)
            clear hB
            go_wp2_with fail
            refine HTk.out.mono ?_
            intro e w9 hx
            obtain ⟨u2, t2, os2, F2, rfl, hr2, ht2, hS2, hN2, hF2, _, hK2⟩ := hx
            have hX38 := HX38.out
            have HX9 : Hid (Ext w w9) := hid (HX3.out.trans (Keep.new hX38 hK2 fun b hb => Nat.le_of_not_lt fun h => hb (HFo.out b h)))
            have HSh9 := hid hS2
            have HTn := hid (take_taken HcE.out.2.2.2 Hok.out HbO.out.1 rfl hr2 ht2)
            have HOk9 := hid (show ({ t2 with out := [] } : SH).Ok c.P (c.me : Nat) (c.k : Nat) from by
              have h1 := (hr2.ok HcE.out.2.2.2 (push_ok Hok.out HbO.out.1 rfl)).1
              exact ⟨h1.hnd, h1.has, h1.nnd, h1.nxt, h1.todo, fun _ h => (by cases h)⟩)
            have Hmem : Hid (101 ≠ (101 : Int) → ∀ q ∈ l, q ∈ c.hasL { t2 with out := [] } (x)) := hid fun hk => has_taken HcE.out.2.2.2 HOk9.out HTn.out HOw.out hk rfl
            obtain ⟨au2, cu2, hu2⟩ := hN2.row.form
            subst hu2
            have HCo := hid (coded3_0 w9 ad (HAA.out.ext HX9.out))
            clear HTk hr2 ht2 hS2 hN2 hF2 hK2 hX38
            go_wp2_with fail
            refine HCo.out.mono ?_
            intro e w10 hx
            obtain ⟨rfl, hx10⟩ := hx
            have HX10 := hid (HX9.out.trans hx10)
            have HSh10 := hid (HSh9.out.ext hx10)
            clear HCo hx10 HSh9
            go_wp2
            go_ret
            exact ⟨rfl, HX10.out⟩
    obtain ⟨xn, rfl⟩ := Int.eq_ofNat_of_zero_le (show 0 ≤ x by omega)
    have htm := tmod_nat xn k2
    have hmc := natmod xn k2
    have hxl : xn < P.nodesV := by omega
    generalize xn % k2 = r at htm hmc
    have h0 : ((k2 : Int) == 0) = false := beq_eq_false_iff_ne.2 (by have := Hk2.out; omega)
    have h1 : ((k2 : Int) = 0) = False := by have := Hk2.out; simp; omega
    have h2 : (k2 = 0) = False := by have := Hk2.out; simp; omega
    by_cases hrm : r = mm
    · have hb : ((r : Int) == (mm : Int)) = true := by rw [hrm]; simp
      have hb2 : ((r : Int) != (mm : Int)) = false := by simp only [bne, hb]; rfl
      have Hown : c.own (xn : Int) = !false := decide_eq_true (by rw [HcE.out.1, HcE.out.2.1, HcE.out.2.2.1, hmc]; omega)
      clear hrm hmc hxl
      obtain ⟨fb, hfb⟩ : ∃ fb, fb = false := ⟨_, rfl⟩
      have Hfb : Hid (c.own ((xn : Int)) = !fb) := hid (by rw [hfb]; exact Hown)
      clear Hown
      go_wp2
      go_loopw [17, 18] (fun t17 t18 wr => ∃ (i : Nat) (e : Int), t18 = .int .i64 (i : Int) ∧ t17 = .int .i64 e ∧ (1 ≤ i ∧ i ≤ l.length + 1) ∧ (e = if (fb || (l.take (i - 1)).any (badN (P.nodesV : Int))) = true then 2 else 0) ∧ Ext w6 wr) (fun _ t18 _ => l.length + 2 - (intOf t18).toNat)
      case atStart => exact ⟨1, 0, rfl, rfl, by omega, by rw [hfb]; simp, Ext.refl _⟩
      case round =>
        clear c0 hfb
        obtain ⟨i, e, rfl, rfl, hi, he, hxr⟩ := hrel
        have He := hid he
        have Hxr := hid hxr
        clear he hxr
        by_cases hlt : i < l.length + 1
        · obtain ⟨q, hq⟩ : ∃ q, l[i - 1]? = some q := ⟨_, List.getElem?_eq_getElem (by omega)⟩
          have cq := (HX6.out.trans Hxr.out).cellx (Hcl.out i q (by rw [show i = i - 1 + 1 by omega, List.getElem?_cons_succ]; exact hq))
          have Hnx : Hid ((l.take (i + 1 - 1)).any (badN (P.nodesV : Int)) = ((l.take (i - 1)).any (badN (P.nodesV : Int)) || badN (P.nodesV : Int) q)) := hid (by rw [show i + 1 - 1 = i - 1 + 1 by omega, List.take_add_one, hq, List.any_append]; simp)
          clear hq
          by_cases hq0 : q < 0
          · have Hbq : Hid (badN (P.nodesV : Int) q = true) := hid (by unfold badN; rw [decide_eq_true hq0]; rfl)
            go_wp2
            go_roundw
            case rel => exact ⟨i + 1, 2, by go_num, rfl, by omega, by rw [Hnx.out, Hbq.out]; simp, Hxr.out⟩
            case measure => simp [intOf]; omega
          · by_cases hqm : (P.nodesV : Int) ≤ q
            · have Hbq : Hid (badN (P.nodesV : Int) q = true) := hid (by unfold badN; rw [decide_eq_true hqm, Bool.or_true])
              go_wp2
              go_roundw
              case rel => exact ⟨i + 1, 2, by go_num, rfl, by omega, by rw [Hnx.out, Hbq.out]; simp, Hxr.out⟩
              case measure => simp [intOf]; omega
            · have Hbq : Hid (badN (P.nodesV : Int) q = false) := hid (by unfold badN; rw [decide_eq_false hq0, decide_eq_false hqm]; rfl)
              go_wp2
              go_roundw
              case rel => exact ⟨i + 1, e, by go_num, rfl, by omega, by rw [Hnx.out, Hbq.out, Bool.or_false]; exact He.out, Hxr.out⟩
              case measure => simp [intOf]; omega
        · obtain rfl : i = l.length + 1 := by omega
          rw [show l.length + 1 - 1 = l.length from rfl, List.take_length] at He
          clear hlt hi
          cases hB : c.bnd 101 ((xn : Int)) l with
          | false =>
            have he2 : e = 2 := by
              rw [He.out, if_pos]
              unfold SC.bnd at hB
              rw [Hfb.out, Hms.out] at hB
              rw [show badN = fun m n => decide (n < 0) || decide (m ≤ n) from rfl]
              revert hB
              generalize (l.any fun n => decide (n < 0) || decide (_ ≤ n)) = bb
              cases fb <;> cases bb <;> decide
            subst he2
            have HOI := HOIf _ Hxr.out
            go_wp2_with fail
            refine HOI.out.mono ?_
            intro e w8' hx
            obtain ⟨v8, rfl, hx8', hr8⟩ := hx
            have HX8 := hid ((HX6.out.trans Hxr.out).trans hx8')
            have HSh8 := hid (HSh6.out.ext (Hxr.out.trans hx8'))
            have HX38 := hid (((HX34.out.trans Hx46.out).trans Hxr.out).trans hx8')
            have HR8 : Hid (IRow 0 w8' v8 (((xn : Int)) :: l)) := hid (own_low hr8 (Nat.zero_le _))
            clear HOI hx8' hr8
            have HTk := hid (shardtake_bound c s0 101 v8 ((xn : Int)) l w8' G F g ad (HE.out.ext HX8.out).at2 HSh8.out HR8.out (.inr ⟨rfl, Hl1.out⟩) hB (by omega))
            unfold evOf at HTk
            clear hB
            go_wp2_with fail
            refine HTk.out.mono ?_
            intro e w9 hx
            obtain ⟨rfl, hx9⟩ := hx
            have HX9 := hid (HX8.out.trans hx9)
            have HCo := hid (coded3_c w9 ad (HAA.out.ext HX9.out) 2 (by decide) (by decide) 2 rfl)
            clear HTk hx9
            go_wp2_with fail
            refine HCo.out.mono ?_
            intro e w10 hx
            obtain ⟨rfl, hx10⟩ := hx
            have HX10 := hid (HX9.out.trans hx10)
            clear HCo hx10
            go_wp2
            go_ret
            exact ⟨rfl, HX10.out⟩
          | true =>
            have he2 : e = 0 := by
              rw [He.out, if_neg]
              unfold SC.bnd at hB
              rw [Hfb.out, Hms.out] at hB
              rw [show badN = fun m n => decide (n < 0) || decide (m ≤ n) from rfl]
              revert hB
              generalize (l.any fun n => decide (n < 0) || decide (_ ≤ n)) = bb
              cases fb <;> cases bb <;> decide
            subst he2
            have HOI := HOIf _ Hxr.out
            go_wp2_with fail
            refine HOI.out.mono ?_
            intro e w8' hx
            obtain ⟨v8, rfl, hx8', hr8⟩ := hx
            have HX8 := hid ((HX6.out.trans Hxr.out).trans hx8')
            have HSh8 := hid (HSh6.out.ext (Hxr.out.trans hx8'))
            have HX38 := hid (((HX34.out.trans Hx46.out).trans Hxr.out).trans hx8')
            have HR8 : Hid (IRow 0 w8' v8 (((xn : Int)) :: l)) := hid (own_low hr8 (Nat.zero_le _))
            clear HOI hx8' hr8
            have HTk := hid (shardtake_good c s0 101 v8 ((xn : Int)) l w8' G F g HSh8.out Hok.out HR8.out (.inr ⟨rfl, Hl1.out⟩) hB (by omega) (by have := Hph.out; omega))
            have HbO := hid (bnd_ok hB (.inr ⟨rfl, Hl1.out⟩))
            have HOw : Hid (c.own ((xn : Int)) = true) := hid (by
              unfold SC.bnd at hB
              rw [Bool.and_eq_true] at hB
              exact hB.1)
            clear hB
            go_wp2_with fail
            refine HTk.out.mono ?_
            intro e w9 hx
            obtain ⟨u2, t2, os2, F2, rfl, hr2, ht2, hS2, hN2, hF2, _, hK2⟩ := hx
            have hX38 := HX38.out
            have HX9 : Hid (Ext w w9) := hid (HX3.out.trans (Keep.new hX38 hK2 fun b hb => Nat.le_of_not_lt fun h => hb (HFo.out b h)))
            have HSh9 := hid hS2
            have HTn := hid (take_taken HcE.out.2.2.2 Hok.out HbO.out.1 rfl hr2 ht2)
            have HOk9 := hid (show ({ t2 with out := [] } : SH).Ok c.P (c.me : Nat) (c.k : Nat) from by
              have h1 := (hr2.ok HcE.out.2.2.2 (push_ok Hok.out HbO.out.1 rfl)).1
              exact ⟨h1.hnd, h1.has, h1.nnd, h1.nxt, h1.todo, fun _ h => (by cases h)⟩)
            have Hmem : Hid (101 ≠ (101 : Int) → ∀ q ∈ l, q ∈ c.hasL { t2 with out := [] } ((xn : Int))) := hid fun hk => has_taken HcE.out.2.2.2 HOk9.out HTn.out HOw.out hk rfl
            obtain ⟨au2, cu2, hu2⟩ := hN2.row.form
            subst hu2
            have HCo := hid (coded3_0 w9 ad (HAA.out.ext HX9.out))
            clear HTk hr2 ht2 hS2 hN2 hF2 hK2 hX38
            go_wp2_with fail
            refine HCo.out.mono ?_
            intro e w10 hx
            obtain ⟨rfl, hx10⟩ := hx
            have HX10 := hid (HX9.out.trans hx10)
            have HSh10 := hid (HSh9.out.ext hx10)
            clear HCo hx10 HSh9
            go_wp2
            go_ret
            exact ⟨rfl, HX10.out⟩
    · have hb : ((r : Int) == (mm : Int)) = false := beq_eq_false_iff_ne.2 (by omega)
      have hb2 : ((r : Int) != (mm : Int)) = true := by simp only [bne, hb]; rfl
      have Hown : c.own (xn : Int) = !true := decide_eq_false fun h => hrm (by rw [HcE.out.1, HcE.out.2.1, HcE.out.2.2.1, hmc] at h; omega)
      clear hrm hmc hxl
      obtain ⟨fb, hfb⟩ : ∃ fb, fb = true := ⟨_, rfl⟩
      have Hfb : Hid (c.own ((xn : Int)) = !fb) := hid (by rw [hfb]; exact Hown)
      clear Hown
      go_wp2
      go_loopw [17, 18] (fun t17 t18 wr => ∃ (i : Nat) (e : Int), t18 = .int .i64 (i : Int) ∧ t17 = .int .i64 e ∧ (1 ≤ i ∧ i ≤ l.length + 1) ∧ (e = if (fb || (l.take (i - 1)).any (badN (P.nodesV : Int))) = true then 2 else 0) ∧ Ext w6 wr) (fun _ t18 _ => l.length + 2 - (intOf t18).toNat)
      case atStart => exact ⟨1, 2, rfl, rfl, by omega, by rw [hfb]; simp, Ext.refl _⟩
      case round =>
        clear c0 hfb
        obtain ⟨i, e, rfl, rfl, hi, he, hxr⟩ := hrel
        have He := hid he
        have Hxr := hid hxr
        clear he hxr
        by_cases hlt : i < l.length + 1
        · obtain ⟨q, hq⟩ : ∃ q, l[i - 1]? = some q := ⟨_, List.getElem?_eq_getElem (by omega)⟩
          have cq := (HX6.out.trans Hxr.out).cellx (Hcl.out i q (by rw [show i = i - 1 + 1 by omega, List.getElem?_cons_succ]; exact hq))
          have Hnx : Hid ((l.take (i + 1 - 1)).any (badN (P.nodesV : Int)) = ((l.take (i - 1)).any (badN (P.nodesV : Int)) || badN (P.nodesV : Int) q)) := hid (by rw [show i + 1 - 1 = i - 1 + 1 by omega, List.take_add_one, hq, List.any_append]; simp)
          clear hq
          by_cases hq0 : q < 0
          · have Hbq : Hid (badN (P.nodesV : Int) q = true) := hid (by unfold badN; rw [decide_eq_true hq0]; rfl)
            go_wp2
            go_roundw
            case rel => exact ⟨i + 1, 2, by go_num, rfl, by omega, by rw [Hnx.out, Hbq.out]; simp, Hxr.out⟩
            case measure => simp [intOf]; omega
          · by_cases hqm : (P.nodesV : Int) ≤ q
            · have Hbq : Hid (badN (P.nodesV : Int) q = true) := hid (by unfold badN; rw [decide_eq_true hqm, Bool.or_true])
              go_wp2
              go_roundw
              case rel => exact ⟨i + 1, 2, by go_num, rfl, by omega, by rw [Hnx.out, Hbq.out]; simp, Hxr.out⟩
              case measure => simp [intOf]; omega
            · have Hbq : Hid (badN (P.nodesV : Int) q = false) := hid (by unfold badN; rw [decide_eq_false hq0, decide_eq_false hqm]; rfl)
              go_wp2
              go_roundw
              case rel => exact ⟨i + 1, e, by go_num, rfl, by omega, by rw [Hnx.out, Hbq.out, Bool.or_false]; exact He.out, Hxr.out⟩
              case measure => simp [intOf]; omega
        · obtain rfl : i = l.length + 1 := by omega
          rw [show l.length + 1 - 1 = l.length from rfl, List.take_length] at He
          clear hlt hi
          cases hB : c.bnd 101 ((xn : Int)) l with
          | false =>
            have he2 : e = 2 := by
              rw [He.out, if_pos]
              unfold SC.bnd at hB
              rw [Hfb.out, Hms.out] at hB
              rw [show badN = fun m n => decide (n < 0) || decide (m ≤ n) from rfl]
              revert hB
              generalize (l.any fun n => decide (n < 0) || decide (_ ≤ n)) = bb
              cases fb <;> cases bb <;> decide
            subst he2
            have HOI := HOIf _ Hxr.out
            go_wp2_with fail
            refine HOI.out.mono ?_
            intro e w8' hx
            obtain ⟨v8, rfl, hx8', hr8⟩ := hx
            have HX8 := hid ((HX6.out.trans Hxr.out).trans hx8')
            have HSh8 := hid (HSh6.out.ext (Hxr.out.trans hx8'))
            have HX38 := hid (((HX34.out.trans Hx46.out).trans Hxr.out).trans hx8')
            have HR8 : Hid (IRow 0 w8' v8 (((xn : Int)) :: l)) := hid (own_low hr8 (Nat.zero_le _))
            clear HOI hx8' hr8
            have HTk := hid (shardtake_bound c s0 101 v8 ((xn : Int)) l w8' G F g ad (HE.out.ext HX8.out).at2 HSh8.out HR8.out (.inr ⟨rfl, Hl1.out⟩) hB (by omega))
            unfold evOf at HTk
            clear hB
            go_wp2_with fail
            refine HTk.out.mono ?_
            intro e w9 hx
            obtain ⟨rfl, hx9⟩ := hx
            have HX9 := hid (HX8.out.trans hx9)
            have HCo := hid (coded3_c w9 ad (HAA.out.ext HX9.out) 2 (by decide) (by decide) 2 rfl)
            clear HTk hx9
            go_wp2_with fail
            refine HCo.out.mono ?_
            intro e w10 hx
            obtain ⟨rfl, hx10⟩ := hx
            have HX10 := hid (HX9.out.trans hx10)
            clear HCo hx10
            go_wp2
            go_ret
            exact ⟨rfl, HX10.out⟩
          | true =>
            have he2 : e = 0 := by
              rw [He.out, if_neg]
              unfold SC.bnd at hB
              rw [Hfb.out, Hms.out] at hB
              rw [show badN = fun m n => decide (n < 0) || decide (m ≤ n) from rfl]
              revert hB
              generalize (l.any fun n => decide (n < 0) || decide (_ ≤ n)) = bb
              cases fb <;> cases bb <;> decide
            subst he2
            have HOI := HOIf _ Hxr.out
            go_wp2_with fail
            refine HOI.out.mono ?_
            intro e w8' hx
            obtain ⟨v8, rfl, hx8', hr8⟩ := hx
            have HX8 := hid ((HX6.out.trans Hxr.out).trans hx8')
            have HSh8 := hid (HSh6.out.ext (Hxr.out.trans hx8'))
            have HX38 := hid (((HX34.out.trans Hx46.out).trans Hxr.out).trans hx8')
            have HR8 : Hid (IRow 0 w8' v8 (((xn : Int)) :: l)) := hid (own_low hr8 (Nat.zero_le _))
            clear HOI hx8' hr8
            have HTk := hid (shardtake_good c s0 101 v8 ((xn : Int)) l w8' G F g HSh8.out Hok.out HR8.out (.inr ⟨rfl, Hl1.out⟩) hB (by omega) (by have := Hph.out; omega))
            have HbO := hid (bnd_ok hB (.inr ⟨rfl, Hl1.out⟩))
            have HOw : Hid (c.own ((xn : Int)) = true) := hid (by
              unfold SC.bnd at hB
              rw [Bool.and_eq_true] at hB
              exact hB.1)
            clear hB
            go_wp2_with fail
            refine HTk.out.mono ?_
            intro e w9 hx
            obtain ⟨u2, t2, os2, F2, rfl, hr2, ht2, hS2, hN2, hF2, _, hK2⟩ := hx
            have hX38 := HX38.out
            have HX9 : Hid (Ext w w9) := hid (HX3.out.trans (Keep.new hX38 hK2 fun b hb => Nat.le_of_not_lt fun h => hb (HFo.out b h)))
            have HSh9 := hid hS2
            have HTn := hid (take_taken HcE.out.2.2.2 Hok.out HbO.out.1 rfl hr2 ht2)
            have HOk9 := hid (show ({ t2 with out := [] } : SH).Ok c.P (c.me : Nat) (c.k : Nat) from by
              have h1 := (hr2.ok HcE.out.2.2.2 (push_ok Hok.out HbO.out.1 rfl)).1
              exact ⟨h1.hnd, h1.has, h1.nnd, h1.nxt, h1.todo, fun _ h => (by cases h)⟩)
            have Hmem : Hid (101 ≠ (101 : Int) → ∀ q ∈ l, q ∈ c.hasL { t2 with out := [] } ((xn : Int))) := hid fun hk => has_taken HcE.out.2.2.2 HOk9.out HTn.out HOw.out hk rfl
            obtain ⟨au2, cu2, hu2⟩ := hN2.row.form
            subst hu2
            have HCo := hid (coded3_0 w9 ad (HAA.out.ext HX9.out))
            clear HTk hr2 ht2 hS2 hN2 hF2 hK2 hX38
            go_wp2_with fail
            refine HCo.out.mono ?_
            intro e w10 hx
            obtain ⟨rfl, hx10⟩ := hx
            have HX10 := hid (HX9.out.trans hx10)
            have HSh10 := hid (HSh9.out.ext hx10)
            clear HCo hx10 HSh9
            go_wp2
            go_ret
            exact ⟨rfl, HX10.out⟩
end Go.Proofs.YtihdpijgngooaaaGreatDoor
