/- Texts of one proof, put together: IS AS PC X5 Z5 X3 X6 ZZXd. -/
import Derived.Test.YtihdpijgngooaaaGreatDoorHCG01
import Derived.Test.YtihdpijgngooaaaGreatDoorHCG02
import Derived.Test.YtihdpijgngooaaaGreatDoorHCG06
import Derived.Test.YtihdpijgngooaaaGreatDoorHCG08
import Derived.Test.YtihdpijgngooaaaGreatDoorHCG11
import Derived.Test.YtihdpijgngooaaaGreatDoorHCG12
import Derived.Test.YtihdpijgngooaaaGreatDoorHCG14
import Derived.Test.YtihdpijgngooaaaGreatDoorHCG15
import Derived.Test.YtihdpijgngooaaaGreatDoorChecked
import Derived.LaidEql
import Derived.Stop.Asserts
import Derived.RowKitTokens
set_option linter.unusedSimpArgs false
set_option linter.unusedVariables false
namespace Go.Proofs.YtihdpijgngooaaaGreatDoor
open Go Go.RowKit Go.Extern.Stop Go.Stop Go.Extern
theorem isTypeOf (v : Value) (w : World) : (Extern.ReflectliteType.typeOf #[.iface 262 v]).run Tryz.prog w = .ok (.iface 205 (.agg #[.pointer (some ⟨15, 262, none⟩)])) w := by kernel_rfl
theorem isComparable (w : World) : (callFunc 222 #[.agg #[.pointer (some ⟨15, 262, none⟩)]]).run Tryz.prog w = .ok (.value (.bool true)) w := by kernel_rfl
theorem isMethodComparable (v : Value) (w : World) : (Go.method 395 205 v "Comparable").run Tryz.prog w = .ok (222, v) w := by kernel_rfl
theorem isComp : (Tryz.prog.info? 262).map (·.comparable) = some true := by kernel_rfl
theorem isSize : (Tryz.prog.info? 283).map (·.size) = some 1 := by kernel_rfl
theorem noIsE (v : Value) (xT : TypeId) (w : World) : (Instr.typeAssert (.iface 262 v) xT 216 true).run Tryz.prog w = .ok (.tuple #[.nilIface, .bool false]) w := run_typeAssert_lacksB Tryz.underlying216 (by kernel_rfl) (by kernel_rfl) v xT w
theorem noUnwrapE (v : Value) (xT : TypeId) (w : World) : (Instr.typeAssert (.iface 262 v) xT 212 true).run Tryz.prog w = .ok (.tuple #[.nilIface, .bool false]) w := run_typeAssert_lacksB Tryz.underlying212 (by kernel_rfl) (by kernel_rfl) v xT w
theorem noUnwrapsE (v : Value) (xT : TypeId) (w : World) : (Instr.typeAssert (.iface 262 v) xT 214 true).run Tryz.prog w = .ok (.tuple #[.nilIface, .bool false]) w := run_typeAssert_lacksB Tryz.underlying214 (by kernel_rfl) (by kernel_rfl) v xT w
theorem noIsW (v : Value) (xT : TypeId) (w : World) : (Instr.typeAssert (.iface 134 v) xT 216 true).run Tryz.prog w = .ok (.tuple #[.nilIface, .bool false]) w := run_typeAssert_lacksB Tryz.underlying216 (by kernel_rfl) (by kernel_rfl) v xT w
theorem hasUnwrapW (v : Value) (xT : TypeId) (w : World) : (Instr.typeAssert (.iface 134 v) xT 212 true).run Tryz.prog w = .ok (.tuple #[.iface 134 v, .bool true]) w := run_typeAssert_hasB Tryz.underlying212 (by kernel_rfl) v xT w
theorem methodUnwrap (v : Value) (w : World) : (Go.method 395 134 v "Unwrap").run Tryz.prog w = .ok (216, v) w := by kernel_rfl
set_option maxRecDepth 100000 in
theorem is_same (a : Addr) (w : World) :
    Calls Tryz.prog 84 #[.iface 262 (.pointer (some a)), .iface 262 (.pointer (some a))] w fun e w' => e = .returned (.bool true) ∧ w = w' := by
  obtain ⟨i, hi, hcmp⟩ := Option.map_eq_some_iff.1 isComp
  obtain ⟨j, hj, hjs⟩ := Option.map_eq_some_iff.1 isSize
  have h8 := @run_callFunc_extern Tryz.prog 114 _ Extern.ReflectliteType.typeOf Tryz.func114 (by kernel_rfl) (by kernel_rfl) (by kernel_rfl) (by kernel_rfl)
  have tT := isTypeOf
  have cT := isComparable
  have mR := isMethodComparable
  have heq := run_eql_iface_ptr_same (P := Tryz.prog) w a Tryz.underlying38 Tryz.underlying262 hi hcmp hj
  go_enter Tryz.func84, Tryz.ntmps84
  go_wp2
  refine wp_loop_rounds 1 ?_
  rw [rounds_succ]
  go_wp2
  go_ret
  exact ⟨rfl, rfl⟩
set_option maxRecDepth 100000 in
theorem is_other (a b : Addr) (ca cb : Array Value) (ta tb : TypeId) (w : World) (hne : a ≠ b) (ha : w.heap[a.block]? = some (.cells ca ta (0, 0))) (hb : w.heap[b.block]? = some (.cells cb tb (0, 0))) :
    Calls Tryz.prog 84 #[.iface 262 (.pointer (some a)), .iface 262 (.pointer (some b))] w fun e w' => e = .returned (.bool false) ∧ w = w' := by
  obtain ⟨i, hi, hcmp⟩ := Option.map_eq_some_iff.1 isComp
  obtain ⟨j, hj, hjs⟩ := Option.map_eq_some_iff.1 isSize
  have h8 := @run_callFunc_extern Tryz.prog 114 _ Extern.ReflectliteType.typeOf Tryz.func114 (by kernel_rfl) (by kernel_rfl) (by kernel_rfl) (by kernel_rfl)
  have tT := isTypeOf
  have cT := isComparable
  have mR := isMethodComparable
  have nE := noIsE
  have uE := noUnwrapE
  have vE := noUnwrapsE
  have nW := noIsW
  have uW := hasUnwrapW
  have mU := methodUnwrap
  have heq := run_eql_iface_ptr_other (P := Tryz.prog) w Tryz.underlying38 Tryz.underlying262 hi hcmp hj (by rw [hjs]; decide) hne ha hb
  go_enter Tryz.func84, Tryz.ntmps84
  go_wp2
  refine wp_loop_rounds 1 ?_
  rw [rounds_succ]
  go_wp2
  go_ret
  exact ⟨rfl, rfl⟩
set_option maxRecDepth 100000 in
theorem is_wrap_same (pb : Nat) (b : Addr) (w : World) (h1 : w.cell? ⟨pb, 1, none⟩ = some (.iface 262 (.pointer (some b)))) :
    Calls Tryz.prog 84 #[.iface 134 (.pointer (some ⟨pb, 0, none⟩)), .iface 262 (.pointer (some b))] w fun e w' => e = .returned (.bool true) ∧ w = w' := by
  obtain ⟨i, hi, hcmp⟩ := Option.map_eq_some_iff.1 isComp
  obtain ⟨j, hj, hjs⟩ := Option.map_eq_some_iff.1 isSize
  have h8 := @run_callFunc_extern Tryz.prog 114 _ Extern.ReflectliteType.typeOf Tryz.func114 (by kernel_rfl) (by kernel_rfl) (by kernel_rfl) (by kernel_rfl)
  have tT := isTypeOf
  have cT := isComparable
  have mR := isMethodComparable
  have nE := noIsE
  have uE := noUnwrapE
  have vE := noUnwrapsE
  have nW := noIsW
  have uW := hasUnwrapW
  have mU := methodUnwrap
  have heq := run_eql_iface_ptr_same (P := Tryz.prog) w b Tryz.underlying38 Tryz.underlying262 hi hcmp hj
  have hty := run_eql_iface_types (P := Tryz.prog) 134 262 (.pointer (some ⟨pb, 0, none⟩)) (.pointer (some b)) Tryz.underlying38 (by decide) w
  go_enter Tryz.func84, Tryz.ntmps84
  go_wp2
  refine wp_loop_rounds 2 ?_
  rw [rounds_succ]
  go_wp2
  rw [rounds_succ]
  go_wp2
  go_ret
  exact ⟨rfl, rfl⟩
set_option maxRecDepth 100000 in
theorem is_wrap_other (pb : Nat) (b a : Addr) (ca cb : Array Value) (ta tb : TypeId) (w : World) (h1 : w.cell? ⟨pb, 1, none⟩ = some (.iface 262 (.pointer (some a)))) (hne : a ≠ b) (ha : w.heap[a.block]? = some (.cells ca ta (0, 0))) (hb : w.heap[b.block]? = some (.cells cb tb (0, 0))) :
    Calls Tryz.prog 84 #[.iface 134 (.pointer (some ⟨pb, 0, none⟩)), .iface 262 (.pointer (some b))] w fun e w' => e = .returned (.bool false) ∧ w = w' := by
  obtain ⟨i, hi, hcmp⟩ := Option.map_eq_some_iff.1 isComp
  obtain ⟨j, hj, hjs⟩ := Option.map_eq_some_iff.1 isSize
  have h8 := @run_callFunc_extern Tryz.prog 114 _ Extern.ReflectliteType.typeOf Tryz.func114 (by kernel_rfl) (by kernel_rfl) (by kernel_rfl) (by kernel_rfl)
  have tT := isTypeOf
  have cT := isComparable
  have mR := isMethodComparable
  have nE := noIsE
  have uE := noUnwrapE
  have vE := noUnwrapsE
  have nW := noIsW
  have uW := hasUnwrapW
  have mU := methodUnwrap
  have heq := run_eql_iface_ptr_other (P := Tryz.prog) w Tryz.underlying38 Tryz.underlying262 hi hcmp hj (by rw [hjs]; decide) hne ha hb
  have hty := run_eql_iface_types (P := Tryz.prog) 134 262 (.pointer (some ⟨pb, 0, none⟩)) (.pointer (some b)) Tryz.underlying38 (by decide) w
  go_enter Tryz.func84, Tryz.ntmps84
  go_wp2
  refine wp_loop_rounds 2 ?_
  rw [rounds_succ]
  go_wp2
  rw [rounds_succ]
  go_wp2
  go_ret
  exact ⟨rfl, rfl⟩
theorem as_valueOf27 (t : Addr) (w : World) : (ReflectliteValue.unpack (.iface 136 (.pointer (some t)))).run Tryz.prog w
    = .ok (.agg #[.pointer (some ⟨15, 136, none⟩), .pointer (some ⟨w.heap.size, 0, none⟩), .int .u64 150]) (w.alloc (.cells #[.pointer (some t)] 136)) := by kernel_rfl
theorem as_type27 (a : Addr) (w : World) : (ReflectliteValue.methodAny (ReflectliteValue.valueError "reflectlite.Value.Type" 0) (fun t _ _ _ => ReflectliteType.toType t) #[.agg #[.pointer (some ⟨15, 136, none⟩), .pointer (some a), .int .u64 150]]).run Tryz.prog w
    = .ok (.iface 205 (.agg #[.pointer (some ⟨15, 136, none⟩)])) w := by kernel_rfl
theorem as_methodKind (h : Value) (w : World) : (Go.method 395 205 (.agg #[h]) "Kind").run Tryz.prog w = .ok (212, h) w := by kernel_rfl
theorem as_kind27 (w : World) : ((ReflectliteType.abiMethod fun t => (fun a : Nat => Value.int IntKind.u8 (a : Int)) <$> Rtype.kind t) #[.pointer (some ⟨15, 136, none⟩)]).run Tryz.prog w = .ok (.int .u8 22) w := by kernel_rfl
theorem as_kind25 (w : World) : ((ReflectliteType.abiMethod fun t => (fun a : Nat => Value.int IntKind.u8 (a : Int)) <$> Rtype.kind t) #[.pointer (some ⟨15, 134, none⟩)]).run Tryz.prog w = .ok (.int .u8 22) w := by kernel_rfl
theorem rlm (z : Sem Value) (f : TypeId → Addr → Nat → Nat → Sem Value) (v : Value) :
    ReflectliteValue.method z f #[v] = (do match ← ReflectliteValue.parts v with | none => z | some (t, a, fl) => f t a fl (fl % 32)) := rfl
theorem as_parts27 (a : Addr) (w : World) : (ReflectliteValue.parts (.agg #[.pointer (some ⟨15, 136, none⟩), .pointer (some a), .int .u64 150])).run Tryz.prog w = .ok (some (136, a, 150)) w := by kernel_rfl
theorem as_isNil27 (a p : Addr) (W : World) (ha : W.cell? a = some (.pointer (some p))) :
    (ReflectliteValue.method (ReflectliteValue.valueError "reflectlite.Value.IsNil" 0) ReflectliteValue.isNil #[.agg #[.pointer (some ⟨15, 136, none⟩), .pointer (some a), .int .u64 150]]).run Tryz.prog W = .ok (.bool false) W := by
  rw [rlm]
  simp only [Sem.run_bind, as_parts27, Result.andThen]
  simp [ReflectliteValue.isNil, loadVar, isAgg, underlying, Tryz.underlying136, ha, Result.andThen]
theorem as_methodElem (h : Value) (w : World) : (Go.method 395 205 (.agg #[h]) "Elem").run Tryz.prog w = .ok (223, .agg #[h]) w := by kernel_rfl
theorem as_methodImplements (h : Value) (w : World) : (Go.method 395 205 (.agg #[h]) "Implements").run Tryz.prog w = .ok (224, .agg #[h]) w := by kernel_rfl
theorem as_methodAssignableTo (h : Value) (w : World) : (Go.method 395 205 (.agg #[h]) "AssignableTo").run Tryz.prog w = .ok (221, .agg #[h]) w := by kernel_rfl
theorem as_elem27 (w : World) : (ReflectliteType.method ReflectliteType.elem #[.agg #[.pointer (some ⟨15, 136, none⟩)]]).run Tryz.prog w = .ok (.iface 205 (.agg #[.pointer (some ⟨15, 134, none⟩)])) w := by kernel_rfl
theorem as_implements25 (w : World) : (ReflectliteType.relation "Implements" ReflectliteType.implements_ #[.agg #[.pointer (some ⟨15, 134, none⟩)], .iface 205 (.agg #[.pointer (some ⟨15, 38, none⟩)])]).run Tryz.prog w = .ok (.bool true) w := by kernel_rfl
theorem as_typeOf25 (v : Value) (w : World) : (ReflectliteType.typeOf #[.iface 134 v]).run Tryz.prog w = .ok (.iface 205 (.agg #[.pointer (some ⟨15, 134, none⟩)])) w := by kernel_rfl
theorem as_assignable25 (w : World) : (ReflectliteType.relation "AssignableTo" ReflectliteType.assignableTo #[.agg #[.pointer (some ⟨15, 134, none⟩)], .iface 205 (.agg #[.pointer (some ⟨15, 134, none⟩)])]).run Tryz.prog w = .ok (.bool true) w := by kernel_rfl
theorem as_valueOf25 (e : Addr) (w : World) : (ReflectliteValue.unpack (.iface 134 (.pointer (some e)))).run Tryz.prog w
    = .ok (.agg #[.pointer (some ⟨15, 134, none⟩), .pointer (some ⟨w.heap.size, 0, none⟩), .int .u64 150]) (w.alloc (.cells #[.pointer (some e)] 134)) := by kernel_rfl
theorem as_elemOf27 (w : World) : (Rtype.elem? 136).run Tryz.prog w = .ok (some 134) w := by kernel_rfl
theorem as_mk25 (p : Addr) (w : World) : (ReflectliteValue.mk 134 p ReflectliteValue.flagAddr).run Tryz.prog w = .ok (.agg #[.pointer (some ⟨15, 134, none⟩), .pointer (some p), .int .u64 406]) w := by kernel_rfl
theorem as_elemV27 (a p : Addr) (W : World) (ha : W.cell? a = some (.pointer (some p))) :
    (ReflectliteValue.method (ReflectliteValue.valueError "reflectlite.Value.Elem" 0) ReflectliteValue.elem #[.agg #[.pointer (some ⟨15, 136, none⟩), .pointer (some a), .int .u64 150]]).run Tryz.prog W
      = .ok (.agg #[.pointer (some ⟨15, 134, none⟩), .pointer (some p), .int .u64 406]) W := by
  rw [rlm]
  simp only [Sem.run_bind, as_parts27, Result.andThen]
  simp [ReflectliteValue.elem, loadVar, isAgg, underlying, Tryz.underlying136, ha, Result.andThen, as_elemOf27, as_mk25]
theorem rls (v x : Value) : ReflectliteValue.set #[v, x] = (do
    let (some (dst, a, fl), some (src, b, _)) := (← ReflectliteValue.parts v, ← ReflectliteValue.parts x)
      | unsupported (.noEntry "extern/(internal/reflectlite.Value).Set.zeroValue")
    if fl / ReflectliteValue.flagAddr % 2 == 0 then unsupported (.noEntry "extern/(internal/reflectlite.Value).Set.unaddressable")
    let val ← loadVar src b
    if ← Rtype.directlyAssignable dst src then storeVar dst a val
    else if ← Rtype.implements dst src then
      if (← Rtype.kind src) == 20 then
        match val with
        | .nilIface => unsupported (.noEntry "extern/reflectlite: a nil value of one interface type handed on as a value of another")
        | _ => storeVar dst a val
      else storeVar dst a (.iface src val)
    else panicString ("reflectlite.Set: value of type " ++ (← Rtype.spelt src) ++ " is not assignable to type " ++ (← Rtype.spelt dst))
    pure (.tuple #[])) := rfl
theorem as_parts25a (a : Addr) (w : World) : (ReflectliteValue.parts (.agg #[.pointer (some ⟨15, 134, none⟩), .pointer (some a), .int .u64 406])).run Tryz.prog w = .ok (some (134, a, 406)) w := by kernel_rfl
theorem as_parts25 (a : Addr) (w : World) : (ReflectliteValue.parts (.agg #[.pointer (some ⟨15, 134, none⟩), .pointer (some a), .int .u64 150])).run Tryz.prog w = .ok (some (134, a, 150)) w := by kernel_rfl
theorem as_direct25 (w : World) : (Rtype.directlyAssignable 134 134).run Tryz.prog w = .ok true w := by kernel_rfl
theorem as_set25 (ta b e : Addr) (old : Value) (W : World) (hb : W.cell? b = some (.pointer (some e))) (ht : W.cell? ta = some old) (hf : W.frozen? ta = false) :
    (ReflectliteValue.set #[.agg #[.pointer (some ⟨15, 134, none⟩), .pointer (some ta), .int .u64 406], .agg #[.pointer (some ⟨15, 134, none⟩), .pointer (some b), .int .u64 150]]).run Tryz.prog W
      = .ok (.tuple #[]) (W.setCell ta (.pointer (some e))) := by
  rw [rls]
  simp only [Sem.run_bind, as_parts25a, as_parts25, Result.andThen]
  simp [ReflectliteValue.flagAddr, loadVar, isAgg, underlying, Tryz.underlying134, hb, Result.andThen, as_direct25, storeVar, Value.cells, storeCells, Addr.add]
  rw [run_store Tryz.prog W ta _ _ (by rfl)]
  simp [ht, hf]
theorem as_assignableE (w : World) : (ReflectliteType.relation "AssignableTo" ReflectliteType.assignableTo #[.agg #[.pointer (some ⟨15, 262, none⟩)], .iface 205 (.agg #[.pointer (some ⟨15, 134, none⟩)])]).run Tryz.prog w = .ok (.bool false) w := by kernel_rfl
theorem as_noAsE (v : Value) (xT : TypeId) (w : World) : (Instr.typeAssert (.iface 262 v) xT 209 true).run Tryz.prog w = .ok (.tuple #[.nilIface, .bool false]) w := run_typeAssert_lacksB Tryz.underlying209 (by kernel_rfl) (by kernel_rfl) v xT w
set_option maxRecDepth 100000 in
set_option maxHeartbeats 4000000 in
theorem as_miss (x : Value) (t : Addr) (old : Value) (w : World) (hg : w.cell? ⟨11, 0, none⟩ = some (.iface 205 (.agg #[.pointer (some ⟨15, 38, none⟩)]))) (ht0 : w.cell? t = some old) (hf0 : w.frozen? t = false) :
    Calls Tryz.prog 83 #[.iface 262 x, .iface 136 (.pointer (some t))] w fun ev w' => ev = .returned (.bool false) ∧ Ext w w' := by
  have h6 := @run_callFunc_extern Tryz.prog 110 _ (fun args => ReflectliteValue.unpack (args.getD 0 (.tuple #[]))) Tryz.func110 (by kernel_rfl) (by kernel_rfl) (by kernel_rfl) (by kernel_rfl)
  have h7 := @run_callFunc_extern Tryz.prog 111 _ (ReflectliteValue.methodAny (ReflectliteValue.valueError "reflectlite.Value.Type" 0) (fun t _ _ _ => ReflectliteType.toType t)) Tryz.func111 (by kernel_rfl) (by kernel_rfl) (by kernel_rfl) (by kernel_rfl)
  have h8 := @run_callFunc_extern Tryz.prog 112 _ (ReflectliteValue.method (ReflectliteValue.valueError "reflectlite.Value.IsNil" 0) ReflectliteValue.isNil) Tryz.func112 (by kernel_rfl) (by kernel_rfl) (by kernel_rfl) (by kernel_rfl)
  have h27 := @run_callFunc_extern Tryz.prog 212 _ (ReflectliteType.abiMethod fun t => do pure (.int .u8 (← Rtype.kind t))) Tryz.func212 (by kernel_rfl) (by kernel_rfl) (by kernel_rfl) (by kernel_rfl)
  have h37 := @run_callFunc_extern Tryz.prog 223 _ (ReflectliteType.method ReflectliteType.elem) Tryz.func223 (by kernel_rfl) (by kernel_rfl) (by kernel_rfl) (by kernel_rfl)
  have h38 := @run_callFunc_extern Tryz.prog 224 _ (ReflectliteType.relation "Implements" ReflectliteType.implements_) Tryz.func224 (by kernel_rfl) (by kernel_rfl) (by kernel_rfl) (by kernel_rfl)
  have h10 := @run_callFunc_extern Tryz.prog 114 _ ReflectliteType.typeOf Tryz.func114 (by kernel_rfl) (by kernel_rfl) (by kernel_rfl) (by kernel_rfl)
  have h35 := @run_callFunc_extern Tryz.prog 221 _ (ReflectliteType.relation "AssignableTo" ReflectliteType.assignableTo) Tryz.func221 (by kernel_rfl) (by kernel_rfl) (by kernel_rfl) (by kernel_rfl)
  have h11 := @run_callFunc_extern Tryz.prog 146 _ (ReflectliteValue.method (ReflectliteValue.valueError "reflectlite.Value.Elem" 0) ReflectliteValue.elem) Tryz.func146 (by kernel_rfl) (by kernel_rfl) (by kernel_rfl) (by kernel_rfl)
  have h12 := @run_callFunc_extern Tryz.prog 147 _ ReflectliteValue.set Tryz.func147 (by kernel_rfl) (by kernel_rfl) (by kernel_rfl) (by kernel_rfl)
  have tO := isTypeOf
  have nA := as_noAsE
  have nU := noUnwrapE
  have nV := noUnwrapsE
  have mA := as_methodAssignableTo
  have a25 := as_assignableE
  have f6 := as_valueOf27
  have f7 := as_type27
  have mK := as_methodKind
  have mE := as_methodElem
  have mI := as_methodImplements
  have k27 := as_kind27
  have k25 := as_kind25
  have e27 := as_elem27
  have i25 := as_implements25
  have n8 := as_isNil27 ⟨w.heap.size, 0, none⟩ t ((w.alloc (.cells #[.pointer (some t)] 136)).alloc (.cells #[.pointer (some ⟨15, 136, none⟩), .pointer (some ⟨w.heap.size, 0, none⟩), .int .u64 150] 164)) (by simp)
  have hlt : 11 < w.heap.size := by
    exact cell_lt hg
  have hg2 : ((w.alloc (.cells #[.pointer (some t)] 136)).alloc (.cells #[.pointer (some ⟨15, 136, none⟩), .pointer (some ⟨w.heap.size, 0, none⟩), .int .u64 150] 164)).cell? ⟨11, 0, none⟩ = some (.iface 205 (.agg #[.pointer (some ⟨15, 38, none⟩)])) := by
    rw [World.cell?_alloc_lt _ _ ⟨11, 0, none⟩ (by simp; omega), World.cell?_alloc_lt _ _ ⟨11, 0, none⟩ hlt]; exact hg
  have htl : t.block < w.heap.size := by
    rcases Nat.lt_or_ge t.block w.heap.size with h | h
    · exact h
    · simp [World.cell?, Array.getElem?_eq_none h] at ht0
  go_enter Tryz.func83, Tryz.ntmps83
  go_wp2
  refine wp_loop_rounds 1 ?_
  rw [rounds_succ]
  go_wp2
  go_ret
  exact ⟨rfl, (((Ext.refl _).alloc _).alloc _).alloc _⟩
set_option maxRecDepth 100000 in
set_option maxHeartbeats 4000000 in
theorem as_hit (e t : Addr) (old : Value) (w : World) (hg : w.cell? ⟨11, 0, none⟩ = some (.iface 205 (.agg #[.pointer (some ⟨15, 38, none⟩)]))) (ht0 : w.cell? t = some old) (hf0 : w.frozen? t = false) :
    Calls Tryz.prog 83 #[.iface 134 (.pointer (some e)), .iface 136 (.pointer (some t))] w fun ev w' => ev = .returned (.bool true) ∧ w' = ((((w.alloc (.cells #[.pointer (some t)] 136)).alloc (.cells #[.pointer (some ⟨15, 136, none⟩), .pointer (some ⟨w.heap.size, 0, none⟩), .int .u64 150] 164)).alloc (.cells #[.pointer (some ⟨15, 136, none⟩), .pointer (some ⟨w.heap.size, 0, none⟩), .int .u64 150] 164)).alloc (.cells #[.pointer (some e)] 134)).setCell t (.pointer (some e)) := by
  have h6 := @run_callFunc_extern Tryz.prog 110 _ (fun args => ReflectliteValue.unpack (args.getD 0 (.tuple #[]))) Tryz.func110 (by kernel_rfl) (by kernel_rfl) (by kernel_rfl) (by kernel_rfl)
  have h7 := @run_callFunc_extern Tryz.prog 111 _ (ReflectliteValue.methodAny (ReflectliteValue.valueError "reflectlite.Value.Type" 0) (fun t _ _ _ => ReflectliteType.toType t)) Tryz.func111 (by kernel_rfl) (by kernel_rfl) (by kernel_rfl) (by kernel_rfl)
  have h8 := @run_callFunc_extern Tryz.prog 112 _ (ReflectliteValue.method (ReflectliteValue.valueError "reflectlite.Value.IsNil" 0) ReflectliteValue.isNil) Tryz.func112 (by kernel_rfl) (by kernel_rfl) (by kernel_rfl) (by kernel_rfl)
  have h27 := @run_callFunc_extern Tryz.prog 212 _ (ReflectliteType.abiMethod fun t => do pure (.int .u8 (← Rtype.kind t))) Tryz.func212 (by kernel_rfl) (by kernel_rfl) (by kernel_rfl) (by kernel_rfl)
  have h37 := @run_callFunc_extern Tryz.prog 223 _ (ReflectliteType.method ReflectliteType.elem) Tryz.func223 (by kernel_rfl) (by kernel_rfl) (by kernel_rfl) (by kernel_rfl)
  have h38 := @run_callFunc_extern Tryz.prog 224 _ (ReflectliteType.relation "Implements" ReflectliteType.implements_) Tryz.func224 (by kernel_rfl) (by kernel_rfl) (by kernel_rfl) (by kernel_rfl)
  have h10 := @run_callFunc_extern Tryz.prog 114 _ ReflectliteType.typeOf Tryz.func114 (by kernel_rfl) (by kernel_rfl) (by kernel_rfl) (by kernel_rfl)
  have h35 := @run_callFunc_extern Tryz.prog 221 _ (ReflectliteType.relation "AssignableTo" ReflectliteType.assignableTo) Tryz.func221 (by kernel_rfl) (by kernel_rfl) (by kernel_rfl) (by kernel_rfl)
  have h11 := @run_callFunc_extern Tryz.prog 146 _ (ReflectliteValue.method (ReflectliteValue.valueError "reflectlite.Value.Elem" 0) ReflectliteValue.elem) Tryz.func146 (by kernel_rfl) (by kernel_rfl) (by kernel_rfl) (by kernel_rfl)
  have h12 := @run_callFunc_extern Tryz.prog 147 _ ReflectliteValue.set Tryz.func147 (by kernel_rfl) (by kernel_rfl) (by kernel_rfl) (by kernel_rfl)
  have tO := as_typeOf25
  have mA := as_methodAssignableTo
  have a25 := as_assignable25
  have v25 := as_valueOf25
  have f6 := as_valueOf27
  have f7 := as_type27
  have mK := as_methodKind
  have mE := as_methodElem
  have mI := as_methodImplements
  have k27 := as_kind27
  have k25 := as_kind25
  have e27 := as_elem27
  have i25 := as_implements25
  have n8 := as_isNil27 ⟨w.heap.size, 0, none⟩ t ((w.alloc (.cells #[.pointer (some t)] 136)).alloc (.cells #[.pointer (some ⟨15, 136, none⟩), .pointer (some ⟨w.heap.size, 0, none⟩), .int .u64 150] 164)) (by simp)
  have hlt : 11 < w.heap.size := by
    exact cell_lt hg
  have hg2 : ((w.alloc (.cells #[.pointer (some t)] 136)).alloc (.cells #[.pointer (some ⟨15, 136, none⟩), .pointer (some ⟨w.heap.size, 0, none⟩), .int .u64 150] 164)).cell? ⟨11, 0, none⟩ = some (.iface 205 (.agg #[.pointer (some ⟨15, 38, none⟩)])) := by
    rw [World.cell?_alloc_lt _ _ ⟨11, 0, none⟩ (by simp; omega), World.cell?_alloc_lt _ _ ⟨11, 0, none⟩ hlt]; exact hg
  have htl : t.block < w.heap.size := by
    rcases Nat.lt_or_ge t.block w.heap.size with h | h
    · exact h
    · simp [World.cell?, Array.getElem?_eq_none h] at ht0
  have el := as_elemV27 ⟨w.heap.size, 0, none⟩ t (((w.alloc (.cells #[.pointer (some t)] 136)).alloc (.cells #[.pointer (some ⟨15, 136, none⟩), .pointer (some ⟨w.heap.size, 0, none⟩), .int .u64 150] 164)).alloc (.cells #[.pointer (some ⟨15, 136, none⟩), .pointer (some ⟨w.heap.size, 0, none⟩), .int .u64 150] 164)) (by rw [World.cell?_alloc_lt _ _ ⟨w.heap.size, 0, none⟩ (by simp; omega)]; simp)
  have st := as_set25 t ⟨w.heap.size + 1 + 1 + 1, 0, none⟩ e old ((((w.alloc (.cells #[.pointer (some t)] 136)).alloc (.cells #[.pointer (some ⟨15, 136, none⟩), .pointer (some ⟨w.heap.size, 0, none⟩), .int .u64 150] 164)).alloc (.cells #[.pointer (some ⟨15, 136, none⟩), .pointer (some ⟨w.heap.size, 0, none⟩), .int .u64 150] 164)).alloc (.cells #[.pointer (some e)] 134))
    (by rw [World.cell?_alloc_at _ _ _ _ (by simp)]; rfl)
    (by rw [World.cell?_alloc_lt _ _ t (by simp; omega), World.cell?_alloc_lt _ _ t (by simp; omega), World.cell?_alloc_lt _ _ t (by simp; omega), World.cell?_alloc_lt _ _ t htl]; exact ht0)
    (by rw [World.frozen?_alloc_old _ _ t (by simp; omega), World.frozen?_alloc_old _ _ t (by simp; omega), World.frozen?_alloc_old _ _ t (by simp; omega), World.frozen?_alloc_old _ _ t (Nat.ne_of_lt htl)]; exact hf0)
  go_enter Tryz.func83, Tryz.ntmps83
  go_wp2
  refine wp_loop_rounds 1 ?_
  rw [rounds_succ]
  go_wp2
  go_ret
  exact ⟨rfl, rfl⟩
end Go.Proofs.YtihdpijgngooaaaGreatDoor
namespace Go.Proofs.YtihdpijgngooaaaGreatDoor
open Go Go.RowKit
structure AllErrs (w : World) (ad : Nat → Addr) : Prop where
  var : ∀ c, 1 ≤ c ∧ c ≤ 11 → w.cell? ⟨gE c, 0, none⟩ = some (.iface 262 (.pointer (some (ad c))))
  row : ∀ c, 1 ≤ c ∧ c ≤ 11 → ∃ cs t, w.heap[(ad c).block]? = some (.cells cs t (0, 0))
  inj : ∀ c d, 1 ≤ c ∧ c ≤ 11 → 1 ≤ d ∧ d ≤ 11 → ad c = ad d → c = d
  ty : w.cell? ⟨11, 0, none⟩ = some (.iface 205 (.agg #[.pointer (some ⟨15, 38, none⟩)]))
theorem AllErrs.at1 {w : World} {ad : Nat → Addr} (h : AllErrs w ad) : w.cell? ⟨3, 0, none⟩ = some (.iface 262 (.pointer (some (ad 1)))) := h.var 1 (by omega)
theorem AllErrs.at2 {w : World} {ad : Nat → Addr} (h : AllErrs w ad) : w.cell? ⟨0, 0, none⟩ = some (.iface 262 (.pointer (some (ad 2)))) := h.var 2 (by omega)
theorem AllErrs.at3 {w : World} {ad : Nat → Addr} (h : AllErrs w ad) : w.cell? ⟨2, 0, none⟩ = some (.iface 262 (.pointer (some (ad 3)))) := h.var 3 (by omega)
theorem AllErrs.at4 {w : World} {ad : Nat → Addr} (h : AllErrs w ad) : w.cell? ⟨1, 0, none⟩ = some (.iface 262 (.pointer (some (ad 4)))) := h.var 4 (by omega)
theorem AllErrs.at5 {w : World} {ad : Nat → Addr} (h : AllErrs w ad) : w.cell? ⟨4, 0, none⟩ = some (.iface 262 (.pointer (some (ad 5)))) := h.var 5 (by omega)
theorem AllErrs.at6 {w : World} {ad : Nat → Addr} (h : AllErrs w ad) : w.cell? ⟨5, 0, none⟩ = some (.iface 262 (.pointer (some (ad 6)))) := h.var 6 (by omega)
theorem AllErrs.at7 {w : World} {ad : Nat → Addr} (h : AllErrs w ad) : w.cell? ⟨6, 0, none⟩ = some (.iface 262 (.pointer (some (ad 7)))) := h.var 7 (by omega)
theorem AllErrs.at8 {w : World} {ad : Nat → Addr} (h : AllErrs w ad) : w.cell? ⟨7, 0, none⟩ = some (.iface 262 (.pointer (some (ad 8)))) := h.var 8 (by omega)
theorem AllErrs.at9 {w : World} {ad : Nat → Addr} (h : AllErrs w ad) : w.cell? ⟨8, 0, none⟩ = some (.iface 262 (.pointer (some (ad 9)))) := h.var 9 (by omega)
theorem AllErrs.at10 {w : World} {ad : Nat → Addr} (h : AllErrs w ad) : w.cell? ⟨9, 0, none⟩ = some (.iface 262 (.pointer (some (ad 10)))) := h.var 10 (by omega)
theorem AllErrs.at11 {w : World} {ad : Nat → Addr} (h : AllErrs w ad) : w.cell? ⟨10, 0, none⟩ = some (.iface 262 (.pointer (some (ad 11)))) := h.var 11 (by omega)
theorem AllErrs.ext {w w' : World} {ad : Nat → Addr} (h : AllErrs w ad) (x : Ext w w') : AllErrs w' ad :=
  ⟨fun c hc => x.cellx (h.var c hc), fun c hc => by obtain ⟨cs, t, e⟩ := h.row c hc; exact ⟨cs, t, x.get e⟩, h.inj, x.cellx h.ty⟩
def IsAs (w : World) (ad : Nat → Addr) (e : Value) (c : Nat) : Prop := ∀ w', Ext w w' → ∀ d, 1 ≤ d ∧ d ≤ 11 → Calls Tryz.prog 84 #[e, .iface 262 (.pointer (some (ad d)))] w' fun r w'' => r = .returned (.bool (decide (d = c))) ∧ w' = w''
theorem IsAs.sent {w : World} {ad : Nat → Addr} (h : AllErrs w ad) (c : Nat) (hc : 1 ≤ c ∧ c ≤ 11) : IsAs w ad (.iface 262 (.pointer (some (ad c)))) c := by
  intro w' x d hd
  by_cases e : d = c
  · subst e
    rw [decide_eq_true rfl]
    exact is_same (ad d) w'
  · rw [decide_eq_false e]
    have h' := h.ext x
    obtain ⟨c1, t1, e1⟩ := h'.row c hc
    obtain ⟨c2, t2, e2⟩ := h'.row d hd
    exact is_other (ad c) (ad d) c1 c2 t1 t2 w' (fun e' => e (h.inj d c hd hc e'.symm)) e1 e2
theorem IsAs.fault {w : World} {ad : Nat → Addr} (h : AllErrs w ad) (c : Nat) (hc : 1 ≤ c ∧ c ≤ 11) (b : Nat) (hb : w.cell? ⟨b, 1, none⟩ = some (.iface 262 (.pointer (some (ad c))))) : IsAs w ad (.iface 134 (.pointer (some ⟨b, 0, none⟩))) c := by
  intro w' x d hd
  by_cases e : d = c
  · subst e
    rw [decide_eq_true rfl]
    exact is_wrap_same b (ad d) w' (x.cellx hb)
  · rw [decide_eq_false e]
    have h' := h.ext x
    obtain ⟨c1, t1, e1⟩ := h'.row c hc
    obtain ⟨c2, t2, e2⟩ := h'.row d hd
    exact is_wrap_other b (ad d) (ad c) c1 c2 t1 t2 w' (x.cellx hb) (fun e' => e (h.inj d c hd hc e'.symm)) e1 e2
theorem IsAs.none {w : World} {ad : Nat → Addr} (h : AllErrs w ad) (a : Addr) (ha : ∃ cs t, w.heap[a.block]? = some (.cells cs t (0, 0))) (hne : ∀ c, 1 ≤ c ∧ c ≤ 11 → a ≠ ad c) : IsAs w ad (.iface 262 (.pointer (some a))) 0 := by
  intro w' x d hd
  rw [decide_eq_false (by omega)]
  obtain ⟨c1, t1, e1⟩ := ha
  obtain ⟨c2, t2, e2⟩ := (h.ext x).row d hd
  exact is_other a (ad d) c1 c2 t1 t2 w' (hne d hd) (x.get e1) e2
def codeV (c : Nat) : Int := if c = 0 then -1 else c
set_option maxRecDepth 100000 in
set_option maxHeartbeats 400000 in
theorem code_nil (w : World) : Calls Tryz.prog 52 #[.nilIface] w fun e w' => e = .returned (.tuple #[.int .i64 0, .int .i64 (-1)]) ∧ w = w' := by
  go_enter Tryz.func52, Tryz.ntmps52
  go_wp2
  go_ret2
  exact ⟨rfl, rfl⟩
set_option maxRecDepth 100000 in
set_option maxHeartbeats 3200000 in
theorem code_sent (w : World) (ad : Nat → Addr) (h : AllErrs w ad) (x : Value) (c : Nat) (hc : c ≤ 11) (hi : IsAs w ad (.iface 262 x) c) :
    Calls Tryz.prog 52 #[.iface 262 x] w fun e w' => e = .returned (.tuple #[.int .i64 (codeV c), .int .i64 (-1)]) ∧ Ext w w' := by
  have hA := hid (as_miss x ⟨w.heap.size, 0, none⟩ (.pointer none) (w.alloc (.cells #[.pointer none] 134)) (((Ext.refl w).alloc _).cellx h.ty) (by simp) (by simp))
  go_enter Tryz.func52, Tryz.ntmps52
  go_wp2_with fail
  refine hA.out.mono ?_
  intro e w1 hx
  obtain ⟨rfl, hx1⟩ := hx
  replace hx1 := ((Ext.refl w).alloc _).trans hx1
  clear hA
  have g0 := (h.ext hx1).at1
  have g1 := (h.ext hx1).at2
  have g2 := (h.ext hx1).at3
  have g3 := (h.ext hx1).at4
  have g4 := (h.ext hx1).at5
  have g5 := (h.ext hx1).at6
  have g6 := (h.ext hx1).at7
  have g7 := (h.ext hx1).at8
  have g8 := (h.ext hx1).at9
  have g9 := (h.ext hx1).at10
  have g10 := (h.ext hx1).at11
  obtain ⟨W, hW⟩ : ∃ W, W = w1.alloc (.cells #[.iface 262 (.pointer (some (ad 1))), .iface 262 (.pointer (some (ad 2))), .iface 262 (.pointer (some (ad 3))), .iface 262 (.pointer (some (ad 4))), .iface 262 (.pointer (some (ad 5))), .iface 262 (.pointer (some (ad 6))), .iface 262 (.pointer (some (ad 7))), .iface 262 (.pointer (some (ad 8))), .iface 262 (.pointer (some (ad 9))), .iface 262 (.pointer (some (ad 10))), .iface 262 (.pointer (some (ad 11)))] 38) := ⟨_, rfl⟩
  have hcell : ∀ k, k < 11 → W.cell? ⟨w1.heap.size, k, none⟩ = some (.iface 262 (.pointer (some (ad (k + 1))))) := fun k hk => by
    have hB := Blk.new w1 #[.iface 262 (.pointer (some (ad 1))), .iface 262 (.pointer (some (ad 2))), .iface 262 (.pointer (some (ad 3))), .iface 262 (.pointer (some (ad 4))), .iface 262 (.pointer (some (ad 5))), .iface 262 (.pointer (some (ad 6))), .iface 262 (.pointer (some (ad 7))), .iface 262 (.pointer (some (ad 8))), .iface 262 (.pointer (some (ad 9))), .iface 262 (.pointer (some (ad 10))), .iface 262 (.pointer (some (ad 11)))] 38
    rw [← hW] at hB
    rw [hB.cell k]
    rcases (by omega : k = 0 ∨ k = 1 ∨ k = 2 ∨ k = 3 ∨ k = 4 ∨ k = 5 ∨ k = 6 ∨ k = 7 ∨ k = 8 ∨ k = 9 ∨ k = 10) with rfl | rfl | rfl | rfl | rfl | rfl | rfl | rfl | rfl | rfl | rfl <;> rfl
  have hX : Ext w W := by rw [hW]; exact hx1.alloc _
  have HW := hid hW
  have Hc := fun k hk => hid (hcell k hk)
  have HI := hid (hi _ hX)
  have Hx := hid hX
  clear hcell hW hX hi
  go_wp2
  rw [← HW.out]
  clear g0 g1 g2 g3 g4 g5 g6 g7 g8 g9 g10 HW h hx1
  generalize w1.heap.size = N at *
  go_loop [3, 29] (fun t3 t29 => ∃ k : Nat, t29 = .int .i64 (k : Int) ∧ k ≤ 11 ∧ t3 = .int .i64 (-1) ∧ ∀ d, 1 ≤ d → d ≤ k → d ≠ c) (fun _ t29 => 11 - (intOf t29).toNat)
  case atStart => exact ⟨0, rfl, Nat.zero_le _, rfl, fun d h1 h2 => by omega⟩
  case round =>
    obtain ⟨k, rfl, hk, rfl, hne⟩ := hrel
    have Hne := hid hne
    clear hne
    by_cases hlt : k < 11
    · have hck := (Hc k hlt).out
      have hcall := hid (HI.out (k + 1) (by omega))
      by_cases he : k + 1 = c
      · have hcv : Hid (codeV c = (k : Int) + 1) := hid (by unfold codeV; rw [if_neg (by omega)]; omega)
        rw [decide_eq_true he] at hcall
        clear he
        have hlt2 : (k : Int) < 11 := by omega
        go_wp2_with fail
        refine hcall.out.mono ?_
        rintro e w3 ⟨rfl, rfl⟩
        go_wp2
        go_ret2
        exact ⟨by rw [hcv.out]; rfl, Hx.out⟩
      · rw [decide_eq_false he] at hcall
        have hlt2 : (k : Int) < 11 := by omega
        have He := hid he
        clear he
        go_wp2_with fail
        refine hcall.out.mono ?_
        rintro e w3 ⟨rfl, rfl⟩
        go_wp2
        go_round
        case rel => exact ⟨k + 1, by go_num, by omega, rfl, fun d h1 h2 => by
          by_cases hd : d = k + 1
          · rw [hd]; exact He.out
          · exact Hne.out d h1 (by omega)⟩
        case measure => simp [intOf]; omega
    · obtain rfl : k = 11 := by omega
      have hcv : Hid (codeV c = -1) := hid (by
        unfold codeV
        rw [if_pos]
        rcases Nat.eq_zero_or_pos c with h0 | h0
        · exact h0
        · exact absurd rfl (Hne.out c h0 hc))
      go_wp2
      go_ret2
      exact ⟨by rw [hcv.out]; rfl, Hx.out⟩
set_option maxRecDepth 100000 in
set_option maxHeartbeats 3200000 in
theorem code_fault (w : World) (ad : Nat → Addr) (h : AllErrs w ad) (b : Nat) (pl : Int) (c : Nat) (hc : c ≤ 11) (hpl : w.cell? ⟨b, 0, none⟩ = some (.int .i64 pl)) (hi : IsAs w ad (.iface 134 (.pointer (some ⟨b, 0, none⟩))) c) :
    Calls Tryz.prog 52 #[.iface 134 (.pointer (some ⟨b, 0, none⟩))] w fun e w' => e = .returned (.tuple #[.int .i64 (codeV c), .int .i64 pl]) ∧ Ext w w' := by
  have hA := hid (as_hit ⟨b, 0, none⟩ ⟨w.heap.size, 0, none⟩ (.pointer none) (w.alloc (.cells #[.pointer none] 134)) (((Ext.refl w).alloc _).cellx h.ty) (by simp) (by simp))
  go_enter Tryz.func52, Tryz.ntmps52
  go_wp2_with fail
  refine hA.out.mono ?_
  intro e w1 hx
  obtain ⟨rfl, hw1⟩ := hx
  have h3 := ((((Ext.refl (w.alloc (.cells #[.pointer none] 134))).alloc (.cells #[.pointer (some ⟨w.heap.size, 0, none⟩)] 136)).alloc (.cells #[.pointer (some ⟨15, 136, none⟩), .pointer (some ⟨(w.alloc (.cells #[.pointer none] 134)).heap.size, 0, none⟩), .int .u64 150] 164)).alloc (.cells #[.pointer (some ⟨15, 136, none⟩), .pointer (some ⟨(w.alloc (.cells #[.pointer none] 134)).heap.size, 0, none⟩), .int .u64 150] 164)).alloc (.cells #[.pointer (some ⟨b, 0, none⟩)] 134)
  have hB := ((Blk.new w #[.pointer none] 134).ext h3).set 0 (.pointer (some ⟨b, 0, none⟩))
  have hx1 : Ext w w1 := by
    rw [hw1]
    exact Keep.new (((Ext.refl w).alloc _).trans h3) (Keep.set (X := fun n => n = w.heap.size) (Keep.refl _ _) rfl _) fun n hn => by omega
  rw [← hw1] at hB
  have ht : w1.cell? ⟨w.heap.size, 0, none⟩ = some (.pointer (some ⟨b, 0, none⟩)) := (hB.cell 0).trans rfl
  have hp1 := hx1.cellx hpl
  clear hA hw1 h3 hB
  have g0 := (h.ext hx1).at1
  have g1 := (h.ext hx1).at2
  have g2 := (h.ext hx1).at3
  have g3 := (h.ext hx1).at4
  have g4 := (h.ext hx1).at5
  have g5 := (h.ext hx1).at6
  have g6 := (h.ext hx1).at7
  have g7 := (h.ext hx1).at8
  have g8 := (h.ext hx1).at9
  have g9 := (h.ext hx1).at10
  have g10 := (h.ext hx1).at11
  obtain ⟨W, hW⟩ : ∃ W, W = w1.alloc (.cells #[.iface 262 (.pointer (some (ad 1))), .iface 262 (.pointer (some (ad 2))), .iface 262 (.pointer (some (ad 3))), .iface 262 (.pointer (some (ad 4))), .iface 262 (.pointer (some (ad 5))), .iface 262 (.pointer (some (ad 6))), .iface 262 (.pointer (some (ad 7))), .iface 262 (.pointer (some (ad 8))), .iface 262 (.pointer (some (ad 9))), .iface 262 (.pointer (some (ad 10))), .iface 262 (.pointer (some (ad 11)))] 38) := ⟨_, rfl⟩
  have hcell : ∀ k, k < 11 → W.cell? ⟨w1.heap.size, k, none⟩ = some (.iface 262 (.pointer (some (ad (k + 1))))) := fun k hk => by
    have hB := Blk.new w1 #[.iface 262 (.pointer (some (ad 1))), .iface 262 (.pointer (some (ad 2))), .iface 262 (.pointer (some (ad 3))), .iface 262 (.pointer (some (ad 4))), .iface 262 (.pointer (some (ad 5))), .iface 262 (.pointer (some (ad 6))), .iface 262 (.pointer (some (ad 7))), .iface 262 (.pointer (some (ad 8))), .iface 262 (.pointer (some (ad 9))), .iface 262 (.pointer (some (ad 10))), .iface 262 (.pointer (some (ad 11)))] 38
    rw [← hW] at hB
    rw [hB.cell k]
    rcases (by omega : k = 0 ∨ k = 1 ∨ k = 2 ∨ k = 3 ∨ k = 4 ∨ k = 5 ∨ k = 6 ∨ k = 7 ∨ k = 8 ∨ k = 9 ∨ k = 10) with rfl | rfl | rfl | rfl | rfl | rfl | rfl | rfl | rfl | rfl | rfl <;> rfl
  have hX : Ext w W := by rw [hW]; exact hx1.alloc _
  have HW := hid hW
  have Hc := fun k hk => hid (hcell k hk)
  have HI := hid (hi _ hX)
  have Hx := hid hX
  clear hcell hW hX hi
  go_wp2
  rw [← HW.out]
  clear g0 g1 g2 g3 g4 g5 g6 g7 g8 g9 g10 HW h hx1
  generalize w1.heap.size = N at *
  go_loop [3, 29] (fun t3 t29 => ∃ k : Nat, t29 = .int .i64 (k : Int) ∧ k ≤ 11 ∧ t3 = .int .i64 pl ∧ ∀ d, 1 ≤ d → d ≤ k → d ≠ c) (fun _ t29 => 11 - (intOf t29).toNat)
  case atStart => exact ⟨0, rfl, Nat.zero_le _, rfl, fun d h1 h2 => by omega⟩
  case round =>
    obtain ⟨k, rfl, hk, rfl, hne⟩ := hrel
    have Hne := hid hne
    clear hne
    by_cases hlt : k < 11
    · have hck := (Hc k hlt).out
      have hcall := hid (HI.out (k + 1) (by omega))
      by_cases he : k + 1 = c
      · have hcv : Hid (codeV c = (k : Int) + 1) := hid (by unfold codeV; rw [if_neg (by omega)]; omega)
        rw [decide_eq_true he] at hcall
        clear he
        have hlt2 : (k : Int) < 11 := by omega
        go_wp2_with fail
        refine hcall.out.mono ?_
        rintro e w3 ⟨rfl, rfl⟩
        go_wp2
        go_ret2
        exact ⟨by rw [hcv.out]; rfl, Hx.out⟩
      · rw [decide_eq_false he] at hcall
        have hlt2 : (k : Int) < 11 := by omega
        have He := hid he
        clear he
        go_wp2_with fail
        refine hcall.out.mono ?_
        rintro e w3 ⟨rfl, rfl⟩
        go_wp2
        go_round
        case rel => exact ⟨k + 1, by go_num, by omega, rfl, fun d h1 h2 => by
          by_cases hd : d = k + 1
          · rw [hd]; exact He.out
          · exact Hne.out d h1 (by omega)⟩
        case measure => simp [intOf]; omega
    · obtain rfl : k = 11 := by omega
      have hcv : Hid (codeV c = -1) := hid (by
        unfold codeV
        rw [if_pos]
        rcases Nat.eq_zero_or_pos c with h0 | h0
        · exact h0
        · exact absurd rfl (Hne.out c h0 hc))
      go_wp2
      go_ret2
      exact ⟨by rw [hcv.out]; rfl, Hx.out⟩
def cntE (EL : List (Int × Int)) (m n : Nat) : Nat := ((EL.take m).filter fun e => decide (e.2 = (n : Int))).length
theorem cntE_zero (EL : List (Int × Int)) (n : Nat) : cntE EL 0 n = 0 := rfl
theorem cntE_succ {EL : List (Int × Int)} {m n : Nat} {e : Int × Int} (he : EL[m]? = some e) : cntE EL (m + 1) n = cntE EL m n + if e.2 = (n : Int) then 1 else 0 := by
  unfold cntE
  rw [List.take_add_one, he, List.filter_append, List.length_append]
  congr 1
  show (List.filter _ [e]).length = _
  rw [List.filter_cons]
  by_cases h : e.2 = (n : Int)
  · rw [if_pos (decide_eq_true h), if_pos h]; rfl
  · rw [if_neg (by simpa using h), if_neg h]; rfl
theorem srt_below : ∀ {l : List Int} {lo hi : Int}, Srt l → (∀ x ∈ l, lo ≤ x ∧ x < hi) → l.length ≤ (hi - lo).toNat
  | [], _, _, _, _ => Nat.zero_le _
  | a :: t, lo, hi, hs, hb => by
    have h1 := List.pairwise_cons.1 hs
    have h2 := srt_below (lo := a + 1) (hi := hi) h1.2 fun x hx => ⟨by have := h1.1 x hx; omega, (hb x (List.mem_cons_of_mem _ hx)).2⟩
    have h3 := hb a (List.mem_cons_self ..)
    rw [List.length_cons]
    omega
theorem cntE_few {EL : List (Int × Int)} {N : Nat} (hs : SrtP EL) (hin : ∀ e ∈ EL, 0 ≤ e.1 ∧ e.1 < (N : Int)) (m n : Nat) : cntE EL m n ≤ N := by
  unfold cntE
  rw [← List.length_map (f := Prod.fst)]
  have h := srt_below (l := ((EL.take m).filter fun e => decide (e.2 = (n : Int))).map Prod.fst) (lo := 0) (hi := (N : Int)) ?_ fun x hx => ?_
  · simpa using h
  · refine List.pairwise_map.2 ?_
    have h1 : SrtP ((EL.take m).filter fun e => decide (e.2 = (n : Int))) := (hs.sublist (List.take_sublist m EL)).sublist List.filter_sublist
    refine h1.imp_of_mem fun {a b} ha hb hab => ?_
    have e1 : a.2 = (n : Int) := by simpa using (List.mem_filter.1 ha).2
    have e2 : b.2 = (n : Int) := by simpa using (List.mem_filter.1 hb).2
    unfold lexLt at hab
    omega
  · obtain ⟨e, he, rfl⟩ := List.mem_map.1 hx
    exact hin e (List.mem_of_mem_take (List.mem_filter.1 he).1)
structure BagAt (P : PP) (has : List (List Int)) (EL : List (Int × Int)) (k m : Nat) (B : List (List Int)) : Prop where
  set : ∃ S, RoundAt P has EL k m S ∧ B.length = S.length ∧ ∀ n x, x ∈ B.getD n [] ↔ x ∈ S.getD n []
  few : ∀ n, (B.getD n []).length ≤ 1000 + k + 1000 * cntE EL m n
theorem BagAt.len {P : PP} {has : List (List Int)} {EL : List (Int × Int)} {k m : Nat} {B : List (List Int)} (h : BagAt P has EL k m B) : B.length = has.length := by
  obtain ⟨S, h1, h2, _⟩ := h.set
  exact h2.trans h1.len
theorem BagAt.start {P : PP} {has : List (List Int)} (hg : P.GoodS has) (EL : List (Int × Int)) : BagAt P has EL 0 0 has :=
  ⟨⟨has, RoundAt.start hg EL, rfl, fun _ _ => Iff.rfl⟩, fun n => by
    by_cases hn : n < has.length
    · have := srt_few (hg.ok.ok _ (getD_mem hn)).1
      omega
    · rw [List.getD_eq_getElem?_getD, List.getElem?_eq_none (by omega)]
      show (0 : Nat) ≤ _
      omega⟩
theorem BagAt.skip {P : PP} {has : List (List Int)} {EL : List (Int × Int)} {k : Nat} {B : List (List Int)} (h : BagAt P has EL k 0 B) (hb : (P.ruleV k (P.stAt k)).kind.toList ≠ bBase.toList) : BagAt P has EL (k + 1) 0 B := by
  obtain ⟨S, h1, h2, h3⟩ := h.set
  exact ⟨⟨S, h1.skip hb, h2, h3⟩, fun n => by have := h.few n; omega⟩
theorem BagAt.base {P : PP} {has : List (List Int)} {EL : List (Int × Int)} {k : Nat} {B : List (List Int)} (h : BagAt P has EL k 0 B) (hb : (P.ruleV k (P.stAt k)).kind.toList = bBase.toList) {a : Nat} {b : Int} (ha : (P.ruleV k (P.stAt k)).a = (a : Int)) (hbb : (P.ruleV k (P.stAt k)).b = b) (hb1 : 0 ≤ b ∧ b < 1000) (hal : a < has.length) :
    BagAt P has EL (k + 1) 0 (B.set a (B.getD a [] ++ [b])) := by
  obtain ⟨S, h1, h2, h3⟩ := h.set
  have hS : a < S.length := by rw [h1.len]; exact hal
  have hB : a < B.length := by rw [h2]; exact hS
  have hin : InR (S.getD a [] ++ [b]) := (chkE_zero.1 (h1.ok _ (getD_mem hS))).1.app fun x hx => by obtain rfl := List.mem_singleton.1 hx; exact hb1
  refine ⟨⟨_, h1.base hb ha hbb hb1 hal, by rw [List.length_set, List.length_set, h2], fun n x => ?_⟩, fun n => ?_⟩
  · rw [set_getD hB, set_getD hS]
    by_cases han : a = n
    · rw [if_pos han, if_pos han, mem_sset hin, List.mem_append, List.mem_append, h3]
    · rw [if_neg han, if_neg han, h3]
  · rw [set_getD hB]
    have := h.few n
    by_cases han : a = n
    · subst han
      rw [if_pos rfl, List.length_append, List.length_singleton]
      omega
    · rw [if_neg han]
      omega
theorem BagAt.edge {P : PP} {has : List (List Int)} {EL : List (Int × Int)} {k m : Nat} {B : List (List Int)} (h : BagAt P has EL k m B) {a b : Nat} (he : EL[m]? = some ((a : Int), (b : Int))) (hok : ∀ l ∈ has, chkE l = 0) (hal : a < has.length) (hbl : b < has.length) :
    BagAt P has EL k (m + 1) (B.set b (B.getD b [] ++ has.getD a [])) := by
  obtain ⟨S, h1, h2, h3⟩ := h.set
  have hS : b < S.length := by rw [h1.len]; exact hbl
  have hB : b < B.length := by rw [h2]; exact hS
  have hin : InR (S.getD b [] ++ has.getD a []) := (chkE_zero.1 (h1.ok _ (getD_mem hS))).1.app (chkE_zero.1 (hok _ (getD_mem hal))).1
  refine ⟨⟨_, h1.edge he hok hal hbl, by rw [List.length_set, List.length_set, h2], fun n x => ?_⟩, fun n => ?_⟩
  · rw [set_getD hB, set_getD hS]
    by_cases han : b = n
    · rw [if_pos han, if_pos han, mem_sset hin, List.mem_append, List.mem_append, h3]
    · rw [if_neg han, if_neg han, h3]
  · rw [set_getD hB, cntE_succ he]
    have h4 := h.few n
    have h5 := srt_few (hok _ (getD_mem hal))
    by_cases han : b = n
    · subst han
      rw [if_pos rfl, if_pos rfl, List.length_append]
      omega
    · rw [if_neg han, if_neg (fun e => han (Int.ofNat_inj.1 e))]
      omega
theorem BagAt.done {P : PP} {has : List (List Int)} (hg : P.GoodS has) {B : List (List Int)} (h : BagAt P has (P.edgesL has) P.stmts.length (P.edgesL has).length B) : B.map sset = P.roundV has := by
  obtain ⟨S, h1, h2, h3⟩ := h.set
  obtain rfl := h1.uniq (roundV_at hg)
  refine List.ext_getElem? fun n => ?_
  rw [List.getElem?_map]
  by_cases hn : n < B.length
  · have hs : n < (P.roundV has).length := by rw [← h2]; exact hn
    have ht := chkE_zero.1 (h1.ok _ (getD_mem hs))
    have e : sset (B.getD n []) = (P.roundV has).getD n [] := srt_uniq (sset_srt _) ht.2 fun x => (mem_sset (fun x hx => ht.1 x ((h3 n x).1 hx))).trans (h3 n x)
    rw [List.getD_eq_getElem?_getD, List.getD_eq_getElem?_getD, List.getElem?_eq_getElem hn, List.getElem?_eq_getElem hs] at e
    rw [List.getElem?_eq_getElem hn, List.getElem?_eq_getElem hs]
    exact congrArg some e
  · rw [List.getElem?_eq_none (by omega), List.getElem?_eq_none (by rw [← h2]; omega)]
    rfl
theorem StmtsR.own2 {w : World} {base : Nat} {v : Value} {ss : List S2} {l : List PS} (h : w.ownsRow base 73 4 v ss.length (ss.flatMap S2.cells)) (hl : ss.map S2.s = l) (hn : ∀ x ∈ ss, IntsR w w.heap.size x.v x.s.args) : StmtsR w w.heap.size v l := by
  have hll : l.length = ss.length := by rw [← hl, List.length_map]
  unfold StmtsR
  rw [hll]
  refine ElR.own h (Nat.le_refl _) fun g hc i hi f hf => ?_
  rw [← hl, List.getElem?_map] at hf
  obtain ⟨x, hx, rfl⟩ := Option.map_eq_some_iff.1 hf
  have c : ∀ j u, x.cells[j]? = some u → j < 4 → w.cell? (((⟨g, 0, none⟩ : Addr).add (i * 4)).add j) = some u := fun j u hu hj => by
    rw [add_add]
    exact hc _ _ ((fm_get S2.cells 4 S2.cells_len ss i j x hx hj).trans hu)
  exact ⟨x.v, by simpa [Addr.add] using c 0 _ rfl (by omega), c 1 _ rfl (by omega), c 2 _ rfl (by omega), c 3 _ rfl (by omega), hn x (List.mem_of_getElem? hx)⟩
structure OwnR (w : World) (n1 : Nat) (vv fv sv : Value) (P : PP) (fs : List F2) (ss : List S2) : Prop where
  vars : w.ownsRow 0 9 1 vv P.vars.length (P.vars.map .string)
  funs : w.ownsRow n1 75 3 fv P.funs.length (fs.flatMap F2.cells)
  stmts : w.ownsRow n1 73 4 sv P.stmts.length (ss.flatMap S2.cells)
  fm : fs.map F2.f = P.funs
  sm : ss.map S2.s = P.stmts
  fi : ∀ x ∈ fs, IntsT w x.v x.f.params
  si : ∀ x ∈ ss, IntsT w x.v x.s.args
theorem OwnR.ext {w w' : World} {n1 : Nat} {vv fv sv : Value} {P : PP} {fs : List F2} {ss : List S2} (h : OwnR w n1 vv fv sv P fs ss) (x : Ext w w') : OwnR w' n1 vv fv sv P fs ss :=
  ⟨own_ext h.vars x, own_ext h.funs x, own_ext h.stmts x, h.fm, h.sm, fun y hy => (h.fi y hy).ext x, fun y hy => (h.si y hy).ext x⟩
theorem OwnR.prog {w : World} {n1 : Nat} {vv fv sv : Value} {P : PP} {fs : List F2} {ss : List S2} (h : OwnR w n1 vv fv sv P fs ss) : ProgR w w.heap.size vv fv sv P := by
  have hfl : fs.length = P.funs.length := by rw [← h.fm, List.length_map]
  have hsl : ss.length = P.stmts.length := by rw [← h.sm, List.length_map]
  exact ⟨StrsR.own h.vars (Nat.le_refl _), FunsR.own (by rw [hfl]; exact h.funs) h.fm h.fi, StmtsR.own (by rw [hsl]; exact h.stmts) h.sm h.si⟩
theorem OwnR.more {w w' : World} {n1 : Nat} {vv fv sv sv' : Value} {P : PP} {fs : List F2} {ss : List S2} (h : OwnR w n1 vv fv sv P fs ss) (x : S2) (hx : IntsR w' w'.heap.size x.v x.s.args)
    (ho : w'.ownsRow n1 73 4 sv' (P.stmts.length + 1) (ss.flatMap S2.cells ++ S2.cells x)) {X : Nat → Prop} (k : Keep X w w') (hX : ∀ q, X q → ∃ c t, Blk w q c t ∧ t ≠ 9 ∧ t ≠ 75 ∧ t ≠ 3) :
    ProgR w' w'.heap.size vv fv sv' ⟨P.vars, P.funs, P.stmts ++ [x.s]⟩ := by
  have hfl : fs.length = P.funs.length := by rw [← h.fm, List.length_map]
  have hsl : ss.length = P.stmts.length := by rw [← h.sm, List.length_map]
  have hni : ∀ b, X b → ¬ IsInt w b := fun b e => by
    obtain ⟨c, t, hc, _, _, h3⟩ := hX b e
    exact notInt hc h3
  have hrk : ∀ {base : Nat} {e : TypeId} {size : Nat} {v : Value} {n : Nat} {xs : List Value}, w.ownsRow base e size v n xs → (e = 9 ∨ e = 75) → w'.ownsRow base e size v n xs := fun hr hne => row_keep hr k fun i hi e => by
    obtain ⟨c, hc⟩ := own_ty hr hi
    obtain ⟨c', t, hc', h1, h2, _⟩ := hX i e
    refine Blk.ty_ne hc hc' (fun e => ?_) rfl
    rcases hne with h | h
    · exact h1 (e.symm.trans h)
    · exact h2 (e.symm.trans h)
  refine ⟨StrsR.own (hrk h.vars (.inl rfl)) (Nat.le_refl _), FunsR.own (by rw [hfl]; exact hrk h.funs (.inr rfl)) h.fm fun x hx => (h.fi x hx).keep k hni, ?_⟩
  refine StmtsR.own2 (base := n1) (ss := ss ++ [x]) ?_ ?_ ?_
  · rw [List.flatMap_append, List.length_append, List.length_singleton, hsl]
    simpa using ho
  · rw [List.map_append, h.sm]; rfl
  · intro y hy
    rcases List.mem_append.1 hy with hy | hy
    · exact ((h.si y hy).keep k hni).1
    · obtain rfl := List.mem_singleton.1 hy
      exact hx
structure Bags (w : World) (base : Nat) (vs : List Value) (B : List (List Int)) : Prop where
  len : vs.length = B.length
  row : ∀ (i : Nat) v l, vs[i]? = some v → B[i]? = some l → IRow base w v l
  apart : ∀ (i j : Nat) v u b, i ≠ j → vs[i]? = some v → vs[j]? = some u → v.ownBlock = some b → ¬ u.ownBlock = some b
theorem Bags.nil (w : World) (base : Nat) : Bags w base [] [] := ⟨rfl, fun _ _ _ h => by simp at h, fun _ _ _ _ _ _ h => by simp at h⟩
theorem Bags.made {w : World} {base : Nat} {vs : List Value} {B : List (List Int)} (h : Bags w base vs B) : Made w vs B := ⟨h.len, fun i v l h1 h2 => IntsT.of_row (h.row i v l h1 h2)⟩
theorem Bags.keep {X : Nat → Prop} {w w' : World} {base : Nat} {vs : List Value} {B : List (List Int)} (h : Bags w base vs B) (k : Keep X w w') (hX : ∀ b, X b → ¬ IsInt w b) : Bags w' base vs B :=
  ⟨h.len, fun i v l h1 h2 => row_keep (h.row i v l h1 h2) k fun b hb hx => hX b hx (by
    obtain ⟨c, hc⟩ := own_ty (h.row i v l h1 h2) hb
    exact ⟨c, _, hc⟩), h.apart⟩
theorem Bags.ext {w w' : World} {base : Nat} {vs : List Value} {B : List (List Int)} (h : Bags w base vs B) (x : Ext w w') : Bags w' base vs B := h.keep (x.keep fun _ => False) fun _ h => h.elim
theorem Bags.push {w w' : World} {base : Nat} {vs : List Value} {B : List (List Int)} (h : Bags w base vs B) (x : Ext w w') {v : Value} {l : List Int} (hr : IRow base w' v l) (hn : ∀ b, v.ownBlock = some b → w.heap.size ≤ b) : Bags w' base (vs ++ [v]) (B ++ [l]) := by
  have hlt : ∀ (i : Nat) u b, vs[i]? = some u → u.ownBlock = some b → b < w.heap.size := fun i u b hu hb => by
    have hi : i < vs.length := by
      rcases Nat.lt_or_ge i vs.length with g | g
      · exact g
      · rw [List.getElem?_eq_none g] at hu; cases hu
    obtain ⟨m, hm⟩ : ∃ m, B[i]? = some m := ⟨_, List.getElem?_eq_getElem (by rw [← h.len]; exact hi)⟩
    exact (World.ownsRow.lt (h.row i u m hu hm) b hb).2
  have hat : ∀ (i : Nat) u, (vs ++ [v])[i]? = some u → (i < vs.length ∧ vs[i]? = some u) ∨ (i = vs.length ∧ u = v) := fun i u hu => by
    rcases Nat.lt_trichotomy i vs.length with g | g | g
    · rw [List.getElem?_append_left g] at hu
      exact .inl ⟨g, hu⟩
    · subst g
      rw [List.getElem?_concat_length] at hu
      exact .inr ⟨rfl, (Option.some.inj hu).symm⟩
    · rw [List.getElem?_eq_none (by rw [List.length_append, List.length_singleton]; omega)] at hu
      cases hu
  refine ⟨by rw [List.length_append, List.length_append, h.len]; rfl, fun i u m hu hm => ?_, fun i j u z b hij hu hz hb hz' => ?_⟩
  · rcases hat i u hu with ⟨hi, hu'⟩ | ⟨rfl, rfl⟩
    · rw [List.getElem?_append_left (by rw [← h.len]; exact hi)] at hm
      exact (h.ext x).row i u m hu' hm
    · rw [h.len, List.getElem?_concat_length] at hm
      obtain rfl := Option.some.inj hm
      exact hr
  · rcases hat i u hu with ⟨hi, hu'⟩ | ⟨hi, rfl⟩ <;> rcases hat j z hz with ⟨hj, hz''⟩ | ⟨hj, rfl⟩
    · exact h.apart i j u z b hij hu' hz'' hb hz'
    · have := hlt i u b hu' hb
      have := hn b hz'
      omega
    · have := hlt j z b hz'' hz'
      have := hn b hb
      omega
    · omega
theorem Bags.app {w w' : World} {base i : Nat} {vs : List Value} {B : List (List Int)} (h : Bags w base vs B) (hi : i < vs.length) {v v' : Value} {l' : List Int} (hv : vs[i]? = some v) (hr : IRow base w' v' l') (k : Keep (fun q => v.ownBlock = some q) w w') (hb : ∀ b, v'.ownBlock = some b → v.ownBlock = some b ∨ w.heap.size ≤ b) :
    Bags w' base (vs.set i v') (B.set i l') := by
  have hlt : ∀ (j : Nat) u b, vs[j]? = some u → u.ownBlock = some b → b < w.heap.size := fun j u b hu hb => by
    have hj : j < vs.length := by
      rcases Nat.lt_or_ge j vs.length with g | g
      · exact g
      · rw [List.getElem?_eq_none g] at hu; cases hu
    obtain ⟨m, hm⟩ : ∃ m, B[j]? = some m := ⟨_, List.getElem?_eq_getElem (by rw [← h.len]; exact hj)⟩
    exact (World.ownsRow.lt (h.row j u m hu hm) b hb).2
  have hoff : ∀ (j : Nat) u b, j ≠ i → vs[j]? = some u → v'.ownBlock = some b → ¬ u.ownBlock = some b := fun j u b hj hu hb' hu' => by
    rcases hb b hb' with g | g
    · exact h.apart i j v u b (fun e => hj e.symm) hv hu g hu'
    · have := hlt j u b hu hu'
      omega
  refine ⟨by rw [List.length_set, List.length_set, h.len], fun j u m hu hm => ?_, fun p q u z b hpq hu hz hb' hz' => ?_⟩
  · by_cases hj : i = j
    · subst hj
      rw [List.getElem?_set_self hi] at hu
      rw [List.getElem?_set_self (by rw [← h.len]; exact hi)] at hm
      obtain rfl := Option.some.inj hu
      obtain rfl := Option.some.inj hm
      exact hr
    · rw [List.getElem?_set_ne hj] at hu hm
      exact row_keep (h.row j u m hu hm) k fun b hb1 hb2 => h.apart i j v u b hj hv hu hb2 hb1
  · by_cases hp : i = p
    · subst hp
      rw [List.getElem?_set_self hi] at hu
      obtain rfl := Option.some.inj hu
      rw [List.getElem?_set_ne hpq] at hz
      exact hoff q z b (fun e => hpq e.symm) hz hb' hz'
    · rw [List.getElem?_set_ne hp] at hu
      by_cases hq : i = q
      · subst hq
        rw [List.getElem?_set_self hi] at hz
        obtain rfl := Option.some.inj hz
        exact hoff p u b hpq hu hz' hb'
      · rw [List.getElem?_set_ne hq] at hz
        exact h.apart p q u z b hpq hu hz hb' hz'
def EsR (w : World) (n0 : Nat) (v : Value) (l : List (Int × Int)) : Prop := ElR n0 v l.length fun i y => ∀ e, l[i]? = some e → w.cell? (y.add (i * 2)) = some (.int .i64 e.1) ∧ w.cell? ((y.add (i * 2)).add 1) = some (.int .i64 e.2)
section
variable {w w' : World} {n0 n1 : Nat} {v : Value} {l : List (Int × Int)}
theorem EsR.old (h : EsR w n0 v l) (k : Old n0 w w') : EsR w' n0 v l :=
  ElR.mono h (Nat.le_refl _) fun i y _ hy hE s hs => by
    obtain ⟨h1, h2⟩ := hE s hs
    exact ⟨k.cellx h1 (by rw [add_block]; exact hy), k.cellx h2 (by rw [add_block, add_block]; exact hy)⟩
theorem EsR.ext (h : EsR w n0 v l) (x : Ext w w') : EsR w' n0 v l := h.old (x.old _)
theorem EsR.lift (h : EsR w n0 v l) (hn : n0 ≤ n1) : EsR w n1 v l := ElR.lift h hn
theorem EsR.form2 (h : EsR w n0 v l) : ∃ a c, v = .slice a l.length c := by
  obtain ⟨a, cap, h1, _⟩ := h
  exact ⟨a, cap, h1⟩
theorem EsR.len (h : EsR w n0 v l) : (l.length : Int) ≤ 9223372036854775807 := by
  obtain ⟨_, _, _, h2, h3, _⟩ := h
  omega
theorem EsR.at2 {a : Option Addr} {n c : Nat} (h : EsR w n0 (.slice a n c) l) {i : Nat} {x : Int × Int} (hx : l[i]? = Option.some x) :
    ∃ y, a = some y ∧ y.block < n0 ∧ w.cell? (y.add (i * 2)) = some (.int .i64 x.1) ∧ w.cell? ⟨(y.add (i * 2)).block, (y.add (i * 2)).off + 1, none⟩ = some (.int .i64 x.2) := by
  obtain ⟨a', cap', h1, _, _, h4, h5⟩ := h
  have hil := (List.getElem?_eq_some_iff.1 hx).1
  simp only [Value.slice.injEq] at h1
  obtain ⟨rfl, -, -⟩ := h1
  obtain ⟨y, hy⟩ := h4 (by omega)
  obtain ⟨e0, e1⟩ := (h5 y hy (by omega)).2 i hil x hx
  rw [add_posU _ _ (by decide)] at e1
  exact ⟨y, hy, (h5 y hy (by omega)).1, e0, e1⟩
theorem EsR.own {base : Nat} {t : TypeId} (h : w.ownsRow base t 2 v l.length (l.flatMap eCells)) (h0 : w.heap.size ≤ n0) : EsR w n0 v l :=
  ElR.own h h0 fun g hc i hi s hs => by
    have c : ∀ j u, (eCells s)[j]? = some u → j < 2 → w.cell? (((⟨g, 0, none⟩ : Addr).add (i * 2)).add j) = some u := fun j u hv hj => by
      rw [show ((⟨g, 0, none⟩ : Addr).add (i * 2)).add j = (⟨g, 0, none⟩ : Addr).add (i * 2 + j) from Go.Deep.add_add _ _ _]
      exact hc _ _ ((fm_get eCells 2 eCells_len l i j s hs hj).trans hv)
    exact ⟨by have := c 0 _ rfl (by omega); simpa [Go.Deep.add_add] using this, c 1 _ rfl (by omega)⟩
end
def einB (n : Int) (e : Int × Int) : Bool := (decide (0 ≤ e.1) && decide (e.1 < n)) && (decide (0 ≤ e.2) && decide (e.2 < n))
def einAll (n : Int) (E : List (Int × Int)) (k : Nat) : Prop := ∀ (j : Nat) e, j < k → E[j]? = some e → einB n e = true
theorem einB_iff {n : Int} {e : Int × Int} : einB n e = true ↔ (0 ≤ e.1 ∧ e.1 < n) ∧ (0 ≤ e.2 ∧ e.2 < n) := by
  unfold einB
  simp only [Bool.and_eq_true, decide_eq_true_eq]
theorem einAll.ein {n : Nat} {E : List (Int × Int)} (h : einAll (n : Int) E E.length) : EIn n E := fun e he => by
  obtain ⟨i, hi⟩ := List.getElem?_of_mem he
  exact einB_iff.1 (h i e (List.getElem?_eq_some_iff.1 hi).1 hi)
theorem einAll.succ {n : Int} {E : List (Int × Int)} {k : Nat} {e : Int × Int} (h : einAll n E k) (he : E[k]? = some e) (hb : einB n e = true) : einAll n E (k + 1) := fun j x hj hx => by
  rcases Nat.lt_or_ge j k with g | g
  · exact h j x g hx
  · obtain rfl : j = k := by omega
    obtain rfl := Option.some.inj (he.symm.trans hx)
    exact hb
def EdgeIs (n : Int) (E : List (Int × Int)) (c : Nat) (p : Int) : Prop :=
  ((n < 0 ∨ 1000 < n) ∧ c = 2 ∧ p = -1) ∨ ((0 ≤ n ∧ n ≤ 1000) ∧ einAll n E E.length ∧ c = 0 ∧ p = -1) ∨
  ((0 ≤ n ∧ n ≤ 1000) ∧ ∃ (i : Nat) (e : Int × Int), E[i]? = some e ∧ einAll n E i ∧ einB n e = false ∧ c = 2 ∧ p = (i : Int))
theorem EdgeIs.uniq {n : Int} {E : List (Int × Int)} {c d : Nat} {p q : Int} (h : EdgeIs n E c p) (g : EdgeIs n E d q) : c = d ∧ p = q := by
  rcases h with ⟨h1, h2, h3⟩ | ⟨h1, h2, h3, h4⟩ | ⟨h1, i, s, h2, h3, h4, h5, h6⟩ <;> rcases g with ⟨g1, g2, g3⟩ | ⟨g1, g2, g3, g4⟩ | ⟨g1, j, t, g2, g3, g4, g5, g6⟩
  · exact ⟨h2.trans g2.symm, h3.trans g3.symm⟩
  · omega
  · omega
  · omega
  · exact ⟨h3.trans g3.symm, h4.trans g4.symm⟩
  · rw [h2 j t (List.getElem?_eq_some_iff.1 g2).1 g2] at g4; cases g4
  · omega
  · rw [g2 i s (List.getElem?_eq_some_iff.1 h2).1 h2] at h4; cases h4
  · have hij : i = j := by
      rcases Nat.lt_trichotomy i j with k | k | k
      · rw [g3 i s k h2] at h4; cases h4
      · exact k
      · rw [h3 j t k g2] at g4; cases g4
    subst hij
    exact ⟨h5.trans g5.symm, h6.trans g6.symm⟩
def EdgeErr (ad : Nat → Addr) (n : Int) (E : List (Int × Int)) (w : World) (v : Value) : Prop :=
  ((n < 0 ∨ 1000 < n) ∧ v = evOf ad 2) ∨ ((0 ≤ n ∧ n ≤ 1000) ∧ einAll n E E.length ∧ v = .nilIface) ∨
  ((0 ≤ n ∧ n ≤ 1000) ∧ ∃ (i : Nat) (e : Int × Int) (b : Nat), E[i]? = some e ∧ einAll n E i ∧ einB n e = false ∧ v = .iface 134 (.pointer (some ⟨b, 0, none⟩)) ∧ Blk w b #[.int .i64 (i : Int), evOf ad 2] 138)
theorem EdgeErr.ext {ad : Nat → Addr} {n : Int} {E : List (Int × Int)} {w w' : World} {v : Value} (h : EdgeErr ad n E w v) (x : Ext w w') : EdgeErr ad n E w' v := by
  rcases h with h | h | ⟨h1, i, e, b, h2, h3, h4, h5, h6⟩
  · exact .inl h
  · exact .inr (.inl h)
  · exact .inr (.inr ⟨h1, i, e, b, h2, h3, h4, h5, h6.ext x⟩)
set_option maxRecDepth 100000 in
set_option maxHeartbeats 6400000 in
theorem cyclecheck_any (n : Int) (v : Value) (E : List (Int × Int)) (w : World) (n0 : Nat) (ad : Nat → Addr) (he2 : w.cell? ⟨0, 0, none⟩ = some (evOf ad 2)) (hr : EsR w n0 v E) :
    Calls Tryz.prog 57 #[.int .i64 n, v] w fun e w' => ∃ v', e = .returned v' ∧ EdgeErr ad n E w' v' ∧ Ext w w' := by
  obtain ⟨al, cl, rfl⟩ := hr.form2
  have hll := hr.len
  have HR := hid hr
  have He2 := hid he2
  have e2 := he2
  unfold evOf at e2
  clear hr he2
  go_enter Tryz.func57, Tryz.ntmps57
  by_cases hn0 : n < 0
  · have HPE : Hid (EdgeErr ad n E w (.iface 262 (.pointer (some (ad 2))))) := hid (.inl ⟨.inl hn0, rfl⟩)
    go_wp2
    go_ret
    exact ⟨_, rfl, HPE.out, Ext.refl _⟩
  by_cases hn1 : 1000 < n
  · have HPE : Hid (EdgeErr ad n E w (.iface 262 (.pointer (some (ad 2))))) := hid (.inl ⟨.inr hn1, rfl⟩)
    go_wp2
    go_ret
    exact ⟨_, rfl, HPE.out, Ext.refl _⟩
  have Hn : Hid (0 ≤ n ∧ n ≤ 1000) := hid (by omega)
  go_wp2
  clear e2
  go_loopw [16] (fun t16 wr => ∃ k : Nat, t16 = .int .i64 (k : Int) ∧ k ≤ E.length ∧ einAll n E k ∧ Ext w wr) (fun t16 _ => E.length - (intOf t16).toNat)
  case atStart => exact ⟨0, rfl, Nat.zero_le _, fun j e h => absurd h (Nat.not_lt_zero _), Ext.refl _⟩
  case round =>
    obtain ⟨k, rfl, hk, hal, hx⟩ := hrel
    have Hal := hid hal
    have Hx := hid hx
    clear hal hx
    by_cases hlt : k < E.length
    · obtain ⟨e, hek⟩ : ∃ e, E[k]? = some e := ⟨_, List.getElem?_eq_getElem hlt⟩
      obtain ⟨y, rfl, hyb, q0, q1⟩ := (HR.out.ext Hx.out).at2 hek
      obtain ⟨x1, x2⟩ := e
      simp only at q0 q1
      obtain ⟨wA, hwA⟩ : ∃ wA, wA = wr.alloc (.cells #[.int .i64 x1, .int .i64 x2] 95) := ⟨_, rfl⟩
      have HxA : Hid (Ext wr wA) := hid (by rw [hwA]; exact (Ext.refl _).alloc _)
      have hsA : wA.heap.size = wr.heap.size + 1 := by rw [hwA, heap_size_alloc]
      have Hbn : Hid (Blk (wA.alloc (.cells #[.int .i64 (k : Int), .iface 262 (.pointer (some (ad 2)))] 138)) (wr.heap.size + 1) #[.int .i64 (k : Int), .iface 262 (.pointer (some (ad 2)))] 138) := hid (by rw [← hsA]; exact Blk.new _ _ _)
      have e2 := (Hx.out.trans HxA.out).cellx He2.out
      unfold evOf at e2
      have HwA := hid hwA
      have Hek := hid hek
      rw [hwA] at e2
      clear hwA hek hsA
      by_cases z1 : x1 < 0
      · have Hnb : Hid (einB n (x1, x2) = false) := hid (by cases hb : einB n (x1, x2) with | false => rfl | true => have := einB_iff.1 hb; simp only at this; omega)
        have HPE : Hid (EdgeErr ad n E (wA.alloc (.cells #[.int .i64 (k : Int), .iface 262 (.pointer (some (ad 2)))] 138)) (.iface 134 (.pointer (some ⟨wr.heap.size + 1, 0, none⟩)))) := hid (.inr (.inr ⟨Hn.out, k, _, _, Hek.out, Hal.out, Hnb.out, rfl, Hbn.out⟩))
        have HxE := hid (Hx.out.trans (HxA.out.alloc (.cells #[.int .i64 (k : Int), .iface 262 (.pointer (some (ad 2)))] 138)))
        go_wp2
        go_ret
        rw [← HwA.out]
        exact ⟨_, rfl, HPE.out, HxE.out⟩
      by_cases z2 : n ≤ x1
      · have Hnb : Hid (einB n (x1, x2) = false) := hid (by cases hb : einB n (x1, x2) with | false => rfl | true => have := einB_iff.1 hb; simp only at this; omega)
        have HPE : Hid (EdgeErr ad n E (wA.alloc (.cells #[.int .i64 (k : Int), .iface 262 (.pointer (some (ad 2)))] 138)) (.iface 134 (.pointer (some ⟨wr.heap.size + 1, 0, none⟩)))) := hid (.inr (.inr ⟨Hn.out, k, _, _, Hek.out, Hal.out, Hnb.out, rfl, Hbn.out⟩))
        have HxE := hid (Hx.out.trans (HxA.out.alloc (.cells #[.int .i64 (k : Int), .iface 262 (.pointer (some (ad 2)))] 138)))
        go_wp2
        go_ret
        rw [← HwA.out]
        exact ⟨_, rfl, HPE.out, HxE.out⟩
      by_cases z3 : x2 < 0
      · have Hnb : Hid (einB n (x1, x2) = false) := hid (by cases hb : einB n (x1, x2) with | false => rfl | true => have := einB_iff.1 hb; simp only at this; omega)
        have HPE : Hid (EdgeErr ad n E (wA.alloc (.cells #[.int .i64 (k : Int), .iface 262 (.pointer (some (ad 2)))] 138)) (.iface 134 (.pointer (some ⟨wr.heap.size + 1, 0, none⟩)))) := hid (.inr (.inr ⟨Hn.out, k, _, _, Hek.out, Hal.out, Hnb.out, rfl, Hbn.out⟩))
        have HxE := hid (Hx.out.trans (HxA.out.alloc (.cells #[.int .i64 (k : Int), .iface 262 (.pointer (some (ad 2)))] 138)))
        go_wp2
        go_ret
        rw [← HwA.out]
        exact ⟨_, rfl, HPE.out, HxE.out⟩
      by_cases z4 : n ≤ x2
      · have Hnb : Hid (einB n (x1, x2) = false) := hid (by cases hb : einB n (x1, x2) with | false => rfl | true => have := einB_iff.1 hb; simp only at this; omega)
        have HPE : Hid (EdgeErr ad n E (wA.alloc (.cells #[.int .i64 (k : Int), .iface 262 (.pointer (some (ad 2)))] 138)) (.iface 134 (.pointer (some ⟨wr.heap.size + 1, 0, none⟩)))) := hid (.inr (.inr ⟨Hn.out, k, _, _, Hek.out, Hal.out, Hnb.out, rfl, Hbn.out⟩))
        have HxE := hid (Hx.out.trans (HxA.out.alloc (.cells #[.int .i64 (k : Int), .iface 262 (.pointer (some (ad 2)))] 138)))
        go_wp2
        go_ret
        rw [← HwA.out]
        exact ⟨_, rfl, HPE.out, HxE.out⟩
      have Hal1 := hid (Hal.out.succ Hek.out (einB_iff.2 ⟨⟨by simp only; omega, by simp only; omega⟩, by simp only; omega, by simp only; omega⟩))
      go_wp2
      rw [← HwA.out]
      go_roundw
      case rel => exact ⟨k + 1, by go_num, by omega, Hal1.out, Hx.out.trans HxA.out⟩
      case measure => simp [intOf]; omega
    · obtain rfl : k = E.length := by omega
      have HPE : Hid (EdgeErr ad n E wr .nilIface) := hid (.inr (.inl ⟨Hn.out, Hal.out, rfl⟩))
      go_wp2
      go_ret
      exact ⟨_, rfl, HPE.out, Hx.out⟩
set_option maxRecDepth 100000 in
set_option maxHeartbeats 3200000 in
theorem cycleturned_any (v : Value) (E : List (Int × Int)) (w : World) (n0 : Nat) (hr : EsR w n0 v E) (hl : E.length ≤ 100000) :
    Calls Tryz.prog 60 #[v] w fun e w' => ∃ v', e = .returned v' ∧ w'.ownsRow w.heap.size 95 2 v' (revE E).length ((revE E).flatMap eCells) ∧ Ext w w' := by
  obtain ⟨al, cl, rfl⟩ := hr.form2
  have HR0 := hid hr
  have hrl : (revE E).length = E.length := by unfold revE; rw [List.length_map]
  have Hrl := hid hrl
  rw [hrl]
  clear hr hrl
  go_enter Tryz.func60, Tryz.ntmps60
  go_wp2
  go_loopw [3, 8] (fun t3 t8 wr => ∃ (i : Nat) (a : Option Addr) (c : Nat), t8 = .int .i64 (i : Int) ∧ t3 = .slice a i c ∧ i ≤ E.length ∧ wr.ownsRow w.heap.size 95 2 (.slice a i c) i (((revE E).take i).flatMap eCells) ∧ Ext w wr) (fun _ t8 _ => E.length - (intOf t8).toNat)
  case atStart => exact ⟨0, none, 0, rfl, rfl, Nat.zero_le _, World.ownsRow_nil _ _ _ _, Ext.refl _⟩
  case round =>
    obtain ⟨i, a7, c7, rfl, rfl, hi, hR, hx⟩ := hrel
    have HR := hid hR
    have Hx := hid hx
    clear hR hx
    by_cases hlt : i < E.length
    · obtain ⟨e, he⟩ : ∃ e, E[i]? = some e := ⟨_, List.getElem?_eq_getElem hlt⟩
      obtain ⟨y, rfl, hyb, q0, q1⟩ := (HR0.out.ext Hx.out).at2 he
      obtain ⟨x1, x2⟩ := e
      simp only at q0 q1
      obtain ⟨wA, hwA⟩ : ∃ wA, wA = wr.alloc (.cells #[.int .i64 x1, .int .i64 x2] 95) := ⟨_, rfl⟩
      have HxA : Hid (Ext wr wA) := hid (by rw [hwA]; exact (Ext.refl _).alloc _)
      have hxa := (Ext.refl wA).alloc (.cells #[.int .i64 x2, .int .i64 x1] 95)
      have HXa := hid (Hx.out.trans (HxA.out.trans hxa))
      have HRa := hid (own_ext HR.out (HxA.out.trans hxa))
      have Hown : Hid (∀ b, (Value.slice a7 i c7).ownBlock = some b → w.heap.size ≤ b) := hid fun b hb => (World.ownsRow.lt HR.out b hb).1
      have Hbs : Hid (w.heap.size ≤ (wA.alloc (.cells #[.int .i64 x2, .int .i64 x1] 95)).heap.size) := hid HXa.out.size
      have Htk : Hid ((revE E).take (i + 1) = (revE E).take i ++ [(x2, x1)]) := hid (by rw [List.take_add_one]; unfold revE; rw [List.getElem?_map, he]; rfl)
      have HBn : Hid (Blk (wA.alloc (.cells #[.int .i64 x2, .int .i64 x1] 95)) (wr.heap.size + 1) (eCells (x2, x1)).toArray 95) := hid (by rw [show wr.heap.size + 1 = wA.heap.size by rw [hwA, heap_size_alloc]]; exact Blk.new _ _ _)
      have HwA := hid hwA
      clear hxa hwA he
      go_wp2_with (at_builtin; rw [← HwA.out]; refine wpList_append_el w.heap.size Hbs.out 64 95 (.agg #[.int .i64 0, .int .i64 0]) 2 16 Tryz.underlying64 edge_info rfl (by omega) (by omega) rfl _ _ rfl (.slice a7 i c7) i (((revE E).take i).flatMap eCells) rfl HRa.out (wr.heap.size + 1) (eCells (x2, x1)) rfl (by simp [eCells, Value.oneCell']) rfl HBn.out (by omega) ?_; intro v' w' h1 h2 h4; obtain ⟨a', c', rfl⟩ := row_form h1; have HR12 := hid h1; have HK12 := hid h2; clear h1 h2 h4)
      go_roundw
      case rel =>
        refine ⟨i + 1, a', c', by go_num, rfl, by omega, ?_, ?_⟩
        · rw [Htk.out, List.flatMap_append]
          simpa using HR12.out
        · exact Keep.new HXa.out HK12.out fun b hb => Hown.out b hb
      case measure => simp [intOf]; omega
    · obtain rfl : i = E.length := by omega
      have HRz : Hid (wr.ownsRow w.heap.size 95 2 (.slice a7 E.length c7) E.length ((revE E).flatMap eCells)) := hid (by
        have := HR.out
        rw [← Hrl.out, List.take_length, Hrl.out] at this
        exact this)
      go_wp2
      go_ret
      exact ⟨_, rfl, HRz.out, Hx.out⟩
set_option maxRecDepth 100000 in
set_option maxHeartbeats 6400000 in
theorem asedges_any (v : Value) (E : List (Int × Int)) (w : World) (n0 : Nat) (hr : EsR w n0 v E) (hl : E.length ≤ 100000) (hn0 : n0 ≤ w.heap.size) :
    Calls Tryz.prog 26 #[v] w fun e w' => ∃ v', e = .returned v' ∧ w'.ownsRow w.heap.size 95 2 v' E.length (E.flatMap eCells) ∧ Ext w w' := by
  obtain ⟨al, cl, rfl⟩ := hr.form2
  have HR0 := hid hr
  clear hr
  go_enter Tryz.func26, Tryz.ntmps26
  go_wp2
  go_loopw [3, 4] (fun t3 t4 wr => ∃ (i : Nat) (a : Option Addr) (c : Nat), t4 = .int .i64 (i : Int) ∧ t3 = .slice a i c ∧ i ≤ E.length ∧ wr.ownsRow w.heap.size 95 2 (.slice a i c) i ((E.take i).flatMap eCells) ∧ Ext w wr) (fun _ t4 _ => E.length - (intOf t4).toNat)
  case atStart => exact ⟨0, none, 0, rfl, rfl, Nat.zero_le _, World.ownsRow_nil _ _ _ _, Ext.refl _⟩
  case round =>
    obtain ⟨i, a7, c7, rfl, rfl, hi, hR, hx⟩ := hrel
    have HR := hid hR
    have Hx := hid hx
    clear hR hx
    by_cases hlt : i < E.length
    · obtain ⟨e, he⟩ : ∃ e, E[i]? = some e := ⟨_, List.getElem?_eq_getElem hlt⟩
      obtain ⟨y, rfl, hyb, q0, q1⟩ := (HR0.out.ext Hx.out).at2 he
      obtain ⟨x1, x2⟩ := e
      simp only at q0 q1
      have Hown : Hid (∀ b, (Value.slice a7 i c7).ownBlock = some b → w.heap.size ≤ b) := hid fun b hb => (World.ownsRow.lt HR.out b hb).1
      have Htk : Hid (E.take (i + 1) = E.take i ++ [(x1, x2)]) := hid (by rw [List.take_add_one, he]; rfl)
      have hne : ∀ b, (Value.slice a7 i c7).ownBlock = some b → ¬ (y.add (i * 2)).block = b := fun b hb e => by
        have h1 := Hown.out b hb
        rw [add_block] at e
        omega
      have k0 : ∀ w1, Keep (fun q => (Value.slice a7 i c7).ownBlock = some q) wr w1 → w1.cell? (y.add (i * 2)) = some (.int .i64 x1) := fun w1 k => Keep.cellx k q0 fun hb => hne _ hb rfl
      have k1 : ∀ w1, Keep (fun q => (Value.slice a7 i c7).ownBlock = some q) wr w1 → w1.cell? ⟨(y.add (i * 2)).block, (y.add (i * 2)).off + 1, none⟩ = some (.int .i64 x2) := fun w1 k => Keep.cellx k q1 fun hb => hne _ hb rfl
      clear he hne
      go_wp2
      refine wp_flowT (fun q => (Value.slice a7 i c7).ownBlock = some q) (by kernel_rfl) (by kernel_rfl) ?_
      repeat (apply FlowT.d; (intro w1 hk; unfold does; go_simp; (try go_ints); (first | exact DetR.mk | (simp only [↓IntWalk.iteOmega, Oper.doesUpon_value]; exact DetR.mk) | (simp only [↓IntWalk.iteOmega]; go_simp; (try go_ints); exact DetR.mk))); simp only [Act.put, qS0, qS1, qS2])
      refine FlowT.s (fun v' w' => ∃ q, v' = .slice (some ⟨q, 0, none⟩) 1 1 ∧ Blk w' q (eCells (x1, x2)).toArray 95 ∧ Ext wr w') 12 rfl (by kernel_rfl) (fun _ _ _ ⟨q, h1, h2, h3⟩ he => ⟨q, h1, h2.ext he, h3.trans he⟩) (fun w4 hC hk => ?_) ?_
      · unfold does
        go_simp
        exact ⟨hk.alloc _, _, rfl, Blk.new _ _ _, hC.alloc _⟩
      rintro _ ⟨_, q3, rfl, _, _⟩
      simp only [Act.put, qS0, qS1, qS2]
      refine FlowT.s (fun v' w' => (∃ a c, v' = .slice a (i + 1) c) ∧ w'.ownsRow w.heap.size 95 2 v' (i + 1) ((E.take (i + 1)).flatMap eCells) ∧ Ext w w') 13 rfl (by kernel_rfl) (fun _ _ _ ⟨h1, h2, h3⟩ y => ⟨h1, own_ext h2 y, h3.trans y⟩) (fun w5 hC hk => ?_) ?_
      · obtain ⟨q', e, hg, hE⟩ := hC
        obtain rfl : q3 = q' := by simpa using e
        refine does_append_el w.heap.size (Nat.le_trans Hx.out.size hE.size) 64 95 (.agg #[.int .i64 0, .int .i64 0]) 2 16 Tryz.underlying64 edge_info rfl (by omega) (by omega) rfl _ _ rfl _ _ _ rfl (own_ext HR.out hE) q3 (eCells (x1, x2)) rfl (by simp [eCells, Value.oneCell']) rfl hg (by omega) fun v' w' h1 h2 h3 => ?_
        refine ⟨hk.trans h2, row_form h1, ?_, Keep.new (Hx.out.trans hE) h2 fun b hb => Hown.out b hb⟩
        rw [Htk.out, List.flatMap_append]
        simpa using h1
      rintro _ ⟨_, ⟨a', c', rfl⟩, _, _⟩
      simp only [Act.put, qS0, qS1, qS2]
      repeat (apply FlowT.d; (intro w1 hk; unfold does; go_simp; (try go_ints); (first | exact DetR.mk | (simp only [↓IntWalk.iteOmega, Oper.doesUpon_value]; exact DetR.mk) | (simp only [↓IntWalk.iteOmega]; go_simp; (try go_ints); exact DetR.mk))); simp only [Act.put, qS0, qS1, qS2])
      refine FlowT.fin fun w6 hC6 hk6 => ?_
      obtain ⟨_, hr6, hx6⟩ := hC6
      have HR6 := hid hr6
      have Hx6 := hid hx6
      clear hr6 hx6 hk6 k0 k1 q0 q1
      go_wp2
      go_roundw
      case rel => exact ⟨i + 1, a', c', by go_num, rfl, by omega, HR6.out, Hx6.out⟩
      case measure => simp [intOf]; omega
    · obtain rfl : i = E.length := by omega
      have HRz : Hid (wr.ownsRow w.heap.size 95 2 (.slice a7 E.length c7) E.length (E.flatMap eCells)) := hid (by
        have := HR.out
        rw [List.take_length] at this
        exact this)
      go_wp2
      go_ret
      exact ⟨_, rfl, HRz.out, Hx.out⟩
end Go.Proofs.YtihdpijgngooaaaGreatDoor
