/- Texts of one proof, put together: AS PC ZZWy ZZ6 WG WH. -/
import Derived.Test.YtngdpnlgnpdkcaaGreatDoorHWC01
import Derived.Test.YtngdpnlgnpdkcaaGreatDoorHWC03
import Derived.Test.YtngdpnlgnpdkcaaGreatDoorHWC06
import Derived.Test.YtngdpnlgnpdkcaaGreatDoorHWC07
import Derived.Test.YtngdpnlgnpdkcaaGreatDoorHWC08
import Derived.Test.YtngdpnlgnpdkcaaGreatDoorHWC09
set_option linter.unusedSimpArgs false
set_option linter.unusedVariables false
namespace Go.Proofs.YtngdpnlgnpdkcaaGreatDoor
open Go Go.RowKit Go.Extern.Stop Go.Stop Go.Extern
theorem as_valueOf27 (t : Addr) (w : World) : (ReflectliteValue.unpack (.iface 151 (.pointer (some t)))).run Tryz.prog w
  = .ok (.agg #[.pointer (some ⟨15, 151, none⟩), .pointer (some ⟨w.heap.size, 0, none⟩), .int .u64 150]) (w.alloc (.cells #[.pointer (some t)] 151)) := by kernel_rfl
theorem as_type27 (a : Addr) (w : World) : (ReflectliteValue.methodAny (ReflectliteValue.valueError "reflectlite.Value.Type" 0) (fun t _ _ _ => ReflectliteType.toType t) #[.agg #[.pointer (some ⟨15, 151, none⟩), .pointer (some a), .int .u64 150]]).run Tryz.prog w
  = .ok (.iface 214 (.agg #[.pointer (some ⟨15, 151, none⟩)])) w := by kernel_rfl
theorem as_methodKind (h : Value) (w : World) : (Go.method 406 214 (.agg #[h]) "Kind").run Tryz.prog w = .ok (212, h) w := by kernel_rfl
theorem as_kind27 (w : World) : ((ReflectliteType.abiMethod fun t => (fun a : Nat => Value.int IntKind.u8 (a : Int)) <$> Rtype.kind t) #[.pointer (some ⟨15, 151, none⟩)]).run Tryz.prog w = .ok (.int .u8 22) w := by kernel_rfl
theorem as_kind25 (w : World) : ((ReflectliteType.abiMethod fun t => (fun a : Nat => Value.int IntKind.u8 (a : Int)) <$> Rtype.kind t) #[.pointer (some ⟨15, 126, none⟩)]).run Tryz.prog w = .ok (.int .u8 22) w := by kernel_rfl
theorem rlm (z : Sem Value) (f : TypeId → Addr → Nat → Nat → Sem Value) (v : Value) :
  ReflectliteValue.method z f #[v] = (do match ← ReflectliteValue.parts v with | none => z | some (t, a, fl) => f t a fl (fl % 32)) := rfl
theorem as_parts27 (a : Addr) (w : World) : (ReflectliteValue.parts (.agg #[.pointer (some ⟨15, 151, none⟩), .pointer (some a), .int .u64 150])).run Tryz.prog w = .ok (some (151, a, 150)) w := by kernel_rfl
theorem as_isNil27 (a p : Addr) (W : World) (ha : W.cell? a = some (.pointer (some p))) :
  (ReflectliteValue.method (ReflectliteValue.valueError "reflectlite.Value.IsNil" 0) ReflectliteValue.isNil #[.agg #[.pointer (some ⟨15, 151, none⟩), .pointer (some a), .int .u64 150]]).run Tryz.prog W = .ok (.bool false) W := by
 rw [rlm]
 simp only [Sem.run_bind, as_parts27, Result.andThen]
 simp [ReflectliteValue.isNil, loadVar, isAgg, underlying, Tryz.underlying151, ha, Result.andThen]
theorem as_methodElem (h : Value) (w : World) : (Go.method 406 214 (.agg #[h]) "Elem").run Tryz.prog w = .ok (223, .agg #[h]) w := by kernel_rfl
theorem as_methodImplements (h : Value) (w : World) : (Go.method 406 214 (.agg #[h]) "Implements").run Tryz.prog w = .ok (224, .agg #[h]) w := by kernel_rfl
theorem as_methodAssignableTo (h : Value) (w : World) : (Go.method 406 214 (.agg #[h]) "AssignableTo").run Tryz.prog w = .ok (221, .agg #[h]) w := by kernel_rfl
theorem as_elem27 (w : World) : (ReflectliteType.method ReflectliteType.elem #[.agg #[.pointer (some ⟨15, 151, none⟩)]]).run Tryz.prog w = .ok (.iface 214 (.agg #[.pointer (some ⟨15, 126, none⟩)])) w := by kernel_rfl
theorem as_implements25 (w : World) : (ReflectliteType.relation "Implements" ReflectliteType.implements_ #[.agg #[.pointer (some ⟨15, 126, none⟩)], .iface 214 (.agg #[.pointer (some ⟨15, 31, none⟩)])]).run Tryz.prog w = .ok (.bool true) w := by kernel_rfl
theorem as_typeOf25 (v : Value) (w : World) : (ReflectliteType.typeOf #[.iface 126 v]).run Tryz.prog w = .ok (.iface 214 (.agg #[.pointer (some ⟨15, 126, none⟩)])) w := by kernel_rfl
theorem as_assignable25 (w : World) : (ReflectliteType.relation "AssignableTo" ReflectliteType.assignableTo #[.agg #[.pointer (some ⟨15, 126, none⟩)], .iface 214 (.agg #[.pointer (some ⟨15, 126, none⟩)])]).run Tryz.prog w = .ok (.bool true) w := by kernel_rfl
theorem as_valueOf25 (e : Addr) (w : World) : (ReflectliteValue.unpack (.iface 126 (.pointer (some e)))).run Tryz.prog w
  = .ok (.agg #[.pointer (some ⟨15, 126, none⟩), .pointer (some ⟨w.heap.size, 0, none⟩), .int .u64 150]) (w.alloc (.cells #[.pointer (some e)] 126)) := by kernel_rfl
theorem as_elemOf27 (w : World) : (Rtype.elem? 151).run Tryz.prog w = .ok (some 126) w := by kernel_rfl
theorem as_mk25 (p : Addr) (w : World) : (ReflectliteValue.mk 126 p ReflectliteValue.flagAddr).run Tryz.prog w = .ok (.agg #[.pointer (some ⟨15, 126, none⟩), .pointer (some p), .int .u64 406]) w := by kernel_rfl
theorem as_elemV27 (a p : Addr) (W : World) (ha : W.cell? a = some (.pointer (some p))) :
  (ReflectliteValue.method (ReflectliteValue.valueError "reflectlite.Value.Elem" 0) ReflectliteValue.elem #[.agg #[.pointer (some ⟨15, 151, none⟩), .pointer (some a), .int .u64 150]]).run Tryz.prog W
   = .ok (.agg #[.pointer (some ⟨15, 126, none⟩), .pointer (some p), .int .u64 406]) W := by
 rw [rlm]
 simp only [Sem.run_bind, as_parts27, Result.andThen]
 simp [ReflectliteValue.elem, loadVar, isAgg, underlying, Tryz.underlying151, ha, Result.andThen, as_elemOf27, as_mk25]
theorem rls (v x : Value) : ReflectliteValue.set #[v, x] = (do
  let (some (dst, a, fl), some (src, b, _)) := (← ReflectliteValue.parts v, ← ReflectliteValue.parts x)
   | unsupported (.noEntry "extern/(internal/reflectlite.Value).Set.zeroValue")
  if fl / ReflectliteValue.flagAddr % 2 == 0 then unsupported (.noEntry "extern/(internal/reflectlite.Value).Set.unaddressable")
  let val ← loadVar src b
  if ← Rtype.directlyAssignable dst src then storeVar dst a val
  else if ← Rtype.implements dst src then
   if (← Rtype.kind src) == 20 then
    match val with
    | .nilIface => unsupported (.noEntry "extern/reflectlite: a nil value of one interface type handed on as a value of another")
    | _ => storeVar dst a val
   else storeVar dst a (.iface src val)
  else panicString ("reflectlite.Set: value of type " ++ (← Rtype.spelt src) ++ " is not assignable to type " ++ (← Rtype.spelt dst))
  pure (.tuple #[])) := rfl
theorem as_parts25a (a : Addr) (w : World) : (ReflectliteValue.parts (.agg #[.pointer (some ⟨15, 126, none⟩), .pointer (some a), .int .u64 406])).run Tryz.prog w = .ok (some (126, a, 406)) w := by kernel_rfl
theorem as_parts25 (a : Addr) (w : World) : (ReflectliteValue.parts (.agg #[.pointer (some ⟨15, 126, none⟩), .pointer (some a), .int .u64 150])).run Tryz.prog w = .ok (some (126, a, 150)) w := by kernel_rfl
theorem as_direct25 (w : World) : (Rtype.directlyAssignable 126 126).run Tryz.prog w = .ok true w := by kernel_rfl
theorem as_set25 (ta b e : Addr) (old : Value) (W : World) (hb : W.cell? b = some (.pointer (some e))) (ht : W.cell? ta = some old) (hf : W.frozen? ta = false) :
  (ReflectliteValue.set #[.agg #[.pointer (some ⟨15, 126, none⟩), .pointer (some ta), .int .u64 406], .agg #[.pointer (some ⟨15, 126, none⟩), .pointer (some b), .int .u64 150]]).run Tryz.prog W
   = .ok (.tuple #[]) (W.setCell ta (.pointer (some e))) := by
 rw [rls]
 simp only [Sem.run_bind, as_parts25a, as_parts25, Result.andThen]
 simp [ReflectliteValue.flagAddr, loadVar, isAgg, underlying, Tryz.underlying126, hb, Result.andThen, as_direct25, storeVar, Value.cells, storeCells, Addr.add]
 rw [run_store Tryz.prog W ta _ _ (by rfl)]
 simp [ht, hf]
theorem as_assignableE (w : World) : (ReflectliteType.relation "AssignableTo" ReflectliteType.assignableTo #[.agg #[.pointer (some ⟨15, 273, none⟩)], .iface 214 (.agg #[.pointer (some ⟨15, 126, none⟩)])]).run Tryz.prog w = .ok (.bool false) w := by kernel_rfl
theorem as_noAsE (v : Value) (xT : TypeId) (w : World) : (Instr.typeAssert (.iface 273 v) xT 218 true).run Tryz.prog w = .ok (.tuple #[.nilIface, .bool false]) w := run_typeAssert_lacksB Tryz.underlying218 (by kernel_rfl) (by kernel_rfl) v xT w
set_option maxRecDepth 100000 in
set_option maxHeartbeats 4000000 in
theorem as_miss (x : Value) (t : Addr) (old : Value) (w : World) (hg : w.cell? ⟨11, 0, none⟩ = some (.iface 214 (.agg #[.pointer (some ⟨15, 31, none⟩)]))) (ht0 : w.cell? t = some old) (hf0 : w.frozen? t = false) :
  Calls Tryz.prog 87 #[.iface 273 x, .iface 151 (.pointer (some t))] w fun ev w' => ev = .returned (.bool false) ∧ Ext w w' := by
 have h6 := @run_callFunc_extern Tryz.prog 115 _ (fun args => ReflectliteValue.unpack (args.getD 0 (.tuple #[]))) Tryz.func115 (by kernel_rfl) (by kernel_rfl) (by kernel_rfl) (by kernel_rfl)
 have h7 := @run_callFunc_extern Tryz.prog 116 _ (ReflectliteValue.methodAny (ReflectliteValue.valueError "reflectlite.Value.Type" 0) (fun t _ _ _ => ReflectliteType.toType t)) Tryz.func116 (by kernel_rfl) (by kernel_rfl) (by kernel_rfl) (by kernel_rfl)
 have h8 := @run_callFunc_extern Tryz.prog 117 _ (ReflectliteValue.method (ReflectliteValue.valueError "reflectlite.Value.IsNil" 0) ReflectliteValue.isNil) Tryz.func117 (by kernel_rfl) (by kernel_rfl) (by kernel_rfl) (by kernel_rfl)
 have h27 := @run_callFunc_extern Tryz.prog 212 _ (ReflectliteType.abiMethod fun t => do pure (.int .u8 (← Rtype.kind t))) Tryz.func212 (by kernel_rfl) (by kernel_rfl) (by kernel_rfl) (by kernel_rfl)
 have h37 := @run_callFunc_extern Tryz.prog 223 _ (ReflectliteType.method ReflectliteType.elem) Tryz.func223 (by kernel_rfl) (by kernel_rfl) (by kernel_rfl) (by kernel_rfl)
 have h38 := @run_callFunc_extern Tryz.prog 224 _ (ReflectliteType.relation "Implements" ReflectliteType.implements_) Tryz.func224 (by kernel_rfl) (by kernel_rfl) (by kernel_rfl) (by kernel_rfl)
 have h10 := @run_callFunc_extern Tryz.prog 119 _ ReflectliteType.typeOf Tryz.func119 (by kernel_rfl) (by kernel_rfl) (by kernel_rfl) (by kernel_rfl)
 have h35 := @run_callFunc_extern Tryz.prog 221 _ (ReflectliteType.relation "AssignableTo" ReflectliteType.assignableTo) Tryz.func221 (by kernel_rfl) (by kernel_rfl) (by kernel_rfl) (by kernel_rfl)
 have h11 := @run_callFunc_extern Tryz.prog 146 _ (ReflectliteValue.method (ReflectliteValue.valueError "reflectlite.Value.Elem" 0) ReflectliteValue.elem) Tryz.func146 (by kernel_rfl) (by kernel_rfl) (by kernel_rfl) (by kernel_rfl)
 have h12 := @run_callFunc_extern Tryz.prog 147 _ ReflectliteValue.set Tryz.func147 (by kernel_rfl) (by kernel_rfl) (by kernel_rfl) (by kernel_rfl)
 have tO := isTypeOf
 have nA := as_noAsE
 have nU := noUnwrapE
 have nV := noUnwrapsE
 have mA := as_methodAssignableTo
 have a25 := as_assignableE
 have f6 := as_valueOf27
 have f7 := as_type27
 have mK := as_methodKind
 have mE := as_methodElem
 have mI := as_methodImplements
 have k27 := as_kind27
 have k25 := as_kind25
 have e27 := as_elem27
 have i25 := as_implements25
 have n8 := as_isNil27 ⟨w.heap.size, 0, none⟩ t ((w.alloc (.cells #[.pointer (some t)] 151)).alloc (.cells #[.pointer (some ⟨15, 151, none⟩), .pointer (some ⟨w.heap.size, 0, none⟩), .int .u64 150] 178)) (by simp)
 have hlt : 11 < w.heap.size := by
  exact cell_lt hg
 have hg2 : ((w.alloc (.cells #[.pointer (some t)] 151)).alloc (.cells #[.pointer (some ⟨15, 151, none⟩), .pointer (some ⟨w.heap.size, 0, none⟩), .int .u64 150] 178)).cell? ⟨11, 0, none⟩ = some (.iface 214 (.agg #[.pointer (some ⟨15, 31, none⟩)])) := by
  rw [World.cell?_alloc_lt _ _ ⟨11, 0, none⟩ (by simp; omega), World.cell?_alloc_lt _ _ ⟨11, 0, none⟩ hlt]; exact hg
 have htl : t.block < w.heap.size := by
  rcases Nat.lt_or_ge t.block w.heap.size with h | h
  ·exact h
  ·simp [World.cell?, Array.getElem?_eq_none h] at ht0
 go_enter Tryz.func87, Tryz.ntmps87
 go_wp2
 refine wp_loop_rounds 1 ?_
 rw [rounds_succ]
 go_wp2
 go_ret
 exact ⟨rfl, (((Ext.refl _).alloc _).alloc _).alloc _⟩
set_option maxRecDepth 100000 in
set_option maxHeartbeats 4000000 in
theorem as_hit (e t : Addr) (old : Value) (w : World) (hg : w.cell? ⟨11, 0, none⟩ = some (.iface 214 (.agg #[.pointer (some ⟨15, 31, none⟩)]))) (ht0 : w.cell? t = some old) (hf0 : w.frozen? t = false) :
  Calls Tryz.prog 87 #[.iface 126 (.pointer (some e)), .iface 151 (.pointer (some t))] w fun ev w' => ev = .returned (.bool true) ∧ w' = ((((w.alloc (.cells #[.pointer (some t)] 151)).alloc (.cells #[.pointer (some ⟨15, 151, none⟩), .pointer (some ⟨w.heap.size, 0, none⟩), .int .u64 150] 178)).alloc (.cells #[.pointer (some ⟨15, 151, none⟩), .pointer (some ⟨w.heap.size, 0, none⟩), .int .u64 150] 178)).alloc (.cells #[.pointer (some e)] 126)).setCell t (.pointer (some e)) := by
 have h6 := @run_callFunc_extern Tryz.prog 115 _ (fun args => ReflectliteValue.unpack (args.getD 0 (.tuple #[]))) Tryz.func115 (by kernel_rfl) (by kernel_rfl) (by kernel_rfl) (by kernel_rfl)
 have h7 := @run_callFunc_extern Tryz.prog 116 _ (ReflectliteValue.methodAny (ReflectliteValue.valueError "reflectlite.Value.Type" 0) (fun t _ _ _ => ReflectliteType.toType t)) Tryz.func116 (by kernel_rfl) (by kernel_rfl) (by kernel_rfl) (by kernel_rfl)
 have h8 := @run_callFunc_extern Tryz.prog 117 _ (ReflectliteValue.method (ReflectliteValue.valueError "reflectlite.Value.IsNil" 0) ReflectliteValue.isNil) Tryz.func117 (by kernel_rfl) (by kernel_rfl) (by kernel_rfl) (by kernel_rfl)
 have h27 := @run_callFunc_extern Tryz.prog 212 _ (ReflectliteType.abiMethod fun t => do pure (.int .u8 (← Rtype.kind t))) Tryz.func212 (by kernel_rfl) (by kernel_rfl) (by kernel_rfl) (by kernel_rfl)
 have h37 := @run_callFunc_extern Tryz.prog 223 _ (ReflectliteType.method ReflectliteType.elem) Tryz.func223 (by kernel_rfl) (by kernel_rfl) (by kernel_rfl) (by kernel_rfl)
 have h38 := @run_callFunc_extern Tryz.prog 224 _ (ReflectliteType.relation "Implements" ReflectliteType.implements_) Tryz.func224 (by kernel_rfl) (by kernel_rfl) (by kernel_rfl) (by kernel_rfl)
 have h10 := @run_callFunc_extern Tryz.prog 119 _ ReflectliteType.typeOf Tryz.func119 (by kernel_rfl) (by kernel_rfl) (by kernel_rfl) (by kernel_rfl)
 have h35 := @run_callFunc_extern Tryz.prog 221 _ (ReflectliteType.relation "AssignableTo" ReflectliteType.assignableTo) Tryz.func221 (by kernel_rfl) (by kernel_rfl) (by kernel_rfl) (by kernel_rfl)
 have h11 := @run_callFunc_extern Tryz.prog 146 _ (ReflectliteValue.method (ReflectliteValue.valueError "reflectlite.Value.Elem" 0) ReflectliteValue.elem) Tryz.func146 (by kernel_rfl) (by kernel_rfl) (by kernel_rfl) (by kernel_rfl)
 have h12 := @run_callFunc_extern Tryz.prog 147 _ ReflectliteValue.set Tryz.func147 (by kernel_rfl) (by kernel_rfl) (by kernel_rfl) (by kernel_rfl)
 have tO := as_typeOf25
 have mA := as_methodAssignableTo
 have a25 := as_assignable25
 have v25 := as_valueOf25
 have f6 := as_valueOf27
 have f7 := as_type27
 have mK := as_methodKind
 have mE := as_methodElem
 have mI := as_methodImplements
 have k27 := as_kind27
 have k25 := as_kind25
 have e27 := as_elem27
 have i25 := as_implements25
 have n8 := as_isNil27 ⟨w.heap.size, 0, none⟩ t ((w.alloc (.cells #[.pointer (some t)] 151)).alloc (.cells #[.pointer (some ⟨15, 151, none⟩), .pointer (some ⟨w.heap.size, 0, none⟩), .int .u64 150] 178)) (by simp)
 have hlt : 11 < w.heap.size := by
  exact cell_lt hg
 have hg2 : ((w.alloc (.cells #[.pointer (some t)] 151)).alloc (.cells #[.pointer (some ⟨15, 151, none⟩), .pointer (some ⟨w.heap.size, 0, none⟩), .int .u64 150] 178)).cell? ⟨11, 0, none⟩ = some (.iface 214 (.agg #[.pointer (some ⟨15, 31, none⟩)])) := by
  rw [World.cell?_alloc_lt _ _ ⟨11, 0, none⟩ (by simp; omega), World.cell?_alloc_lt _ _ ⟨11, 0, none⟩ hlt]; exact hg
 have htl : t.block < w.heap.size := by
  rcases Nat.lt_or_ge t.block w.heap.size with h | h
  ·exact h
  ·simp [World.cell?, Array.getElem?_eq_none h] at ht0
 have el := as_elemV27 ⟨w.heap.size, 0, none⟩ t (((w.alloc (.cells #[.pointer (some t)] 151)).alloc (.cells #[.pointer (some ⟨15, 151, none⟩), .pointer (some ⟨w.heap.size, 0, none⟩), .int .u64 150] 178)).alloc (.cells #[.pointer (some ⟨15, 151, none⟩), .pointer (some ⟨w.heap.size, 0, none⟩), .int .u64 150] 178)) (by rw [World.cell?_alloc_lt _ _ ⟨w.heap.size, 0, none⟩ (by simp; omega)]; simp)
 have st := as_set25 t ⟨w.heap.size + 1 + 1 + 1, 0, none⟩ e old ((((w.alloc (.cells #[.pointer (some t)] 151)).alloc (.cells #[.pointer (some ⟨15, 151, none⟩), .pointer (some ⟨w.heap.size, 0, none⟩), .int .u64 150] 178)).alloc (.cells #[.pointer (some ⟨15, 151, none⟩), .pointer (some ⟨w.heap.size, 0, none⟩), .int .u64 150] 178)).alloc (.cells #[.pointer (some e)] 126))
  (by rw [World.cell?_alloc_at _ _ _ _ (by simp)]; rfl)
  (by rw [World.cell?_alloc_lt _ _ t (by simp; omega), World.cell?_alloc_lt _ _ t (by simp; omega), World.cell?_alloc_lt _ _ t (by simp; omega), World.cell?_alloc_lt _ _ t htl]; exact ht0)
  (by rw [World.frozen?_alloc_old _ _ t (by simp; omega), World.frozen?_alloc_old _ _ t (by simp; omega), World.frozen?_alloc_old _ _ t (by simp; omega), World.frozen?_alloc_old _ _ t (Nat.ne_of_lt htl)]; exact hf0)
 go_enter Tryz.func87, Tryz.ntmps87
 go_wp2
 refine wp_loop_rounds 1 ?_
 rw [rounds_succ]
 go_wp2
 go_ret
 exact ⟨rfl, rfl⟩
end Go.Proofs.YtngdpnlgnpdkcaaGreatDoor
namespace Go.Proofs.YtngdpnlgnpdkcaaGreatDoor
open Go Go.RowKit
structure AllErrs (w : World) (ad : Nat → Addr) : Prop where
 var : ∀ c, 1 ≤ c ∧ c ≤ 11 → w.cell? ⟨gE c, 0, none⟩ = some (.iface 273 (.pointer (some (ad c))))
 row : ∀ c, 1 ≤ c ∧ c ≤ 11 → ∃ cs t, w.heap[(ad c).block]? = some (.cells cs t (0, 0))
 inj : ∀ c d, 1 ≤ c ∧ c ≤ 11 → 1 ≤ d ∧ d ≤ 11 → ad c = ad d → c = d
 ty : w.cell? ⟨11, 0, none⟩ = some (.iface 214 (.agg #[.pointer (some ⟨15, 31, none⟩)]))
theorem AllErrs.at1 {w : World} {ad : Nat → Addr} (h : AllErrs w ad) : w.cell? ⟨2, 0, none⟩ = some (.iface 273 (.pointer (some (ad 1)))) := h.var 1 (by omega)
theorem AllErrs.at2 {w : World} {ad : Nat → Addr} (h : AllErrs w ad) : w.cell? ⟨3, 0, none⟩ = some (.iface 273 (.pointer (some (ad 2)))) := h.var 2 (by omega)
theorem AllErrs.at3 {w : World} {ad : Nat → Addr} (h : AllErrs w ad) : w.cell? ⟨4, 0, none⟩ = some (.iface 273 (.pointer (some (ad 3)))) := h.var 3 (by omega)
theorem AllErrs.at4 {w : World} {ad : Nat → Addr} (h : AllErrs w ad) : w.cell? ⟨5, 0, none⟩ = some (.iface 273 (.pointer (some (ad 4)))) := h.var 4 (by omega)
theorem AllErrs.at5 {w : World} {ad : Nat → Addr} (h : AllErrs w ad) : w.cell? ⟨6, 0, none⟩ = some (.iface 273 (.pointer (some (ad 5)))) := h.var 5 (by omega)
theorem AllErrs.at6 {w : World} {ad : Nat → Addr} (h : AllErrs w ad) : w.cell? ⟨0, 0, none⟩ = some (.iface 273 (.pointer (some (ad 6)))) := h.var 6 (by omega)
theorem AllErrs.at7 {w : World} {ad : Nat → Addr} (h : AllErrs w ad) : w.cell? ⟨7, 0, none⟩ = some (.iface 273 (.pointer (some (ad 7)))) := h.var 7 (by omega)
theorem AllErrs.at8 {w : World} {ad : Nat → Addr} (h : AllErrs w ad) : w.cell? ⟨1, 0, none⟩ = some (.iface 273 (.pointer (some (ad 8)))) := h.var 8 (by omega)
theorem AllErrs.at9 {w : World} {ad : Nat → Addr} (h : AllErrs w ad) : w.cell? ⟨8, 0, none⟩ = some (.iface 273 (.pointer (some (ad 9)))) := h.var 9 (by omega)
theorem AllErrs.at10 {w : World} {ad : Nat → Addr} (h : AllErrs w ad) : w.cell? ⟨9, 0, none⟩ = some (.iface 273 (.pointer (some (ad 10)))) := h.var 10 (by omega)
theorem AllErrs.at11 {w : World} {ad : Nat → Addr} (h : AllErrs w ad) : w.cell? ⟨10, 0, none⟩ = some (.iface 273 (.pointer (some (ad 11)))) := h.var 11 (by omega)
theorem AllErrs.ext {w w' : World} {ad : Nat → Addr} (h : AllErrs w ad) (x : Ext w w') : AllErrs w' ad :=
 ⟨fun c hc => x.cellx (h.var c hc), fun c hc => by obtain ⟨cs, t, e⟩ := h.row c hc; exact ⟨cs, t, x.get e⟩, h.inj, x.cellx h.ty⟩
def IsAs (w : World) (ad : Nat → Addr) (e : Value) (c : Nat) : Prop := ∀ w', Ext w w' → ∀ d, 1 ≤ d ∧ d ≤ 11 → Calls Tryz.prog 88 #[e, .iface 273 (.pointer (some (ad d)))] w' fun r w'' => r = .returned (.bool (decide (d = c))) ∧ w' = w''
theorem IsAs.sent {w : World} {ad : Nat → Addr} (h : AllErrs w ad) (c : Nat) (hc : 1 ≤ c ∧ c ≤ 11) : IsAs w ad (.iface 273 (.pointer (some (ad c)))) c := by
 intro w' x d hd
 by_cases e : d = c
 ·subst e
  rw [decide_eq_true rfl]
  exact is_same (ad d) w'
 ·rw [decide_eq_false e]
  have h' := h.ext x
  obtain ⟨c1, t1, e1⟩ := h'.row c hc
  obtain ⟨c2, t2, e2⟩ := h'.row d hd
  exact is_other (ad c) (ad d) c1 c2 t1 t2 w' (fun e' => e (h.inj d c hd hc e'.symm)) e1 e2
theorem IsAs.fault {w : World} {ad : Nat → Addr} (h : AllErrs w ad) (c : Nat) (hc : 1 ≤ c ∧ c ≤ 11) (b : Nat) (hb : w.cell? ⟨b, 1, none⟩ = some (.iface 273 (.pointer (some (ad c))))) : IsAs w ad (.iface 126 (.pointer (some ⟨b, 0, none⟩))) c := by
 intro w' x d hd
 by_cases e : d = c
 ·subst e
  rw [decide_eq_true rfl]
  exact is_wrap_same b (ad d) w' (x.cellx hb)
 ·rw [decide_eq_false e]
  have h' := h.ext x
  obtain ⟨c1, t1, e1⟩ := h'.row c hc
  obtain ⟨c2, t2, e2⟩ := h'.row d hd
  exact is_wrap_other b (ad d) (ad c) c1 c2 t1 t2 w' (x.cellx hb) (fun e' => e (h.inj d c hd hc e'.symm)) e1 e2
theorem IsAs.none {w : World} {ad : Nat → Addr} (h : AllErrs w ad) (a : Addr) (ha : ∃ cs t, w.heap[a.block]? = some (.cells cs t (0, 0))) (hne : ∀ c, 1 ≤ c ∧ c ≤ 11 → a ≠ ad c) : IsAs w ad (.iface 273 (.pointer (some a))) 0 := by
 intro w' x d hd
 rw [decide_eq_false (by omega)]
 obtain ⟨c1, t1, e1⟩ := ha
 obtain ⟨c2, t2, e2⟩ := (h.ext x).row d hd
 exact is_other a (ad d) c1 c2 t1 t2 w' (hne d hd) (x.get e1) e2
def codeV (c : Nat) : Int := if c = 0 then -1 else c
set_option maxRecDepth 100000 in
set_option maxHeartbeats 400000 in
theorem code_nil (w : World) : Calls Tryz.prog 44 #[.nilIface] w fun e w' => e = .returned (.tuple #[.int .i64 0, .int .i64 (-1)]) ∧ w = w' := by
 go_enter Tryz.func44, Tryz.ntmps44
 go_wp2
 go_ret2
 exact ⟨rfl, rfl⟩
set_option maxRecDepth 100000 in
set_option maxHeartbeats 3200000 in
theorem code_sent (w : World) (ad : Nat → Addr) (h : AllErrs w ad) (x : Value) (c : Nat) (hc : c ≤ 11) (hi : IsAs w ad (.iface 273 x) c) :
  Calls Tryz.prog 44 #[.iface 273 x] w fun e w' => e = .returned (.tuple #[.int .i64 (codeV c), .int .i64 (-1)]) ∧ Ext w w' := by
 have hA := hid (as_miss x ⟨w.heap.size, 0, none⟩ (.pointer none) (w.alloc (.cells #[.pointer none] 126)) (((Ext.refl w).alloc _).cellx h.ty) (by simp) (by simp))
 go_enter Tryz.func44, Tryz.ntmps44
 go_wp2_with fail
 refine hA.out.mono ?_
 intro e w1 hx
 obtain ⟨rfl, hx1⟩ := hx
 replace hx1 := ((Ext.refl w).alloc _).trans hx1
 clear hA
 have g0 := (h.ext hx1).at1
 have g1 := (h.ext hx1).at2
 have g2 := (h.ext hx1).at3
 have g3 := (h.ext hx1).at4
 have g4 := (h.ext hx1).at5
 have g5 := (h.ext hx1).at6
 have g6 := (h.ext hx1).at7
 have g7 := (h.ext hx1).at8
 have g8 := (h.ext hx1).at9
 have g9 := (h.ext hx1).at10
 have g10 := (h.ext hx1).at11
 obtain ⟨W, hW⟩ : ∃ W, W = w1.alloc (.cells #[.iface 273 (.pointer (some (ad 1))), .iface 273 (.pointer (some (ad 2))), .iface 273 (.pointer (some (ad 3))), .iface 273 (.pointer (some (ad 4))), .iface 273 (.pointer (some (ad 5))), .iface 273 (.pointer (some (ad 6))), .iface 273 (.pointer (some (ad 7))), .iface 273 (.pointer (some (ad 8))), .iface 273 (.pointer (some (ad 9))), .iface 273 (.pointer (some (ad 10))), .iface 273 (.pointer (some (ad 11)))] 31) := ⟨_, rfl⟩
 have hcell : ∀ k, k < 11 → W.cell? ⟨w1.heap.size, k, none⟩ = some (.iface 273 (.pointer (some (ad (k + 1))))) := fun k hk => by
  have hB := Blk.new w1 #[.iface 273 (.pointer (some (ad 1))), .iface 273 (.pointer (some (ad 2))), .iface 273 (.pointer (some (ad 3))), .iface 273 (.pointer (some (ad 4))), .iface 273 (.pointer (some (ad 5))), .iface 273 (.pointer (some (ad 6))), .iface 273 (.pointer (some (ad 7))), .iface 273 (.pointer (some (ad 8))), .iface 273 (.pointer (some (ad 9))), .iface 273 (.pointer (some (ad 10))), .iface 273 (.pointer (some (ad 11)))] 31
  rw [← hW] at hB
  rw [hB.cell k]
  rcases (by omega : k = 0 ∨ k = 1 ∨ k = 2 ∨ k = 3 ∨ k = 4 ∨ k = 5 ∨ k = 6 ∨ k = 7 ∨ k = 8 ∨ k = 9 ∨ k = 10) with rfl | rfl | rfl | rfl | rfl | rfl | rfl | rfl | rfl | rfl | rfl <;> rfl
 have hX : Ext w W := by rw [hW]; exact hx1.alloc _
 have HW := hid hW
 have Hc := fun k hk => hid (hcell k hk)
 have HI := hid (hi _ hX)
 have Hx := hid hX
 clear hcell hW hX hi
 go_wp2
 rw [← HW.out]
 clear g0 g1 g2 g3 g4 g5 g6 g7 g8 g9 g10 HW h hx1
 generalize w1.heap.size = N at *
 go_loop [3, 29] (fun t3 t29 => ∃ k : Nat, t29 = .int .i64 (k : Int) ∧ k ≤ 11 ∧ t3 = .int .i64 (-1) ∧ ∀ d, 1 ≤ d → d ≤ k → d ≠ c) (fun _ t29 => 11 - (intOf t29).toNat)
 case atStart => exact ⟨0, rfl, Nat.zero_le _, rfl, fun d h1 h2 => by omega⟩
 case round =>
  obtain ⟨k, rfl, hk, rfl, hne⟩ := hrel
  have Hne := hid hne
  clear hne
  by_cases hlt : k < 11
  ·have hck := (Hc k hlt).out
   have hcall := hid (HI.out (k + 1) (by omega))
   by_cases he : k + 1 = c
   ·have hcv : Hid (codeV c = (k : Int) + 1) := hid (by unfold codeV; rw [if_neg (by omega)]; omega)
    rw [decide_eq_true he] at hcall
    clear he
    have hlt2 : (k : Int) < 11 := by omega
    go_wp2_with fail
    refine hcall.out.mono ?_
    rintro e w3 ⟨rfl, rfl⟩
    go_wp2
    go_ret2
    exact ⟨by rw [hcv.out]; rfl, Hx.out⟩
   ·rw [decide_eq_false he] at hcall
    have hlt2 : (k : Int) < 11 := by omega
    have He := hid he
    clear he
    go_wp2_with fail
    refine hcall.out.mono ?_
    rintro e w3 ⟨rfl, rfl⟩
    go_wp2
    go_round
    case rel => exact ⟨k + 1, by go_num, by omega, rfl, fun d h1 h2 => by
     by_cases hd : d = k + 1
     ·rw [hd]; exact He.out
     ·exact Hne.out d h1 (by omega)⟩
    case measure => simp [intOf]; omega
  ·obtain rfl : k = 11 := by omega
   have hcv : Hid (codeV c = -1) := hid (by
    unfold codeV
    rw [if_pos]
    rcases Nat.eq_zero_or_pos c with h0 | h0
    ·exact h0
    ·exact absurd rfl (Hne.out c h0 hc))
   go_wp2
   go_ret2
   exact ⟨by rw [hcv.out]; rfl, Hx.out⟩
set_option maxRecDepth 100000 in
set_option maxHeartbeats 3200000 in
theorem code_fault (w : World) (ad : Nat → Addr) (h : AllErrs w ad) (b : Nat) (pl : Int) (c : Nat) (hc : c ≤ 11) (hpl : w.cell? ⟨b, 0, none⟩ = some (.int .i64 pl)) (hi : IsAs w ad (.iface 126 (.pointer (some ⟨b, 0, none⟩))) c) :
  Calls Tryz.prog 44 #[.iface 126 (.pointer (some ⟨b, 0, none⟩))] w fun e w' => e = .returned (.tuple #[.int .i64 (codeV c), .int .i64 pl]) ∧ Ext w w' := by
 have hA := hid (as_hit ⟨b, 0, none⟩ ⟨w.heap.size, 0, none⟩ (.pointer none) (w.alloc (.cells #[.pointer none] 126)) (((Ext.refl w).alloc _).cellx h.ty) (by simp) (by simp))
 go_enter Tryz.func44, Tryz.ntmps44
 go_wp2_with fail
 refine hA.out.mono ?_
 intro e w1 hx
 obtain ⟨rfl, hw1⟩ := hx
 have h3 := ((((Ext.refl (w.alloc (.cells #[.pointer none] 126))).alloc (.cells #[.pointer (some ⟨w.heap.size, 0, none⟩)] 151)).alloc (.cells #[.pointer (some ⟨15, 151, none⟩), .pointer (some ⟨(w.alloc (.cells #[.pointer none] 126)).heap.size, 0, none⟩), .int .u64 150] 178)).alloc (.cells #[.pointer (some ⟨15, 151, none⟩), .pointer (some ⟨(w.alloc (.cells #[.pointer none] 126)).heap.size, 0, none⟩), .int .u64 150] 178)).alloc (.cells #[.pointer (some ⟨b, 0, none⟩)] 126)
 have hB := ((Blk.new w #[.pointer none] 126).ext h3).set 0 (.pointer (some ⟨b, 0, none⟩))
 have hx1 : Ext w w1 := by
  rw [hw1]
  exact Keep.new (((Ext.refl w).alloc _).trans h3) (Keep.set (X := fun n => n = w.heap.size) (Keep.refl _ _) rfl _) fun n hn => by omega
 rw [← hw1] at hB
 have ht : w1.cell? ⟨w.heap.size, 0, none⟩ = some (.pointer (some ⟨b, 0, none⟩)) := (hB.cell 0).trans rfl
 have hp1 := hx1.cellx hpl
 clear hA hw1 h3 hB
 have g0 := (h.ext hx1).at1
 have g1 := (h.ext hx1).at2
 have g2 := (h.ext hx1).at3
 have g3 := (h.ext hx1).at4
 have g4 := (h.ext hx1).at5
 have g5 := (h.ext hx1).at6
 have g6 := (h.ext hx1).at7
 have g7 := (h.ext hx1).at8
 have g8 := (h.ext hx1).at9
 have g9 := (h.ext hx1).at10
 have g10 := (h.ext hx1).at11
 obtain ⟨W, hW⟩ : ∃ W, W = w1.alloc (.cells #[.iface 273 (.pointer (some (ad 1))), .iface 273 (.pointer (some (ad 2))), .iface 273 (.pointer (some (ad 3))), .iface 273 (.pointer (some (ad 4))), .iface 273 (.pointer (some (ad 5))), .iface 273 (.pointer (some (ad 6))), .iface 273 (.pointer (some (ad 7))), .iface 273 (.pointer (some (ad 8))), .iface 273 (.pointer (some (ad 9))), .iface 273 (.pointer (some (ad 10))), .iface 273 (.pointer (some (ad 11)))] 31) := ⟨_, rfl⟩
 have hcell : ∀ k, k < 11 → W.cell? ⟨w1.heap.size, k, none⟩ = some (.iface 273 (.pointer (some (ad (k + 1))))) := fun k hk => by
  have hB := Blk.new w1 #[.iface 273 (.pointer (some (ad 1))), .iface 273 (.pointer (some (ad 2))), .iface 273 (.pointer (some (ad 3))), .iface 273 (.pointer (some (ad 4))), .iface 273 (.pointer (some (ad 5))), .iface 273 (.pointer (some (ad 6))), .iface 273 (.pointer (some (ad 7))), .iface 273 (.pointer (some (ad 8))), .iface 273 (.pointer (some (ad 9))), .iface 273 (.pointer (some (ad 10))), .iface 273 (.pointer (some (ad 11)))] 31
  rw [← hW] at hB
  rw [hB.cell k]
  rcases (by omega : k = 0 ∨ k = 1 ∨ k = 2 ∨ k = 3 ∨ k = 4 ∨ k = 5 ∨ k = 6 ∨ k = 7 ∨ k = 8 ∨ k = 9 ∨ k = 10) with rfl | rfl | rfl | rfl | rfl | rfl | rfl | rfl | rfl | rfl | rfl <;> rfl
 have hX : Ext w W := by rw [hW]; exact hx1.alloc _
 have HW := hid hW
 have Hc := fun k hk => hid (hcell k hk)
 have HI := hid (hi _ hX)
 have Hx := hid hX
 clear hcell hW hX hi
 go_wp2
 rw [← HW.out]
 clear g0 g1 g2 g3 g4 g5 g6 g7 g8 g9 g10 HW h hx1
 generalize w1.heap.size = N at *
 go_loop [3, 29] (fun t3 t29 => ∃ k : Nat, t29 = .int .i64 (k : Int) ∧ k ≤ 11 ∧ t3 = .int .i64 pl ∧ ∀ d, 1 ≤ d → d ≤ k → d ≠ c) (fun _ t29 => 11 - (intOf t29).toNat)
 case atStart => exact ⟨0, rfl, Nat.zero_le _, rfl, fun d h1 h2 => by omega⟩
 case round =>
  obtain ⟨k, rfl, hk, rfl, hne⟩ := hrel
  have Hne := hid hne
  clear hne
  by_cases hlt : k < 11
  ·have hck := (Hc k hlt).out
   have hcall := hid (HI.out (k + 1) (by omega))
   by_cases he : k + 1 = c
   ·have hcv : Hid (codeV c = (k : Int) + 1) := hid (by unfold codeV; rw [if_neg (by omega)]; omega)
    rw [decide_eq_true he] at hcall
    clear he
    have hlt2 : (k : Int) < 11 := by omega
    go_wp2_with fail
    refine hcall.out.mono ?_
    rintro e w3 ⟨rfl, rfl⟩
    go_wp2
    go_ret2
    exact ⟨by rw [hcv.out]; rfl, Hx.out⟩
   ·rw [decide_eq_false he] at hcall
    have hlt2 : (k : Int) < 11 := by omega
    have He := hid he
    clear he
    go_wp2_with fail
    refine hcall.out.mono ?_
    rintro e w3 ⟨rfl, rfl⟩
    go_wp2
    go_round
    case rel => exact ⟨k + 1, by go_num, by omega, rfl, fun d h1 h2 => by
     by_cases hd : d = k + 1
     ·rw [hd]; exact He.out
     ·exact Hne.out d h1 (by omega)⟩
    case measure => simp [intOf]; omega
  ·obtain rfl : k = 11 := by omega
   have hcv : Hid (codeV c = -1) := hid (by
    unfold codeV
    rw [if_pos]
    rcases Nat.eq_zero_or_pos c with h0 | h0
    ·exact h0
    ·exact absurd rfl (Hne.out c h0 hc))
   go_wp2
   go_ret2
   exact ⟨by rw [hcv.out]; rfl, Hx.out⟩
theorem whyfollows_any (a1 a2 a3 : Option Addr) (c1 c2 c3 : Nat) (P : PP) (aa : Option Addr) (ca : Nat) (vl : Value) (L : List ST) (i : Nat) (s : ST) (k : Nat) (w : World) (n0 : Nat) (ad : Nat → Addr) (h : PW w n0 ad a1 a2 a3 c1 c2 c3 P) (ha : IntsR w n0 (.slice aa (P.ruleV k (P.stAt k)).args.length ca) (P.ruleV k (P.stAt k)).args) (n1 : Nat) (hr : StepsR w n1 vl L) (hll : L.length ≤ 2000) (hs : L[i]? = some s) (hkl : k < P.stmts.length) (hf1 : -1 ≤ s.frm ∧ s.frm < i) (hv1 : -1 ≤ s.via ∧ s.via < i) (hsh : shapeV (P.ruleV k (P.stAt k)) s = true) (hprev : ∀ (j : Nat) t, j < i → L[j]? = some t → 0 ≤ t.obj ∧ t.obj < 1000) :
  Calls Tryz.prog 111 #[pval a1 a2 a3 c1 c2 c3 P, vl, stval s, (P.ruleV k (P.stAt k)).val (.slice aa (P.ruleV k (P.stAt k)).args.length ca)] w fun e w' => e = .returned (.bool (folB P (P.ruleV k (P.stAt k)) s (L.getD s.frm.toNat st0) (L.getD s.via.toNat st0))) ∧ Ext w w' := by
 have hil := (List.getElem?_eq_some_iff.1 hs).1
 have hw := h.well
 unfold shapeV needsV at hsh
 rw [Bool.and_eq_true] at hsh
 obtain ⟨h2a, h2b⟩ := hsh
 have h2a := eq_of_beq h2a
 have h2b := eq_of_beq h2b
 simp only at h2a h2b
 have hrk := rule_kinds hw (r := P.ruleV k (P.stAt k)) (List.mem_map.2 ⟨k, List.mem_range.2 hkl, rfl⟩)
 obtain ⟨r, hre⟩ : ∃ r, r = P.ruleV k (P.stAt k) := ⟨_, rfl⟩
 rw [← hre] at ha h2a h2b hrk ⊢
 clear hre
 unfold folB
 cases hb : (r.kind.toList == [98, 97, 115, 101]) with
 | true =>
  simp only [cond_true]
  exact whyfollows_base a1 a2 a3 c1 c2 c3 P r aa ca vl L s w n0 ad h ha n1 hr hll hb _ _ rfl rfl
 | false =>
  rw [hb] at h2a
  have n1' := of_decide_eq_true h2a.symm
  obtain ⟨f, hf⟩ := Int.eq_ofNat_of_zero_le n1'
  have hx := getD_at (L := L) (f := f) (by omega)
  rw [hf, Int.toNat_natCast]
  obtain ⟨x, hxe⟩ : ∃ x, x = L.getD f st0 := ⟨_, rfl⟩
  rw [← hxe] at hx ⊢
  clear hxe
  simp only [cond_false]
  cases hxo : (x.obj == s.obj) with
  | false =>
   simp only [Bool.not_false, cond_true]
   exact whyfollows_xobj a1 a2 a3 c1 c2 c3 P r aa ca vl L s w n0 ad h ha n1 hr hll hb f x (hid hf) (hid hx) hxo
  | true =>
   have hxo := beq_int' hxo
   simp only [Bool.not_true, cond_false]
   cases hc : (r.kind.toList == [99, 111, 112, 121]) with
   | true =>
    simp only [cond_true]
    exact whyfollows_copy a1 a2 a3 c1 c2 c3 P r aa ca vl L s w n0 ad h ha n1 hr hll hb hc f x (hid hf) (hid hx) (hid hxo) _ _ rfl rfl
   | false =>
    have n2 : 0 ≤ s.via := by
     refine of_decide_eq_true (h2b.symm.trans ?_)
     rcases hrk with g | g | g
     ·rw [eq_of_beq bBase_list] at g; rw [g] at hb; exact absurd hb (by decide)
     ·rw [g] at hc; exact absurd hc (by decide)
     ·exact g
    obtain ⟨v, hv⟩ := Int.eq_ofNat_of_zero_le n2
    have hz := getD_at (L := L) (f := v) (by omega)
    rw [hv, Int.toNat_natCast]
    obtain ⟨z, hze⟩ : ∃ z, z = L.getD v st0 := ⟨_, rfl⟩
    rw [← hze] at hz ⊢
    clear hze
    simp only [cond_false]
    cases hl : (r.kind.toList == [108, 111, 97, 100]) with
    | true =>
     simp only [cond_true]
     exact whyfollows_load a1 a2 a3 c1 c2 c3 P r aa ca vl L s w n0 ad h ha n1 hr hll hb hc hl f x (hid hf) (hid hx) (hid hxo) v z (hid hv) (hid hz) _ _ _ rfl rfl rfl
    | false =>
     simp only [cond_false]
     cases ht : (r.kind.toList == [115, 116, 111, 114, 101]) with
     | true =>
      simp only [cond_true]
      exact whyfollows_store a1 a2 a3 c1 c2 c3 P r aa ca vl L s w n0 ad h ha n1 hr hll hb hc hl ht f x (hid hf) (hid hx) (hid hxo) v z (hid hv) (hid hz) _ _ _ _ rfl rfl rfl rfl
     | false =>
      simp only [cond_false]
      exact whyfollows_call a1 a2 a3 c1 c2 c3 P r aa ca vl L s w n0 ad h ha n1 hr hll hb hc hl ht f x (hid hf) (hid hx) (hid hxo) v z (hid hv) (hid hz) (hprev v z (by omega) hz) _ _ rfl (hid rfl)
set_option maxRecDepth 100000 in
set_option maxHeartbeats 6400000 in
theorem whystep_any (a1 a2 a3 : Option Addr) (c1 c2 c3 : Nat) (P : PP) (ar : Option Addr) (cr : Nat) (rs : List R2) (vl : Value) (L : List ST) (i : Nat) (s : ST) (w : World) (n0 : Nat) (ad : Nat → Addr) (h : PW w n0 ad a1 a2 a3 c1 c2 c3 P) (hA : AllErrs w ad) (hT : w.ownsRow 0 87 5 (.slice ar P.rulesV.length cr) P.rulesV.length (rs.flatMap R2.cells)) (hre : rs.map R2.r = P.rulesV) (hargs : ∀ x ∈ rs, IntsR w n0 x.v x.r.args) (n1 : Nat) (hr : StepsR w n1 vl L) (hll : L.length ≤ 2000) (hs : L[i]? = some s) (hprev : ∀ (j : Nat) t, j < i → L[j]? = some t → 0 ≤ t.obj ∧ t.obj < 1000) :
  Calls Tryz.prog 71 #[pval a1 a2 a3 c1 c2 c3 P, .slice ar P.rulesV.length cr, vl, .int .i64 (i : Int)] w fun e w' => e = .returned (errv (evOf ad) (stepE P L i s)) ∧ Ext w w' := by
 have hil := (List.getElem?_eq_some_iff.1 hs).1
 have hsl : P.stmts.length ≤ 80 := h.well.few.2.2
 have hrl : P.rulesV.length = P.stmts.length := by unfold PP.rulesV; exact P.rulesUp_len _
 obtain ⟨y8, c8, rfl⟩ := hr.some (by omega)
 obtain ⟨sn, so, ss, sf, sv⟩ := s
 obtain ⟨q0, q1, q2, q3, q4⟩ := (hr.ext ((Ext.refl w).alloc (.cells #[.slice a1 P.vars.length c1, .slice a2 P.funs.length c2, .slice a3 P.stmts.length c3] 26))).at5 hs
 obtain ⟨W1, hW1⟩ : ∃ W1, W1 = w.alloc (.cells #[.slice a1 P.vars.length c1, .slice a2 P.funs.length c2, .slice a3 P.stmts.length c3] 26) := ⟨_, rfl⟩
 obtain ⟨W, hW⟩ : ∃ W, W = W1.alloc (.cells #[.int .i64 sn, .int .i64 so, .int .i64 ss, .int .i64 sf, .int .i64 sv] 47) := ⟨_, rfl⟩
 have x1 : Ext w W1 := by rw [hW1]; exact (Ext.refl _).alloc _
 have x2 : Ext W1 W := by rw [hW]; exact (Ext.refl _).alloc _
 have s1 : W1.heap.size = w.heap.size + 1 := by rw [hW1, heap_size_alloc]
 have HX := hid (x1.trans x2)
 have HBp : Hid (Blk W w.heap.size #[.slice a1 P.vars.length c1, .slice a2 P.funs.length c2, .slice a3 P.stmts.length c3] 26) := hid ((show Blk W1 w.heap.size _ 26 by rw [hW1]; exact Blk.new _ _ _).ext x2)
 have HBs : Hid (Blk W (w.heap.size + 1) #[.int .i64 sn, .int .i64 so, .int .i64 ss, .int .i64 sf, .int .i64 sv] 47) := hid (by rw [← s1, hW]; exact Blk.new _ _ _)
 have HWe : Hid (W = (w.alloc (.cells #[.slice a1 P.vars.length c1, .slice a2 P.funs.length c2, .slice a3 P.stmts.length c3] 26)).alloc (.cells #[.int .i64 sn, .int .i64 so, .int .i64 ss, .int .i64 sf, .int .i64 sv] 47)) := hid (by rw [hW, hW1])
 have HPW := hid h
 have HAA := hid hA
 have HT := hid hT
 have Hre := hid hre
 have Hargs := hid hargs
 have Hr := hid hr
 have Hs := hid hs
 have Hprev := hid hprev
 have Hrl := hid hrl
 have HBo := hid (whybound_any a1 a2 a3 c1 c2 c3 P ⟨sn, so, ss, sf, sv⟩ (i : Int) W (by omega))
 have p0 := HBp.out.av 0 rfl
 have p1 := HBp.out.av 1 rfl
 have p2 := HBp.out.av 2 rfl
 have e0 := HBs.out.av 0 rfl
 have e1 := HBs.out.av 1 rfl
 have e2 := HBs.out.av 2 rfl
 have e3 := HBs.out.av 3 rfl
 have e4 := HBs.out.av 4 rfl
 simp only [qA0, qA1, qA2] at p0 p1 p2 e0 e1 e2 e3 e4 q0 q1 q2 q3 q4
 rw [HWe.out] at p0 p1 p2 e0 e1 e2 e3 e4
 obtain ⟨bb, hbb⟩ : ∃ bb, bb = boundV P ⟨sn, so, ss, sf, sv⟩ (i : Int) := ⟨_, rfl⟩
 rw [← hbb] at HBo
 have Hbb := hid hbb
 unfold pval
 unfold pval stval at HBo
 clear h hA hT hre hargs hr hs hprev hrl hW hW1 x1 x2 s1 hbb
 go_enter Tryz.func71, Tryz.ntmps71
 go_wp2_with fail
 rw [← HWe.out]
 refine HBo.out.mono ?_
 intro e w1 hx
 obtain ⟨rfl, hx1⟩ := hx
 have Hx1 := hid hx1
 have HZ := hid (HX.out.trans hx1)
 clear HBo hx1 p0 p1 p2 e0 e1 e2 e3 e4 q0 q1 q2 q3 q4
 have a2' := (HAA.out.ext HZ.out).at2
 have a3' := (HAA.out.ext HZ.out).at3
 have e0 := (HBs.out.ext Hx1.out).av 0 rfl
 have e1 := (HBs.out.ext Hx1.out).av 1 rfl
 have e2 := (HBs.out.ext Hx1.out).av 2 rfl
 simp only [qA0, qA1, qA2] at e0 e1 e2
 cases bb with
 | false =>
  have HE0 : Hid (stepE P L i ⟨sn, so, ss, sf, sv⟩ = 2) := hid (by unfold stepE; rw [← Hbb.out]; rfl)
  have HRes : Hid (errv (evOf ad) (stepE P L i ⟨sn, so, ss, sf, sv⟩) = .iface 273 (.pointer (some (ad 2)))) := hid (by rw [HE0.out]; rfl)
  go_wp2
  go_ret
  exact ⟨by rw [HRes.out]; rfl, HZ.out⟩
 | true =>
  obtain ⟨⟨hb1, hb2⟩, hb3, hb4⟩ := boundV_iff.1 Hbb.out.symm
  simp only at hb1 hb2 hb3 hb4
  obtain ⟨k, rfl⟩ := Int.eq_ofNat_of_zero_le hb1
  have hkl : k < P.stmts.length := by omega
  have hrs : rs.length = P.rulesV.length := by rw [← Hre.out, List.length_map]
  obtain ⟨x, hx⟩ : ∃ x, rs[k]? = some x := ⟨_, List.getElem?_eq_getElem (by rw [hrs, Hrl.out]; exact hkl)⟩
  have hrx : P.rulesV[k]? = some x.r := by rw [← Hre.out, List.getElem?_map, hx]; rfl
  have hxr : x.r = P.ruleV k (P.stAt k) := by
   have : P.rulesV[k]? = some (P.ruleV k (P.stAt k)) := by unfold PP.rulesV PP.rulesUp; rw [List.getElem?_map, List.getElem?_range hkl]; rfl
   exact Option.some.inj (hrx.symm.trans this)
  have hrow := own_ext HT.out HZ.out
  obtain ⟨g7, cp7, hge⟩ := own_some hrow (by rw [Hrl.out]; omega)
  simp only [Value.slice.injEq] at hge
  obtain ⟨rfl, -, rfl⟩ := hge
  obtain ⟨r0, r1, r2, r3, r4⟩ := own_rr hrow hx
  have hia := Hargs.out x (List.mem_of_getElem? hx)
  obtain ⟨aa, ca, hxv, _⟩ := hia.form
  rw [hxv] at r4 hia
  obtain ⟨V, hV⟩ : ∃ V, V = w1.alloc (.cells #[.string x.r.kind, .int .i64 x.r.a, .int .i64 x.r.b, .int .i64 x.r.k, .slice aa x.r.args.length ca] 87) := ⟨_, rfl⟩
  have xv : Ext w1 V := by rw [hV]; exact (Ext.refl _).alloc _
  have HXV := hid xv
  have HBr : Hid (Blk V w1.heap.size #[.string x.r.kind, .int .i64 x.r.a, .int .i64 x.r.b, .int .i64 x.r.k, .slice aa x.r.args.length ca] 87) := hid (by rw [hV]; exact Blk.new _ _ _)
  have HVe := hid hV
  have HIa := hid hia
  have Hxr := hid hxr
  have HNe := hid (whyneeds_any x.r.kind V)
  have HE3 : Hid (shapeV (P.ruleV k (P.stAt k)) ⟨sn, so, (k : Int), sf, sv⟩ = false → stepE P L i ⟨sn, so, (k : Int), sf, sv⟩ = 3) := hid fun hsh => by
   unfold stepE
   rw [← Hbb.out]
   simp only [Int.toNat_natCast]
   rw [hsh]; rfl
  have HEf : Hid (shapeV (P.ruleV k (P.stAt k)) ⟨sn, so, (k : Int), sf, sv⟩ = true → stepE P L i ⟨sn, so, (k : Int), sf, sv⟩ = bif !folB P (P.ruleV k (P.stAt k)) ⟨sn, so, (k : Int), sf, sv⟩ (L.getD sf.toNat st0) (L.getD sv.toNat st0) then 6 else 0) := hid fun hsh => by
   unfold stepE
   rw [← Hbb.out]
   simp only [Int.toNat_natCast]
   rw [hsh]; rfl
  have HSh : Hid (shapeV (P.ruleV k (P.stAt k)) ⟨sn, so, (k : Int), sf, sv⟩ = (((needsV x.r.kind.toList).1 == decide (0 ≤ sf)) && ((needsV x.r.kind.toList).2 == decide (0 ≤ sv)))) := hid (by unfold shapeV; rw [hxr])
  have HFo : Hid (shapeV (P.ruleV k (P.stAt k)) ⟨sn, so, (k : Int), sf, sv⟩ = true → ∀ w2, Ext V w2 → Calls Tryz.prog 111 #[pval a1 a2 a3 c1 c2 c3 P, .slice (some y8) L.length c8, stval ⟨sn, so, (k : Int), sf, sv⟩, x.r.val (.slice aa x.r.args.length ca)] w2 fun e w' => e = .returned (.bool (folB P (P.ruleV k (P.stAt k)) ⟨sn, so, (k : Int), sf, sv⟩ (L.getD sf.toNat st0) (L.getD sv.toNat st0))) ∧ Ext w2 w') := hid fun hsh w2 y => by
   have yy := (HZ.out.trans HXV.out).trans y
   have hi2 := HIa.out.old (yy.old _)
   rw [Hxr.out] at hi2 ⊢
   exact whyfollows_any a1 a2 a3 c1 c2 c3 P aa ca (.slice (some y8) L.length c8) L i ⟨sn, so, (k : Int), sf, sv⟩ k w2 n0 ad (HPW.out.ext yy) hi2 n1 (Hr.out.ext yy) hll Hs.out hkl hb3 hb4 hsh Hprev.out
  have hl2 : k < P.rulesV.length := by rw [Hrl.out]; exact hkl
  clear hrs hx hrx hxr hrow hxv hia xv hV
  go_wp2_with fail
  rw [← HVe.out]
  refine HNe.out.mono ?_
  intro e w2 hx
  obtain ⟨rfl, hx2⟩ := hx
  have Hx2 := hid hx2
  have HZ2 := hid ((HZ.out.trans HXV.out).trans hx2)
  clear HNe hx2 r0 r1 r2 r3 r4 a2' a3' e0 e1 e2
  have a3' := (HAA.out.ext HZ2.out).at3
  have p0 := (HBp.out.ext (Hx1.out.trans (HXV.out.trans Hx2.out))).av 0 rfl
  have p1 := (HBp.out.ext (Hx1.out.trans (HXV.out.trans Hx2.out))).av 1 rfl
  have p2 := (HBp.out.ext (Hx1.out.trans (HXV.out.trans Hx2.out))).av 2 rfl
  have e0 := (HBs.out.ext (Hx1.out.trans (HXV.out.trans Hx2.out))).av 0 rfl
  have e1 := (HBs.out.ext (Hx1.out.trans (HXV.out.trans Hx2.out))).av 1 rfl
  have e2 := (HBs.out.ext (Hx1.out.trans (HXV.out.trans Hx2.out))).av 2 rfl
  have e3 := (HBs.out.ext (Hx1.out.trans (HXV.out.trans Hx2.out))).av 3 rfl
  have e4 := (HBs.out.ext (Hx1.out.trans (HXV.out.trans Hx2.out))).av 4 rfl
  have r0 := (HBr.out.ext Hx2.out).av 0 rfl
  have r1 := (HBr.out.ext Hx2.out).av 1 rfl
  have r2 := (HBr.out.ext Hx2.out).av 2 rfl
  have r3 := (HBr.out.ext Hx2.out).av 3 rfl
  have r4 := (HBr.out.ext Hx2.out).av 4 rfl
  simp only [qA0, qA1, qA2] at p0 p1 p2 e0 e1 e2 e3 e4 r0 r1 r2 r3 r4
  have HSh2 := HSh.out
  obtain ⟨nf, hnf⟩ : ∃ nf, nf = (needsV x.r.kind.toList).1 := ⟨_, rfl⟩
  obtain ⟨nb, hnb⟩ : ∃ nb, nb = (needsV x.r.kind.toList).2 := ⟨_, rfl⟩
  rw [← hnf, ← hnb] at HSh2 ⊢
  clear hnf hnb
  cases hsv : shapeV (P.ruleV k (P.stAt k)) ⟨sn, so, (k : Int), sf, sv⟩ with
  | true =>
   rw [hsv] at HSh2
   have HF := hid (HFo.out hsv w2 Hx2.out)
   have HE0 := hid (HEf.out hsv)
   obtain ⟨bf, hbf⟩ : ∃ bf, bf = folB P (P.ruleV k (P.stAt k)) ⟨sn, so, (k : Int), sf, sv⟩ (L.getD sf.toNat st0) (L.getD sv.toNat st0) := ⟨_, rfl⟩
   rw [← hbf] at HF HE0
   unfold pval stval RV.val at HF
   clear hbf hsv
   cases d1 : decide (0 ≤ sf) <;> cases d2 : decide (0 ≤ sv) <;> cases nf <;> cases nb <;> rw [d1, d2] at HSh2 <;>
   first
   | exact absurd HSh2 (by decide)
   |(clear HSh2
     go_wp2_with fail
     refine HF.out.mono ?_
     intro e w3 hx
     obtain ⟨rfl, hx3⟩ := hx
     have HZ := hid (HZ2.out.trans hx3)
     have a6' := (HAA.out.ext HZ.out).at6
     clear HF hx3 p0 p1 p2 e0 e1 e2 e3 e4 r0 r1 r2 r3 r4 a3'
     cases bf with
     | true =>
      have HE1 : Hid (stepE P L i ⟨sn, so, (k : Int), sf, sv⟩ = 0) := hid HE0.out
      go_wp2
      go_ret
      exact ⟨by rw [HE1.out]; rfl, HZ.out⟩
     | false =>
      have HE0 : Hid (stepE P L i ⟨sn, so, (k : Int), sf, sv⟩ = 6) := hid HE0.out
      have HRes : Hid (errv (evOf ad) (stepE P L i ⟨sn, so, (k : Int), sf, sv⟩) = .iface 273 (.pointer (some (ad 6)))) := hid (by rw [HE0.out]; rfl)
      go_wp2
      go_ret
      exact ⟨by rw [HRes.out]; rfl, HZ.out⟩
    )
  | false =>
   rw [hsv] at HSh2
   have HE0 := hid (HE3.out hsv)
   clear hsv
   have HZ := HZ2
   cases d1 : decide (0 ≤ sf) <;> cases d2 : decide (0 ≤ sv) <;> cases nf <;> cases nb <;> rw [d1, d2] at HSh2 <;>
   first
   | exact absurd HSh2 (by decide)
   |(clear HSh2
     have HRes : Hid (errv (evOf ad) (stepE P L i ⟨sn, so, (k : Int), sf, sv⟩) = .iface 273 (.pointer (some (ad 3)))) := hid (by rw [HE0.out]; rfl)
     go_wp2
     go_ret
     exact ⟨by rw [HRes.out]; rfl, HZ.out⟩
    )
set_option maxRecDepth 100000 in
set_option maxHeartbeats 6400000 in
theorem whycheck_any (a1 a2 a3 : Option Addr) (c1 c2 c3 : Nat) (P : PP) (S : List (List Int)) (vl : Value) (L : List ST) (w : World) (n0 : Nat) (ad : Nat → Addr) (h : PW w n0 ad a1 a2 a3 c1 c2 c3 P) (hA : AllErrs w ad) (hg : P.GoodS S) (hc : ClosedP P S) (hr : StepsR w n0 vl L) (hll : L.length ≤ 1000000) (hn0 : n0 ≤ w.heap.size) :
  Calls Tryz.prog 26 #[pval a1 a2 a3 c1 c2 c3 P, vl] w fun e w' => ∃ v, e = .returned v ∧ ProofErr ad P L w' v ∧ Ext w w' := by
 obtain ⟨al, cl, rfl⟩ := hr.form2
 obtain ⟨W, hW⟩ : ∃ W, W = w.alloc (.cells (pcells a1 a2 a3 c1 c2 c3 P) 26) := ⟨_, rfl⟩
 have HX : Hid (Ext w W) := hid (by rw [hW]; exact (Ext.refl _).alloc _)
 have HBx : Hid (Blk W w.heap.size (pcells a1 a2 a3 c1 c2 c3 P) 26) := hid (by rw [hW]; exact Blk.new _ _ _)
 have HWe : Hid (W = w.alloc (.cells #[.slice a1 P.vars.length c1, .slice a2 P.funs.length c2, .slice a3 P.stmts.length c3] 26)) := hid (by rw [hW]; rfl)
 have HPW := hid (h.ext HX.out)
 have HAA := hid hA
 have Hg := hid hg
 have Hc := hid hc
 have Hr := hid hr
 have HR0 := hid (consof_yes a1 a2 a3 c1 c2 c3 P W n0 ad HPW.out)
 have p0 := HBx.out.av 0 rfl
 have p1 := HBx.out.av 1 rfl
 have p2 := HBx.out.av 2 rfl
 simp only [pcells, qA0, qA1, qA2] at p0 p1 p2
 rw [HWe.out] at p0 p1 p2
 unfold pval
 unfold pval at HR0
 clear hW h hA hg hc hr
 go_enter Tryz.func26, Tryz.ntmps26
 go_wp2_with fail
 rw [← HWe.out]
 refine HR0.out.mono ?_
 intro e w1 hx
 obtain ⟨v, rs, rfl, hT, hx1⟩ := hx
 obtain ⟨ar, cr, rfl⟩ := row_form hT.row
 have Hx1 := hid hx1
 have HT := hid hT
 have HZ := hid (HX.out.trans hx1)
 clear HR0 hx1 hT p0 p1 p2
 by_cases hbig : 2000 < L.length
 ·have a8' := (HAA.out.ext HZ.out).at8
  have HPE : Hid (ProofErr ad P L w1 (.iface 273 (.pointer (some (ad 8))))) := hid (.inl ⟨hbig, rfl⟩)
  go_wp2
  go_ret
  exact ⟨_, rfl, HPE.out, HZ.out⟩
 have hll2 : L.length ≤ 2000 := by omega
 go_wp2
 go_loopw [23] (fun t23 wr => ∃ j : Nat, t23 = .int .i64 (j : Int) ∧ j ≤ L.length ∧ StepsOk P L j ∧ Ext w1 wr) (fun t23 _ => L.length - (intOf t23).toNat)
 case atStart => exact ⟨0, rfl, Nat.zero_le _, fun j t h => absurd h (Nat.not_lt_zero _), Ext.refl _⟩
 case round =>
  obtain ⟨j, rfl, hj, hok, hxr⟩ := hrel
  have Hxr := hid hxr
  have Hok := hid hok
  clear hok hxr
  by_cases hlt : j < L.length
  ·obtain ⟨s, hs⟩ : ∃ s, L[j]? = some s := ⟨_, List.getElem?_eq_getElem hlt⟩
   have Hs := hid hs
   have hpr : ∀ (q : Nat) t, q < j → L[q]? = some t → 0 ≤ t.obj ∧ t.obj < 1000 := fun q t hq ht => by
    have h1 := (StepsOk.snd Hg.out Hc.out Hok.out q t hq ht).2
    have h2 := objs_in Hg.out h1.1 h1.2
    have h3 := Hg.out.1.nodes.2
    omega
   have HE := hid (whystep_any a1 a2 a3 c1 c2 c3 P ar cr rs (.slice al L.length cl) L j s wr w1.heap.size ad ((HPW.out.ext (Hx1.out.trans Hxr.out)).lift (Nat.le_trans hn0 HZ.out.size)) (HAA.out.ext (HZ.out.trans Hxr.out)) (own_low (own_ext HT.out.row Hxr.out) (Nat.zero_le _)) HT.out.eq (fun x hx => (HT.out.args x hx).1.old (Hxr.out.old _)) n0 (Hr.out.ext (HZ.out.trans Hxr.out)) hll2 hs hpr)
   have p0 := (HBx.out.ext (Hx1.out.trans Hxr.out)).av 0 rfl
   have p1 := (HBx.out.ext (Hx1.out.trans Hxr.out)).av 1 rfl
   have p2 := (HBx.out.ext (Hx1.out.trans Hxr.out)).av 2 rfl
   simp only [pcells, qA0, qA1, qA2] at p0 p1 p2
   unfold pval at HE
   clear hs hpr
   go_wp2_with fail
   refine HE.out.mono ?_
   intro e w4 hx4
   obtain ⟨rfl, hx4⟩ := hx4
   have Hx4 := hid (Hxr.out.trans hx4)
   clear HE hx4 p0 p1 p2
   by_cases hz : stepE P L j s = 0
   ·rw [show errv (evOf ad) (stepE P L j s) = .nilIface from by rw [hz]; rfl]
    have Hok1 := hid (Hok.out.succ Hs.out hz)
    clear hz
    go_wp2
    go_roundw
    case rel => exact ⟨j + 1, by go_num, by omega, Hok1.out, Hx4.out⟩
    case measure => simp [intOf]; omega
   ·rw [show errv (evOf ad) (stepE P L j s) = .iface 273 (.pointer (some (ad (stepE P L j s)))) from by unfold errv; rw [if_neg hz]; rfl]
    have HPE : Hid (ProofErr ad P L (w4.alloc (.cells #[.int .i64 (j : Int), .iface 273 (.pointer (some (ad (stepE P L j s))))] 128)) (.iface 126 (.pointer (some ⟨w4.heap.size, 0, none⟩)))) := hid (.inr (.inr ⟨hll2, j, s, _, Hs.out, Hok.out, hz, rfl, Blk.new _ _ _⟩))
    have HxE := hid (HZ.out.trans (Hx4.out.alloc (.cells #[.int .i64 (j : Int), .iface 273 (.pointer (some (ad (stepE P L j s))))] 128)))
    clear hz
    go_wp2
    go_ret
    exact ⟨_, rfl, HPE.out, HxE.out⟩
  ·obtain rfl : j = L.length := by omega
   have HPE : Hid (ProofErr ad P L wr .nilIface) := hid (.inr (.inl ⟨hll2, Hok.out, rfl⟩))
   have HxE := hid (HZ.out.trans Hxr.out)
   go_wp2
   go_ret
   exact ⟨_, rfl, HPE.out, HxE.out⟩
set_option maxRecDepth 100000 in
set_option maxHeartbeats 3200000 in
theorem whycheck_no (a1 a2 a3 : Option Addr) (c1 c2 c3 : Nat) (P : PP) (vl : Value) (w : World) (n0 : Nat) (ad : Nat → Addr) (hE : ErrsP w ad) (h : ProgR w n0 (.slice a1 P.vars.length c1) (.slice a2 P.funs.length c2) (.slice a3 P.stmts.length c3) P)
  (hz1 : ∀ s ∈ P.vars, s.size ≤ 1000000) (hz2 : ∀ s ∈ P.names, s.size ≤ 1000000) (hw : ¬ P.Well) :
  Calls Tryz.prog 26 #[pval a1 a2 a3 c1 c2 c3 P, vl] w fun e w' => ∃ t x, e = .returned (.iface t (.pointer (some x))) ∧ ErrIs ad P w' (.iface t (.pointer (some x))) ∧ Ext w w' := by
 obtain ⟨W, hW⟩ : ∃ W, W = w.alloc (.cells (pcells a1 a2 a3 c1 c2 c3 P) 26) := ⟨_, rfl⟩
 have HX : Hid (Ext w W) := hid (by rw [hW]; exact (Ext.refl _).alloc _)
 have HBx : Hid (Blk W w.heap.size (pcells a1 a2 a3 c1 c2 c3 P) 26) := hid (by rw [hW]; exact Blk.new _ _ _)
 have HWe : Hid (W = w.alloc (.cells #[.slice a1 P.vars.length c1, .slice a2 P.funs.length c2, .slice a3 P.stmts.length c3] 26)) := hid (by rw [hW]; rfl)
 have HR0 := hid (consof_no a1 a2 a3 c1 c2 c3 P W n0 ad (hE.ext HX.out) (h.ext HX.out) hz1 hz2 hw)
 have p0 := HBx.out.av 0 rfl
 have p1 := HBx.out.av 1 rfl
 have p2 := HBx.out.av 2 rfl
 simp only [pcells, qA0, qA1, qA2] at p0 p1 p2
 rw [HWe.out] at p0 p1 p2
 unfold pval
 unfold pval at HR0
 clear hW h hE hz1 hz2 hw
 go_enter Tryz.func26, Tryz.ntmps26
 go_wp2_with fail
 rw [← HWe.out]
 refine HR0.out.mono ?_
 intro e w1 hx
 obtain ⟨t, x, rfl, hei, hx1⟩ := hx
 have Hei := hid hei
 have HZ := hid (HX.out.trans hx1)
 clear HR0 hx1 hei p0 p1 p2
 go_wp2
 go_ret
 exact ⟨_, _, rfl, Hei.out, HZ.out⟩
section
variable {P : PP} {S : List (List Int)} {s : SV} {m : Nat}
def SV.start (P : PP) : SV := P.rulesV.foldl (SV.add P) (SV.zero P)
end
def vkVar : List UInt8 := [118, 97, 114]
def vkThing : List UInt8 := [116, 104, 105, 110, 103]
def vkFun : List UInt8 := [102, 117, 110]
def PP.objV (P : PP) (pl : List Int) (k : List UInt8) (n : Int) : Int :=
 bif k == vkVar then (if 0 ≤ n ∧ n < P.vars.length then n else -1) else
 bif k == vkThing then (if 0 ≤ n ∧ n < pl.length then P.placeV (pl.getD n.toNat 0) else -1) else
 bif k == vkFun then (if 0 ≤ n ∧ n < P.funs.length then (P.nodesV : Int) + n else -1) else -1
theorem PP.nodesV_le (P : PP) : P.nodesV ≤ P.vars.length + P.stmts.length := by
 unfold PP.nodesV
 have := P.newsN_le P.stmts.length
 omega
end Go.Proofs.YtngdpnlgnpdkcaaGreatDoor
