/-
  NARROWER THAN 'FOR EVERY INPUT', by the rows' own cells (each row's printed sentence says how): ShardAlone: laid · ShardTakes: laid · ShardAny: laid · CycleGroups: laid.
  DERIVED. THE GIVEN ROWS OF THIS SEAT. 4 by the template 'for every input the law returns true; each argument reads behind the call as it read before'; 0 by the template 'total and deterministic' (their statements: YtihdpijgngooaaaGreatDoorTotals.lean).
  GIVEN WITH THE SEED: the statements are not yours to turn. If you find one false, say at which input.
  Laid BY PROGRAM, IN A SANDBOX (cutbox-rows.mjs): the forced cells as the released guide's own fill.sh prints them over the translation f15f680b29f7ddd0… (all of the seat's roots in one cut). By AI agents, Wed Nov 11 2026. No macro, syntax, notation, axiom, sorry.
-/
import Derived.Test.YtihdpijgngooaaaGreatDoorChecked
import GoSem.PinnedTables
import GoSem.Claim
import GoSem.ClaimJoined
import GoSem.ClaimMapViews
import Derived.JoinedTies
import Derived.KernelRfl
namespace Go.Proofs.YtihdpijgngooaaaGreatDoor
/- THE CELL 'sum', in the pinned program and in every row, IS THE sha256 OF THE DUMP (.gsa) THAT YtihdpijgngooaaaGreatDoorProg.lean LOADS. Nothing in Lean hashes anything: it is a label: what it is worth is what the hold of that sum in a sandbox is worth. -/
noncomputable def Tryz.pinned : Pinned := { name := "ytihdpijgngooaaagreatdoor", sum := "f15f680b29f7ddd0e55f669aeef262332ff05b72c70c7f715e7de08fb59893e4", checked := Tryz.checked }
namespace Rows
def none {H : Type} : Left H := { results := [], args := [] }

/- WHAT THE LISTED PACKAGE-LEVEL VARIABLES READ AS WHEN THE CALL BEGINS. Each datum BY PROGRAM (the guide's laid-datum.mjs) off the statement by which the dump's own 'gosem.cut.vars' lays the variable. In a bare row this is a premise. The card (YtihdpijgngooaaaGreatDoorCards.lean) ties it to the program's text. -/
def laid_unicode_utf8_acceptRanges {H : Type} : DataW H := .agg [.agg [.lit (.int .u8 128), .lit (.int .u8 191)], .agg [.lit (.int .u8 160), .lit (.int .u8 191)], .agg [.lit (.int .u8 128), .lit (.int .u8 159)], .agg [.lit (.int .u8 144), .lit (.int .u8 191)], .agg [.lit (.int .u8 128), .lit (.int .u8 143)], .agg [.lit (.int .u8 0), .lit (.int .u8 0)], .agg [.lit (.int .u8 0), .lit (.int .u8 0)], .agg [.lit (.int .u8 0), .lit (.int .u8 0)], .agg [.lit (.int .u8 0), .lit (.int .u8 0)], .agg [.lit (.int .u8 0), .lit (.int .u8 0)], .agg [.lit (.int .u8 0), .lit (.int .u8 0)], .agg [.lit (.int .u8 0), .lit (.int .u8 0)], .agg [.lit (.int .u8 0), .lit (.int .u8 0)], .agg [.lit (.int .u8 0), .lit (.int .u8 0)], .agg [.lit (.int .u8 0), .lit (.int .u8 0)], .agg [.lit (.int .u8 0), .lit (.int .u8 0)]]
def laid_fingerpost_api_ErrBound {H : Type} : DataW H := .iface "*errors.errorString" (.ptr (.agg [.lit (.string [102, 105, 110, 103, 101, 114, 112, 111, 115, 116, 58, 32, 98, 111, 117, 110, 100])]))
def laid_fingerpost_api_ErrShape {H : Type} : DataW H := .iface "*errors.errorString" (.ptr (.agg [.lit (.string [102, 105, 110, 103, 101, 114, 112, 111, 115, 116, 58, 32, 115, 104, 97, 112, 101])]))
def laid_fingerpost_api_ErrKind {H : Type} : DataW H := .iface "*errors.errorString" (.ptr (.agg [.lit (.string [102, 105, 110, 103, 101, 114, 112, 111, 115, 116, 58, 32, 107, 105, 110, 100])]))
def laid_fingerpost_api_ErrName {H : Type} : DataW H := .iface "*errors.errorString" (.ptr (.agg [.lit (.string [102, 105, 110, 103, 101, 114, 112, 111, 115, 116, 58, 32, 110, 97, 109, 101])]))
def laid_fingerpost_api_ErrExist {H : Type} : DataW H := .iface "*errors.errorString" (.ptr (.agg [.lit (.string [102, 105, 110, 103, 101, 114, 112, 111, 115, 116, 58, 32, 101, 120, 105, 115, 116])]))
def laid_fingerpost_api_ErrFull {H : Type} : DataW H := .iface "*errors.errorString" (.ptr (.agg [.lit (.string [102, 105, 110, 103, 101, 114, 112, 111, 115, 116, 58, 32, 102, 117, 108, 108])]))
def laid_fingerpost_api_ErrArgs {H : Type} : DataW H := .iface "*errors.errorString" (.ptr (.agg [.lit (.string [102, 105, 110, 103, 101, 114, 112, 111, 115, 116, 58, 32, 97, 114, 103, 115])]))
/-- One of Go's own tables, pinned by name: the form's constant. -/
def laid_unicode_utf8_first : DataW Unit := Go.Pinned.utf8First
def laid_errors_errorType {H : Type} : DataW H := .iface "internal/reflectlite.rtype" (.agg [.ptr (.lit (.string [101, 114, 114, 111, 114]))])
def laid_fingerpost_api_ErrText {H : Type} : DataW H := .iface "*errors.errorString" (.ptr (.agg [.lit (.string [102, 105, 110, 103, 101, 114, 112, 111, 115, 116, 58, 32, 116, 101, 120, 116])]))
def laid_fingerpost_api_ErrNone {H : Type} : DataW H := .iface "*errors.errorString" (.ptr (.agg [.lit (.string [102, 105, 110, 103, 101, 114, 112, 111, 115, 116, 58, 32, 110, 111, 110, 101])]))
def laid_fingerpost_api_ErrOrder {H : Type} : DataW H := .iface "*errors.errorString" (.ptr (.agg [.lit (.string [102, 105, 110, 103, 101, 114, 112, 111, 115, 116, 58, 32, 111, 114, 100, 101, 114])]))
def laid_fingerpost_api_ErrSum {H : Type} : DataW H := .iface "*errors.errorString" (.ptr (.agg [.lit (.string [102, 105, 110, 103, 101, 114, 112, 111, 115, 116, 58, 32, 115, 117, 109])]))

/-- 'fingerpostlaw3.ShardAlone': WHATEVER THE INPUT: true; the input reads as it did. -/
def shardAloneSpec : ChangeSpec := { name := "shardAlone", fn := fun _ => fun
  | [d1, d2, d3] => { results := [.lit (.bool true)], args := [d1, d2, d3] }
  | _ => none }
def shardAloneRow : OpenClaim := { program := "ytihdpijgngooaaagreatdoor", sum := "f15f680b29f7ddd0e55f669aeef262332ff05b72c70c7f715e7de08fb59893e4", func := "fingerpost/fingerpostlaw3.ShardAlone", spec := "shardAlone", inPlace := ["internal/bytealg.IndexByteString", "internal/bytealg.IndexString"], unfollowed := true, recurses := true, named := ["fingerpost/api.ErrBound", "fingerpost/api.ErrFull", "fingerpost/api.ErrName", "fingerpost/api.ErrExist", "unicode/utf8.first", "unicode/utf8.acceptRanges", "fingerpost/api.ErrArgs", "fingerpost/api.ErrKind", "fingerpost/api.ErrShape", "internal/bytealg.MaxLen"], apart := false, laid := [("unicode/utf8.acceptRanges", laid_unicode_utf8_acceptRanges), ("fingerpost/api.ErrBound", laid_fingerpost_api_ErrBound), ("fingerpost/api.ErrShape", laid_fingerpost_api_ErrShape), ("fingerpost/api.ErrKind", laid_fingerpost_api_ErrKind), ("fingerpost/api.ErrName", laid_fingerpost_api_ErrName), ("fingerpost/api.ErrExist", laid_fingerpost_api_ErrExist), ("fingerpost/api.ErrFull", laid_fingerpost_api_ErrFull), ("fingerpost/api.ErrArgs", laid_fingerpost_api_ErrArgs), ("unicode/utf8.first", laid_unicode_utf8_first)] }
def ShardAloneSaid : Prop := shardAloneRow.holds Tryz.pinned (OpenSpec.ofChange shardAloneSpec)

/-- ITS FALSE NEIGHBOUR: 'it returns false'. Refute it at one input. -/
def shardAloneWrong : ChangeSpec := { name := "shardAlone", fn := fun _ => fun
  | [d1, d2, d3] => { results := [.lit (.bool false)], args := [d1, d2, d3] }
  | _ => none }
def ShardAloneWrongFalsely : Prop := shardAloneRow.holds Tryz.pinned (OpenSpec.ofChange shardAloneWrong)

/-- 'fingerpostlaw3.ShardTakes': WHATEVER THE INPUT: true; the input reads as it did. -/
def shardTakesSpec : ChangeSpec := { name := "shardTakes", fn := fun _ => fun
  | [d1, d2, d3, d4, d5] => { results := [.lit (.bool true)], args := [d1, d2, d3, d4, d5] }
  | _ => none }
def shardTakesRow : OpenClaim := { program := "ytihdpijgngooaaagreatdoor", sum := "f15f680b29f7ddd0e55f669aeef262332ff05b72c70c7f715e7de08fb59893e4", func := "fingerpost/fingerpostlaw3.ShardTakes", spec := "shardTakes", inPlace := ["internal/bytealg.IndexByteString", "internal/bytealg.IndexString", "internal/reflectlite.ValueOf", "(internal/reflectlite.Value).Type", "(internal/reflectlite.Value).IsNil", "internal/reflectlite.TypeOf", "(internal/reflectlite.Value).Elem", "(internal/reflectlite.Value).Set"], unfollowed := true, recurses := true, named := ["fingerpost/api.ErrBound", "fingerpost/api.ErrFull", "fingerpost/api.ErrName", "fingerpost/api.ErrExist", "unicode/utf8.first", "unicode/utf8.acceptRanges", "fingerpost/api.ErrArgs", "fingerpost/api.ErrKind", "fingerpost/api.ErrShape", "fingerpost/api.ErrText", "fingerpost/api.ErrNone", "fingerpost/api.ErrOrder", "fingerpost/api.ErrSum", "errors.errorType", "internal/bytealg.MaxLen"], apart := false, laid := [("unicode/utf8.acceptRanges", laid_unicode_utf8_acceptRanges), ("errors.errorType", laid_errors_errorType), ("fingerpost/api.ErrText", laid_fingerpost_api_ErrText), ("fingerpost/api.ErrBound", laid_fingerpost_api_ErrBound), ("fingerpost/api.ErrShape", laid_fingerpost_api_ErrShape), ("fingerpost/api.ErrKind", laid_fingerpost_api_ErrKind), ("fingerpost/api.ErrName", laid_fingerpost_api_ErrName), ("fingerpost/api.ErrNone", laid_fingerpost_api_ErrNone), ("fingerpost/api.ErrExist", laid_fingerpost_api_ErrExist), ("fingerpost/api.ErrFull", laid_fingerpost_api_ErrFull), ("fingerpost/api.ErrArgs", laid_fingerpost_api_ErrArgs), ("fingerpost/api.ErrOrder", laid_fingerpost_api_ErrOrder), ("fingerpost/api.ErrSum", laid_fingerpost_api_ErrSum), ("unicode/utf8.first", laid_unicode_utf8_first)] }
def ShardTakesSaid : Prop := shardTakesRow.holds Tryz.pinned (OpenSpec.ofChange shardTakesSpec)

/-- ITS FALSE NEIGHBOUR: 'it returns false'. Refute it at one input. -/
def shardTakesWrong : ChangeSpec := { name := "shardTakes", fn := fun _ => fun
  | [d1, d2, d3, d4, d5] => { results := [.lit (.bool false)], args := [d1, d2, d3, d4, d5] }
  | _ => none }
def ShardTakesWrongFalsely : Prop := shardTakesRow.holds Tryz.pinned (OpenSpec.ofChange shardTakesWrong)

/-- 'fingerpostlaw3.ShardAny': WHATEVER THE INPUT: true; the input reads as it did. -/
def shardAnySpec : ChangeSpec := { name := "shardAny", fn := fun _ => fun
  | [d1, d2, d3] => { results := [.lit (.bool true)], args := [d1, d2, d3] }
  | _ => none }
def shardAnyRow : OpenClaim := { program := "ytihdpijgngooaaagreatdoor", sum := "f15f680b29f7ddd0e55f669aeef262332ff05b72c70c7f715e7de08fb59893e4", func := "fingerpost/fingerpostlaw3.ShardAny", spec := "shardAny", inPlace := ["internal/bytealg.IndexByteString", "internal/bytealg.IndexString", "internal/reflectlite.ValueOf", "(internal/reflectlite.Value).Type", "(internal/reflectlite.Value).IsNil", "internal/reflectlite.TypeOf", "(internal/reflectlite.Value).Elem", "(internal/reflectlite.Value).Set"], unfollowed := true, recurses := true, named := ["fingerpost/api.ErrBound", "fingerpost/api.ErrFull", "fingerpost/api.ErrName", "fingerpost/api.ErrExist", "unicode/utf8.first", "unicode/utf8.acceptRanges", "fingerpost/api.ErrArgs", "fingerpost/api.ErrKind", "fingerpost/api.ErrShape", "fingerpost/api.ErrText", "fingerpost/api.ErrNone", "fingerpost/api.ErrOrder", "fingerpost/api.ErrSum", "errors.errorType", "internal/bytealg.MaxLen"], apart := false, laid := [("unicode/utf8.acceptRanges", laid_unicode_utf8_acceptRanges), ("errors.errorType", laid_errors_errorType), ("fingerpost/api.ErrText", laid_fingerpost_api_ErrText), ("fingerpost/api.ErrBound", laid_fingerpost_api_ErrBound), ("fingerpost/api.ErrShape", laid_fingerpost_api_ErrShape), ("fingerpost/api.ErrKind", laid_fingerpost_api_ErrKind), ("fingerpost/api.ErrName", laid_fingerpost_api_ErrName), ("fingerpost/api.ErrNone", laid_fingerpost_api_ErrNone), ("fingerpost/api.ErrExist", laid_fingerpost_api_ErrExist), ("fingerpost/api.ErrFull", laid_fingerpost_api_ErrFull), ("fingerpost/api.ErrArgs", laid_fingerpost_api_ErrArgs), ("fingerpost/api.ErrOrder", laid_fingerpost_api_ErrOrder), ("fingerpost/api.ErrSum", laid_fingerpost_api_ErrSum), ("unicode/utf8.first", laid_unicode_utf8_first)] }
def ShardAnySaid : Prop := shardAnyRow.holds Tryz.pinned (OpenSpec.ofChange shardAnySpec)

/-- ITS FALSE NEIGHBOUR: 'it returns false'. Refute it at one input. -/
def shardAnyWrong : ChangeSpec := { name := "shardAny", fn := fun _ => fun
  | [d1, d2, d3] => { results := [.lit (.bool false)], args := [d1, d2, d3] }
  | _ => none }
def ShardAnyWrongFalsely : Prop := shardAnyRow.holds Tryz.pinned (OpenSpec.ofChange shardAnyWrong)

/-- 'fingerpostlaw2.CycleGroups': WHATEVER THE INPUT: true; the input reads as it did. -/
def cycleGroupsSpec : ChangeSpec := { name := "cycleGroups", fn := fun _ => fun
  | [d1, d2, d3] => { results := [.lit (.bool true)], args := [d1, d2, d3] }
  | _ => none }
def cycleGroupsRow : OpenClaim := { program := "ytihdpijgngooaaagreatdoor", sum := "f15f680b29f7ddd0e55f669aeef262332ff05b72c70c7f715e7de08fb59893e4", func := "fingerpost/fingerpostlaw2.CycleGroups", spec := "cycleGroups", inPlace := ["internal/reflectlite.ValueOf", "(internal/reflectlite.Value).Type", "(internal/reflectlite.Value).IsNil", "internal/reflectlite.TypeOf", "(internal/reflectlite.Value).Elem", "(internal/reflectlite.Value).Set", "internal/bytealg.IndexByteString", "internal/bytealg.IndexString"], unfollowed := true, recurses := true, named := ["fingerpost/api.ErrBound", "fingerpost/api.ErrText", "fingerpost/api.ErrShape", "fingerpost/api.ErrKind", "fingerpost/api.ErrName", "fingerpost/api.ErrNone", "fingerpost/api.ErrExist", "fingerpost/api.ErrFull", "fingerpost/api.ErrArgs", "fingerpost/api.ErrOrder", "fingerpost/api.ErrSum", "errors.errorType", "unicode/utf8.first", "unicode/utf8.acceptRanges", "internal/bytealg.MaxLen"], apart := false, laid := [("unicode/utf8.acceptRanges", laid_unicode_utf8_acceptRanges), ("errors.errorType", laid_errors_errorType), ("fingerpost/api.ErrText", laid_fingerpost_api_ErrText), ("fingerpost/api.ErrBound", laid_fingerpost_api_ErrBound), ("fingerpost/api.ErrShape", laid_fingerpost_api_ErrShape), ("fingerpost/api.ErrKind", laid_fingerpost_api_ErrKind), ("fingerpost/api.ErrName", laid_fingerpost_api_ErrName), ("fingerpost/api.ErrNone", laid_fingerpost_api_ErrNone), ("fingerpost/api.ErrExist", laid_fingerpost_api_ErrExist), ("fingerpost/api.ErrFull", laid_fingerpost_api_ErrFull), ("fingerpost/api.ErrArgs", laid_fingerpost_api_ErrArgs), ("fingerpost/api.ErrOrder", laid_fingerpost_api_ErrOrder), ("fingerpost/api.ErrSum", laid_fingerpost_api_ErrSum), ("unicode/utf8.first", laid_unicode_utf8_first)] }
def CycleGroupsSaid : Prop := cycleGroupsRow.holds Tryz.pinned (OpenSpec.ofChange cycleGroupsSpec)

/-- ITS FALSE NEIGHBOUR: 'it returns false'. Refute it at one input. -/
def cycleGroupsWrong : ChangeSpec := { name := "cycleGroups", fn := fun _ => fun
  | [d1, d2, d3] => { results := [.lit (.bool false)], args := [d1, d2, d3] }
  | _ => none }
def CycleGroupsWrongFalsely : Prop := cycleGroupsRow.holds Tryz.pinned (OpenSpec.ofChange cycleGroupsWrong)

/- THE SECOND FORM. 'bulk': how many values and letters a reading holds, each counted each time it is reached (what is shared counts as often as it is met; a slice's spare places count too). A statement '..UptoSaid' is the law's where the arguments, and the package variables that the reading takes, are together of bulk at most 1048576: NARROWER than '..Said'. Prove '..Said' where nothing that the law and all that it calls make is longer than what came in: it says more and counts as full. Else prove '..UptoSaid'. A law counts once. -/
mutual
def uptoBulk {H : Type} : DataW H → Nat
  | .lit (.string bytes) => bytes.length + 1
  | .lit _ => 1
  | .nil => 1
  | .ptr d => uptoBulk d + 1
  | .slice elems spare => uptoBulkAll elems + uptoBulkAll spare + 1
  | .agg parts => uptoBulkAll parts + 1
  | .iface _ d => uptoBulk d + 1
  | .map entries => uptoBulkEntries entries + 1
  | .held _ => 1
def uptoBulkAll {H : Type} : List (DataW H) → Nat
  | [] => 0
  | d :: r => uptoBulk d + uptoBulkAll r
def uptoBulkEntries {H : Type} : List (Lit × DataW H) → Nat
  | [] => 0
  | x :: r => uptoBulkEntry x + uptoBulkEntries r
def uptoBulkEntry {H : Type} : Lit × DataW H → Nat
  | (.string bytes, d) => bytes.length + uptoBulk d + 1
  | (_, d) => uptoBulk d + 1
 end
def uptoSmall : (H : Type) → List (DataW H) → Bool := fun _ ds => decide (uptoBulkAll ds ≤ 1048576)
def OpenSpec.upto (s : _root_.Go.ChangeSpec) : _root_.Go.OpenSpec := { _root_.Go.OpenSpec.ofChange s with cond := some uptoSmall }

/-- 'fingerpostlaw3.ShardAlone', WHERE WHAT IT READS IS OF BULK AT MOST 1048576: true; the input reads as it did. -/
def shardAloneUptoRow : OpenClaim := { program := "ytihdpijgngooaaagreatdoor", sum := "f15f680b29f7ddd0e55f669aeef262332ff05b72c70c7f715e7de08fb59893e4", func := "fingerpost/fingerpostlaw3.ShardAlone", spec := "shardAlone", inPlace := ["internal/bytealg.IndexByteString", "internal/bytealg.IndexString"], unfollowed := true, recurses := true, named := ["fingerpost/api.ErrBound", "fingerpost/api.ErrFull", "fingerpost/api.ErrName", "fingerpost/api.ErrExist", "unicode/utf8.first", "unicode/utf8.acceptRanges", "fingerpost/api.ErrArgs", "fingerpost/api.ErrKind", "fingerpost/api.ErrShape", "internal/bytealg.MaxLen"], apart := false, laid := [("unicode/utf8.acceptRanges", laid_unicode_utf8_acceptRanges), ("fingerpost/api.ErrBound", laid_fingerpost_api_ErrBound), ("fingerpost/api.ErrShape", laid_fingerpost_api_ErrShape), ("fingerpost/api.ErrKind", laid_fingerpost_api_ErrKind), ("fingerpost/api.ErrName", laid_fingerpost_api_ErrName), ("fingerpost/api.ErrExist", laid_fingerpost_api_ErrExist), ("fingerpost/api.ErrFull", laid_fingerpost_api_ErrFull), ("fingerpost/api.ErrArgs", laid_fingerpost_api_ErrArgs), ("unicode/utf8.first", laid_unicode_utf8_first)], narrowed := true }
def ShardAloneUptoSaid : Prop := shardAloneUptoRow.holds Tryz.pinned (OpenSpec.upto shardAloneSpec)

/-- 'fingerpostlaw3.ShardTakes', WHERE WHAT IT READS IS OF BULK AT MOST 1048576: true; the input reads as it did. -/
def shardTakesUptoRow : OpenClaim := { program := "ytihdpijgngooaaagreatdoor", sum := "f15f680b29f7ddd0e55f669aeef262332ff05b72c70c7f715e7de08fb59893e4", func := "fingerpost/fingerpostlaw3.ShardTakes", spec := "shardTakes", inPlace := ["internal/bytealg.IndexByteString", "internal/bytealg.IndexString", "internal/reflectlite.ValueOf", "(internal/reflectlite.Value).Type", "(internal/reflectlite.Value).IsNil", "internal/reflectlite.TypeOf", "(internal/reflectlite.Value).Elem", "(internal/reflectlite.Value).Set"], unfollowed := true, recurses := true, named := ["fingerpost/api.ErrBound", "fingerpost/api.ErrFull", "fingerpost/api.ErrName", "fingerpost/api.ErrExist", "unicode/utf8.first", "unicode/utf8.acceptRanges", "fingerpost/api.ErrArgs", "fingerpost/api.ErrKind", "fingerpost/api.ErrShape", "fingerpost/api.ErrText", "fingerpost/api.ErrNone", "fingerpost/api.ErrOrder", "fingerpost/api.ErrSum", "errors.errorType", "internal/bytealg.MaxLen"], apart := false, laid := [("unicode/utf8.acceptRanges", laid_unicode_utf8_acceptRanges), ("errors.errorType", laid_errors_errorType), ("fingerpost/api.ErrText", laid_fingerpost_api_ErrText), ("fingerpost/api.ErrBound", laid_fingerpost_api_ErrBound), ("fingerpost/api.ErrShape", laid_fingerpost_api_ErrShape), ("fingerpost/api.ErrKind", laid_fingerpost_api_ErrKind), ("fingerpost/api.ErrName", laid_fingerpost_api_ErrName), ("fingerpost/api.ErrNone", laid_fingerpost_api_ErrNone), ("fingerpost/api.ErrExist", laid_fingerpost_api_ErrExist), ("fingerpost/api.ErrFull", laid_fingerpost_api_ErrFull), ("fingerpost/api.ErrArgs", laid_fingerpost_api_ErrArgs), ("fingerpost/api.ErrOrder", laid_fingerpost_api_ErrOrder), ("fingerpost/api.ErrSum", laid_fingerpost_api_ErrSum), ("unicode/utf8.first", laid_unicode_utf8_first)], narrowed := true }
def ShardTakesUptoSaid : Prop := shardTakesUptoRow.holds Tryz.pinned (OpenSpec.upto shardTakesSpec)

/-- 'fingerpostlaw3.ShardAny', WHERE WHAT IT READS IS OF BULK AT MOST 1048576: true; the input reads as it did. -/
def shardAnyUptoRow : OpenClaim := { program := "ytihdpijgngooaaagreatdoor", sum := "f15f680b29f7ddd0e55f669aeef262332ff05b72c70c7f715e7de08fb59893e4", func := "fingerpost/fingerpostlaw3.ShardAny", spec := "shardAny", inPlace := ["internal/bytealg.IndexByteString", "internal/bytealg.IndexString", "internal/reflectlite.ValueOf", "(internal/reflectlite.Value).Type", "(internal/reflectlite.Value).IsNil", "internal/reflectlite.TypeOf", "(internal/reflectlite.Value).Elem", "(internal/reflectlite.Value).Set"], unfollowed := true, recurses := true, named := ["fingerpost/api.ErrBound", "fingerpost/api.ErrFull", "fingerpost/api.ErrName", "fingerpost/api.ErrExist", "unicode/utf8.first", "unicode/utf8.acceptRanges", "fingerpost/api.ErrArgs", "fingerpost/api.ErrKind", "fingerpost/api.ErrShape", "fingerpost/api.ErrText", "fingerpost/api.ErrNone", "fingerpost/api.ErrOrder", "fingerpost/api.ErrSum", "errors.errorType", "internal/bytealg.MaxLen"], apart := false, laid := [("unicode/utf8.acceptRanges", laid_unicode_utf8_acceptRanges), ("errors.errorType", laid_errors_errorType), ("fingerpost/api.ErrText", laid_fingerpost_api_ErrText), ("fingerpost/api.ErrBound", laid_fingerpost_api_ErrBound), ("fingerpost/api.ErrShape", laid_fingerpost_api_ErrShape), ("fingerpost/api.ErrKind", laid_fingerpost_api_ErrKind), ("fingerpost/api.ErrName", laid_fingerpost_api_ErrName), ("fingerpost/api.ErrNone", laid_fingerpost_api_ErrNone), ("fingerpost/api.ErrExist", laid_fingerpost_api_ErrExist), ("fingerpost/api.ErrFull", laid_fingerpost_api_ErrFull), ("fingerpost/api.ErrArgs", laid_fingerpost_api_ErrArgs), ("fingerpost/api.ErrOrder", laid_fingerpost_api_ErrOrder), ("fingerpost/api.ErrSum", laid_fingerpost_api_ErrSum), ("unicode/utf8.first", laid_unicode_utf8_first)], narrowed := true }
def ShardAnyUptoSaid : Prop := shardAnyUptoRow.holds Tryz.pinned (OpenSpec.upto shardAnySpec)

/-- 'fingerpostlaw2.CycleGroups', WHERE WHAT IT READS IS OF BULK AT MOST 1048576: true; the input reads as it did. -/
def cycleGroupsUptoRow : OpenClaim := { program := "ytihdpijgngooaaagreatdoor", sum := "f15f680b29f7ddd0e55f669aeef262332ff05b72c70c7f715e7de08fb59893e4", func := "fingerpost/fingerpostlaw2.CycleGroups", spec := "cycleGroups", inPlace := ["internal/reflectlite.ValueOf", "(internal/reflectlite.Value).Type", "(internal/reflectlite.Value).IsNil", "internal/reflectlite.TypeOf", "(internal/reflectlite.Value).Elem", "(internal/reflectlite.Value).Set", "internal/bytealg.IndexByteString", "internal/bytealg.IndexString"], unfollowed := true, recurses := true, named := ["fingerpost/api.ErrBound", "fingerpost/api.ErrText", "fingerpost/api.ErrShape", "fingerpost/api.ErrKind", "fingerpost/api.ErrName", "fingerpost/api.ErrNone", "fingerpost/api.ErrExist", "fingerpost/api.ErrFull", "fingerpost/api.ErrArgs", "fingerpost/api.ErrOrder", "fingerpost/api.ErrSum", "errors.errorType", "unicode/utf8.first", "unicode/utf8.acceptRanges", "internal/bytealg.MaxLen"], apart := false, laid := [("unicode/utf8.acceptRanges", laid_unicode_utf8_acceptRanges), ("errors.errorType", laid_errors_errorType), ("fingerpost/api.ErrText", laid_fingerpost_api_ErrText), ("fingerpost/api.ErrBound", laid_fingerpost_api_ErrBound), ("fingerpost/api.ErrShape", laid_fingerpost_api_ErrShape), ("fingerpost/api.ErrKind", laid_fingerpost_api_ErrKind), ("fingerpost/api.ErrName", laid_fingerpost_api_ErrName), ("fingerpost/api.ErrNone", laid_fingerpost_api_ErrNone), ("fingerpost/api.ErrExist", laid_fingerpost_api_ErrExist), ("fingerpost/api.ErrFull", laid_fingerpost_api_ErrFull), ("fingerpost/api.ErrArgs", laid_fingerpost_api_ErrArgs), ("fingerpost/api.ErrOrder", laid_fingerpost_api_ErrOrder), ("fingerpost/api.ErrSum", laid_fingerpost_api_ErrSum), ("unicode/utf8.first", laid_unicode_utf8_first)], narrowed := true }
def CycleGroupsUptoSaid : Prop := cycleGroupsUptoRow.holds Tryz.pinned (OpenSpec.upto cycleGroupsSpec)

end Rows
end Go.Proofs.YtihdpijgngooaaaGreatDoor
