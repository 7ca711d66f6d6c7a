/-
  NARROWER THAN 'FOR EVERY INPUT', by the rows' own cells (each row's printed sentence says how): FrameApart: laid · RingOver: laid · RingCounts: laid · LinkOnce: laid · LinkTicks: laid · Names: laid · FrameTells: laid · FrameBits: laid · RingPlays: laid · LinkActs: laid.
  DERIVED. THE GIVEN ROWS OF THIS SEAT. 10 by the template 'for every input the law returns true; each argument reads behind the call as it read before'; 0 by the template 'total and deterministic' (their statements: YtmdcjfgdmmncpaaDoorTotals.lean).
  GIVEN WITH THE SEED: the statements are not yours to turn. If you find one false, say at which input.
  Laid BY PROGRAM, IN A SANDBOX (cutbox-rows.mjs): the forced cells as the released guide's own fill.sh prints them over the translation 373b5c051ba3577e… (all of the seat's roots in one cut). By AI agents, Wed Nov 11 2026. No macro, syntax, notation, axiom, sorry.
-/
import Derived.Test.YtmdcjfgdmmncpaaDoorChecked
import GoSem.Claim
import GoSem.ClaimJoined
import GoSem.ClaimMapViews
import Derived.JoinedTies
import Derived.KernelRfl
namespace Go.Proofs.YtmdcjfgdmmncpaaDoor
/- THE CELL 'sum', in the pinned program and in every row, IS THE sha256 OF THE DUMP (.gsa) THAT YtmdcjfgdmmncpaaDoorProg.lean LOADS. Nothing in Lean hashes anything: it is a label: what it is worth is what the hold of that sum in a sandbox is worth. -/
noncomputable def Tryd.pinned : Pinned := { name := "ytmdcjfgdmmncpaadoor", sum := "373b5c051ba3577e12fb8a4fd071ce08648b26c0843922702b4048dc9b16a5f2", checked := Tryd.checked }
namespace Rows
def none {H : Type} : Left H := { results := [], args := [] }

/- WHAT THE LISTED PACKAGE-LEVEL VARIABLES READ AS WHEN THE CALL BEGINS. Each datum BY PROGRAM (the guide's laid-datum.mjs) off the statement by which the dump's own 'gosem.cut.vars' lays the variable. In a bare row this is a premise. The card (YtmdcjfgdmmncpaaDoorCards.lean) ties it to the program's text. -/
def laid_fingerpost_api_ErrText {H : Type} : DataW H := .iface "*errors.errorString" (.ptr (.agg [.lit (.string [102, 105, 110, 103, 101, 114, 112, 111, 115, 116, 58, 32, 116, 101, 120, 116])]))
def laid_fingerpost_api_ErrBound {H : Type} : DataW H := .iface "*errors.errorString" (.ptr (.agg [.lit (.string [102, 105, 110, 103, 101, 114, 112, 111, 115, 116, 58, 32, 98, 111, 117, 110, 100])]))
def laid_fingerpost_api_ErrShape {H : Type} : DataW H := .iface "*errors.errorString" (.ptr (.agg [.lit (.string [102, 105, 110, 103, 101, 114, 112, 111, 115, 116, 58, 32, 115, 104, 97, 112, 101])]))
def laid_fingerpost_api_ErrKind {H : Type} : DataW H := .iface "*errors.errorString" (.ptr (.agg [.lit (.string [102, 105, 110, 103, 101, 114, 112, 111, 115, 116, 58, 32, 107, 105, 110, 100])]))
def laid_fingerpost_api_ErrFull {H : Type} : DataW H := .iface "*errors.errorString" (.ptr (.agg [.lit (.string [102, 105, 110, 103, 101, 114, 112, 111, 115, 116, 58, 32, 102, 117, 108, 108])]))
def laid_fingerpost_api_ErrSum {H : Type} : DataW H := .iface "*errors.errorString" (.ptr (.agg [.lit (.string [102, 105, 110, 103, 101, 114, 112, 111, 115, 116, 58, 32, 115, 117, 109])]))
def laid_errors_errorType {H : Type} : DataW H := .iface "internal/reflectlite.rtype" (.agg [.ptr (.lit (.string [101, 114, 114, 111, 114]))])
def laid_fingerpost_api_ErrName {H : Type} : DataW H := .iface "*errors.errorString" (.ptr (.agg [.lit (.string [102, 105, 110, 103, 101, 114, 112, 111, 115, 116, 58, 32, 110, 97, 109, 101])]))
def laid_fingerpost_api_ErrNone {H : Type} : DataW H := .iface "*errors.errorString" (.ptr (.agg [.lit (.string [102, 105, 110, 103, 101, 114, 112, 111, 115, 116, 58, 32, 110, 111, 110, 101])]))
def laid_fingerpost_api_ErrExist {H : Type} : DataW H := .iface "*errors.errorString" (.ptr (.agg [.lit (.string [102, 105, 110, 103, 101, 114, 112, 111, 115, 116, 58, 32, 101, 120, 105, 115, 116])]))
def laid_fingerpost_api_ErrArgs {H : Type} : DataW H := .iface "*errors.errorString" (.ptr (.agg [.lit (.string [102, 105, 110, 103, 101, 114, 112, 111, 115, 116, 58, 32, 97, 114, 103, 115])]))
def laid_fingerpost_api_ErrOrder {H : Type} : DataW H := .iface "*errors.errorString" (.ptr (.agg [.lit (.string [102, 105, 110, 103, 101, 114, 112, 111, 115, 116, 58, 32, 111, 114, 100, 101, 114])]))

/-- 'fingerpostlaw3.FrameApart': WHATEVER THE INPUT: true; the input reads as it did. -/
def frameApartSpec : ChangeSpec := { name := "frameApart", fn := fun _ => fun
  | [d1, d2, d3] => { results := [.lit (.bool true)], args := [d1, d2, d3] }
  | _ => none }
def frameApartRow : OpenClaim := { program := "ytmdcjfgdmmncpaadoor", sum := "373b5c051ba3577e12fb8a4fd071ce08648b26c0843922702b4048dc9b16a5f2", func := "fingerpost/fingerpostlaw3.FrameApart", spec := "frameApart", unfollowed := true, recurses := true, named := ["fingerpost/api.ErrKind", "fingerpost/api.ErrBound", "fingerpost/api.ErrShape", "fingerpost/api.ErrFull", "fingerpost/api.ErrText", "fingerpost/api.ErrSum"], apart := false, laid := [("fingerpost/api.ErrText", laid_fingerpost_api_ErrText), ("fingerpost/api.ErrBound", laid_fingerpost_api_ErrBound), ("fingerpost/api.ErrShape", laid_fingerpost_api_ErrShape), ("fingerpost/api.ErrKind", laid_fingerpost_api_ErrKind), ("fingerpost/api.ErrFull", laid_fingerpost_api_ErrFull), ("fingerpost/api.ErrSum", laid_fingerpost_api_ErrSum)] }
def FrameApartSaid : Prop := frameApartRow.holds Tryd.pinned (OpenSpec.ofChange frameApartSpec)

/-- ITS FALSE NEIGHBOUR: 'it returns false'. Refute it at one input. -/
def frameApartWrong : ChangeSpec := { name := "frameApart", fn := fun _ => fun
  | [d1, d2, d3] => { results := [.lit (.bool false)], args := [d1, d2, d3] }
  | _ => none }
def FrameApartWrongFalsely : Prop := frameApartRow.holds Tryd.pinned (OpenSpec.ofChange frameApartWrong)

/-- 'fingerpostlaw3.RingOver': WHATEVER THE INPUT: true; the input reads as it did. -/
def ringOverSpec : ChangeSpec := { name := "ringOver", fn := fun _ => fun
  | [d1, d2] => { results := [.lit (.bool true)], args := [d1, d2] }
  | _ => none }
def ringOverRow : OpenClaim := { program := "ytmdcjfgdmmncpaadoor", sum := "373b5c051ba3577e12fb8a4fd071ce08648b26c0843922702b4048dc9b16a5f2", func := "fingerpost/fingerpostlaw3.RingOver", spec := "ringOver", named := ["fingerpost/api.ErrBound"], apart := false, laid := [("fingerpost/api.ErrBound", laid_fingerpost_api_ErrBound)] }
def RingOverSaid : Prop := ringOverRow.holds Tryd.pinned (OpenSpec.ofChange ringOverSpec)

/-- ITS FALSE NEIGHBOUR: 'it returns false'. Refute it at one input. -/
def ringOverWrong : ChangeSpec := { name := "ringOver", fn := fun _ => fun
  | [d1, d2] => { results := [.lit (.bool false)], args := [d1, d2] }
  | _ => none }
def RingOverWrongFalsely : Prop := ringOverRow.holds Tryd.pinned (OpenSpec.ofChange ringOverWrong)

/-- 'fingerpostlaw3.RingCounts': WHATEVER THE INPUT: true; the input reads as it did. -/
def ringCountsSpec : ChangeSpec := { name := "ringCounts", fn := fun _ => fun
  | [d1, d2, d3] => { results := [.lit (.bool true)], args := [d1, d2, d3] }
  | _ => none }
def ringCountsRow : OpenClaim := { program := "ytmdcjfgdmmncpaadoor", sum := "373b5c051ba3577e12fb8a4fd071ce08648b26c0843922702b4048dc9b16a5f2", func := "fingerpost/fingerpostlaw3.RingCounts", spec := "ringCounts", named := ["fingerpost/api.ErrBound"], apart := false, laid := [("fingerpost/api.ErrBound", laid_fingerpost_api_ErrBound)] }
def RingCountsSaid : Prop := ringCountsRow.holds Tryd.pinned (OpenSpec.ofChange ringCountsSpec)

/-- ITS FALSE NEIGHBOUR: 'it returns false'. Refute it at one input. -/
def ringCountsWrong : ChangeSpec := { name := "ringCounts", fn := fun _ => fun
  | [d1, d2, d3] => { results := [.lit (.bool false)], args := [d1, d2, d3] }
  | _ => none }
def RingCountsWrongFalsely : Prop := ringCountsRow.holds Tryd.pinned (OpenSpec.ofChange ringCountsWrong)

/-- 'fingerpostlaw3.LinkOnce': WHATEVER THE INPUT: true; the input reads as it did. -/
def linkOnceSpec : ChangeSpec := { name := "linkOnce", fn := fun _ => fun
  | [d1, d2] => { results := [.lit (.bool true)], args := [d1, d2] }
  | _ => none }
def linkOnceRow : OpenClaim := { program := "ytmdcjfgdmmncpaadoor", sum := "373b5c051ba3577e12fb8a4fd071ce08648b26c0843922702b4048dc9b16a5f2", func := "fingerpost/fingerpostlaw3.LinkOnce", spec := "linkOnce", unfollowed := true, recurses := true, named := ["fingerpost/api.ErrBound", "fingerpost/api.ErrShape", "fingerpost/api.ErrKind", "fingerpost/api.ErrFull"], apart := false, laid := [("fingerpost/api.ErrBound", laid_fingerpost_api_ErrBound), ("fingerpost/api.ErrShape", laid_fingerpost_api_ErrShape), ("fingerpost/api.ErrKind", laid_fingerpost_api_ErrKind), ("fingerpost/api.ErrFull", laid_fingerpost_api_ErrFull)] }
def LinkOnceSaid : Prop := linkOnceRow.holds Tryd.pinned (OpenSpec.ofChange linkOnceSpec)

/-- ITS FALSE NEIGHBOUR: 'it returns false'. Refute it at one input. -/
def linkOnceWrong : ChangeSpec := { name := "linkOnce", fn := fun _ => fun
  | [d1, d2] => { results := [.lit (.bool false)], args := [d1, d2] }
  | _ => none }
def LinkOnceWrongFalsely : Prop := linkOnceRow.holds Tryd.pinned (OpenSpec.ofChange linkOnceWrong)

/-- 'fingerpostlaw3.LinkTicks': WHATEVER THE INPUT: true; the input reads as it did. -/
def linkTicksSpec : ChangeSpec := { name := "linkTicks", fn := fun _ => fun
  | [d1, d2, d3] => { results := [.lit (.bool true)], args := [d1, d2, d3] }
  | _ => none }
def linkTicksRow : OpenClaim := { program := "ytmdcjfgdmmncpaadoor", sum := "373b5c051ba3577e12fb8a4fd071ce08648b26c0843922702b4048dc9b16a5f2", func := "fingerpost/fingerpostlaw3.LinkTicks", spec := "linkTicks", unfollowed := true, recurses := true, named := ["fingerpost/api.ErrBound", "fingerpost/api.ErrShape", "fingerpost/api.ErrKind", "fingerpost/api.ErrFull"], apart := false, laid := [("fingerpost/api.ErrBound", laid_fingerpost_api_ErrBound), ("fingerpost/api.ErrShape", laid_fingerpost_api_ErrShape), ("fingerpost/api.ErrKind", laid_fingerpost_api_ErrKind), ("fingerpost/api.ErrFull", laid_fingerpost_api_ErrFull)] }
def LinkTicksSaid : Prop := linkTicksRow.holds Tryd.pinned (OpenSpec.ofChange linkTicksSpec)

/-- ITS FALSE NEIGHBOUR: 'it returns false'. Refute it at one input. -/
def linkTicksWrong : ChangeSpec := { name := "linkTicks", fn := fun _ => fun
  | [d1, d2, d3] => { results := [.lit (.bool false)], args := [d1, d2, d3] }
  | _ => none }
def LinkTicksWrongFalsely : Prop := linkTicksRow.holds Tryd.pinned (OpenSpec.ofChange linkTicksWrong)

/-- 'fingerpostlaw1.Names': WHATEVER THE INPUT: true; the input reads as it did. -/
def namesSpec : ChangeSpec := { name := "names", fn := fun _ => fun
  | [] => { results := [.lit (.bool true)], args := [] }
  | _ => none }
def namesRow : OpenClaim := { program := "ytmdcjfgdmmncpaadoor", sum := "373b5c051ba3577e12fb8a4fd071ce08648b26c0843922702b4048dc9b16a5f2", func := "fingerpost/fingerpostlaw1.Names", spec := "names", inPlace := ["internal/reflectlite.ValueOf", "(internal/reflectlite.Value).Type", "(internal/reflectlite.Value).IsNil", "internal/reflectlite.TypeOf", "(internal/reflectlite.Value).Elem", "(internal/reflectlite.Value).Set"], unfollowed := true, recurses := true, named := ["fingerpost/api.ErrText", "fingerpost/api.ErrBound", "fingerpost/api.ErrShape", "fingerpost/api.ErrKind", "fingerpost/api.ErrName", "fingerpost/api.ErrNone", "fingerpost/api.ErrExist", "fingerpost/api.ErrFull", "fingerpost/api.ErrArgs", "fingerpost/api.ErrOrder", "fingerpost/api.ErrSum", "errors.errorType"], apart := false, laid := [("errors.errorType", laid_errors_errorType), ("fingerpost/api.ErrText", laid_fingerpost_api_ErrText), ("fingerpost/api.ErrBound", laid_fingerpost_api_ErrBound), ("fingerpost/api.ErrShape", laid_fingerpost_api_ErrShape), ("fingerpost/api.ErrKind", laid_fingerpost_api_ErrKind), ("fingerpost/api.ErrName", laid_fingerpost_api_ErrName), ("fingerpost/api.ErrNone", laid_fingerpost_api_ErrNone), ("fingerpost/api.ErrExist", laid_fingerpost_api_ErrExist), ("fingerpost/api.ErrFull", laid_fingerpost_api_ErrFull), ("fingerpost/api.ErrArgs", laid_fingerpost_api_ErrArgs), ("fingerpost/api.ErrOrder", laid_fingerpost_api_ErrOrder), ("fingerpost/api.ErrSum", laid_fingerpost_api_ErrSum)] }
def NamesSaid : Prop := namesRow.holds Tryd.pinned (OpenSpec.ofChange namesSpec)

/-- ITS FALSE NEIGHBOUR: 'it returns false'. Refute it at one input. -/
def namesWrong : ChangeSpec := { name := "names", fn := fun _ => fun
  | [] => { results := [.lit (.bool false)], args := [] }
  | _ => none }
def NamesWrongFalsely : Prop := namesRow.holds Tryd.pinned (OpenSpec.ofChange namesWrong)

/-- 'fingerpostlaw3.FrameTells': WHATEVER THE INPUT: true; the input reads as it did. -/
def frameTellsSpec : ChangeSpec := { name := "frameTells", fn := fun _ => fun
  | [d1, d2] => { results := [.lit (.bool true)], args := [d1, d2] }
  | _ => none }
def frameTellsRow : OpenClaim := { program := "ytmdcjfgdmmncpaadoor", sum := "373b5c051ba3577e12fb8a4fd071ce08648b26c0843922702b4048dc9b16a5f2", func := "fingerpost/fingerpostlaw3.FrameTells", spec := "frameTells", inPlace := ["internal/reflectlite.ValueOf", "(internal/reflectlite.Value).Type", "(internal/reflectlite.Value).IsNil", "internal/reflectlite.TypeOf", "(internal/reflectlite.Value).Elem", "(internal/reflectlite.Value).Set"], unfollowed := true, recurses := true, named := ["fingerpost/api.ErrKind", "fingerpost/api.ErrBound", "fingerpost/api.ErrShape", "fingerpost/api.ErrFull", "fingerpost/api.ErrText", "fingerpost/api.ErrName", "fingerpost/api.ErrNone", "fingerpost/api.ErrExist", "fingerpost/api.ErrArgs", "fingerpost/api.ErrOrder", "fingerpost/api.ErrSum", "errors.errorType"], apart := false, laid := [("errors.errorType", laid_errors_errorType), ("fingerpost/api.ErrText", laid_fingerpost_api_ErrText), ("fingerpost/api.ErrBound", laid_fingerpost_api_ErrBound), ("fingerpost/api.ErrShape", laid_fingerpost_api_ErrShape), ("fingerpost/api.ErrKind", laid_fingerpost_api_ErrKind), ("fingerpost/api.ErrName", laid_fingerpost_api_ErrName), ("fingerpost/api.ErrNone", laid_fingerpost_api_ErrNone), ("fingerpost/api.ErrExist", laid_fingerpost_api_ErrExist), ("fingerpost/api.ErrFull", laid_fingerpost_api_ErrFull), ("fingerpost/api.ErrArgs", laid_fingerpost_api_ErrArgs), ("fingerpost/api.ErrOrder", laid_fingerpost_api_ErrOrder), ("fingerpost/api.ErrSum", laid_fingerpost_api_ErrSum)] }
def FrameTellsSaid : Prop := frameTellsRow.holds Tryd.pinned (OpenSpec.ofChange frameTellsSpec)

/-- ITS FALSE NEIGHBOUR: 'it returns false'. Refute it at one input. -/
def frameTellsWrong : ChangeSpec := { name := "frameTells", fn := fun _ => fun
  | [d1, d2] => { results := [.lit (.bool false)], args := [d1, d2] }
  | _ => none }
def FrameTellsWrongFalsely : Prop := frameTellsRow.holds Tryd.pinned (OpenSpec.ofChange frameTellsWrong)

/-- 'fingerpostlaw3.FrameBits': WHATEVER THE INPUT: true; the input reads as it did. -/
def frameBitsSpec : ChangeSpec := { name := "frameBits", fn := fun _ => fun
  | [d1, d2] => { results := [.lit (.bool true)], args := [d1, d2] }
  | _ => none }
def frameBitsRow : OpenClaim := { program := "ytmdcjfgdmmncpaadoor", sum := "373b5c051ba3577e12fb8a4fd071ce08648b26c0843922702b4048dc9b16a5f2", func := "fingerpost/fingerpostlaw3.FrameBits", spec := "frameBits", inPlace := ["internal/reflectlite.ValueOf", "(internal/reflectlite.Value).Type", "(internal/reflectlite.Value).IsNil", "internal/reflectlite.TypeOf", "(internal/reflectlite.Value).Elem", "(internal/reflectlite.Value).Set"], unfollowed := true, recurses := true, named := ["fingerpost/api.ErrKind", "fingerpost/api.ErrBound", "fingerpost/api.ErrShape", "fingerpost/api.ErrFull", "fingerpost/api.ErrText", "fingerpost/api.ErrSum", "fingerpost/api.ErrName", "fingerpost/api.ErrNone", "fingerpost/api.ErrExist", "fingerpost/api.ErrArgs", "fingerpost/api.ErrOrder", "errors.errorType"], apart := false, laid := [("errors.errorType", laid_errors_errorType), ("fingerpost/api.ErrText", laid_fingerpost_api_ErrText), ("fingerpost/api.ErrBound", laid_fingerpost_api_ErrBound), ("fingerpost/api.ErrShape", laid_fingerpost_api_ErrShape), ("fingerpost/api.ErrKind", laid_fingerpost_api_ErrKind), ("fingerpost/api.ErrName", laid_fingerpost_api_ErrName), ("fingerpost/api.ErrNone", laid_fingerpost_api_ErrNone), ("fingerpost/api.ErrExist", laid_fingerpost_api_ErrExist), ("fingerpost/api.ErrFull", laid_fingerpost_api_ErrFull), ("fingerpost/api.ErrArgs", laid_fingerpost_api_ErrArgs), ("fingerpost/api.ErrOrder", laid_fingerpost_api_ErrOrder), ("fingerpost/api.ErrSum", laid_fingerpost_api_ErrSum)] }
def FrameBitsSaid : Prop := frameBitsRow.holds Tryd.pinned (OpenSpec.ofChange frameBitsSpec)

/-- ITS FALSE NEIGHBOUR: 'it returns false'. Refute it at one input. -/
def frameBitsWrong : ChangeSpec := { name := "frameBits", fn := fun _ => fun
  | [d1, d2] => { results := [.lit (.bool false)], args := [d1, d2] }
  | _ => none }
def FrameBitsWrongFalsely : Prop := frameBitsRow.holds Tryd.pinned (OpenSpec.ofChange frameBitsWrong)

/-- 'fingerpostlaw3.RingPlays': WHATEVER THE INPUT: true; the input reads as it did. -/
def ringPlaysSpec : ChangeSpec := { name := "ringPlays", fn := fun _ => fun
  | [d1, d2, d3, d4] => { results := [.lit (.bool true)], args := [d1, d2, d3, d4] }
  | _ => none }
def ringPlaysRow : OpenClaim := { program := "ytmdcjfgdmmncpaadoor", sum := "373b5c051ba3577e12fb8a4fd071ce08648b26c0843922702b4048dc9b16a5f2", func := "fingerpost/fingerpostlaw3.RingPlays", spec := "ringPlays", inPlace := ["internal/reflectlite.ValueOf", "(internal/reflectlite.Value).Type", "(internal/reflectlite.Value).IsNil", "internal/reflectlite.TypeOf", "(internal/reflectlite.Value).Elem", "(internal/reflectlite.Value).Set"], unfollowed := true, recurses := true, named := ["fingerpost/api.ErrBound", "fingerpost/api.ErrText", "fingerpost/api.ErrShape", "fingerpost/api.ErrKind", "fingerpost/api.ErrName", "fingerpost/api.ErrNone", "fingerpost/api.ErrExist", "fingerpost/api.ErrFull", "fingerpost/api.ErrArgs", "fingerpost/api.ErrOrder", "fingerpost/api.ErrSum", "errors.errorType"], apart := false, laid := [("errors.errorType", laid_errors_errorType), ("fingerpost/api.ErrText", laid_fingerpost_api_ErrText), ("fingerpost/api.ErrBound", laid_fingerpost_api_ErrBound), ("fingerpost/api.ErrShape", laid_fingerpost_api_ErrShape), ("fingerpost/api.ErrKind", laid_fingerpost_api_ErrKind), ("fingerpost/api.ErrName", laid_fingerpost_api_ErrName), ("fingerpost/api.ErrNone", laid_fingerpost_api_ErrNone), ("fingerpost/api.ErrExist", laid_fingerpost_api_ErrExist), ("fingerpost/api.ErrFull", laid_fingerpost_api_ErrFull), ("fingerpost/api.ErrArgs", laid_fingerpost_api_ErrArgs), ("fingerpost/api.ErrOrder", laid_fingerpost_api_ErrOrder), ("fingerpost/api.ErrSum", laid_fingerpost_api_ErrSum)] }
def RingPlaysSaid : Prop := ringPlaysRow.holds Tryd.pinned (OpenSpec.ofChange ringPlaysSpec)

/-- ITS FALSE NEIGHBOUR: 'it returns false'. Refute it at one input. -/
def ringPlaysWrong : ChangeSpec := { name := "ringPlays", fn := fun _ => fun
  | [d1, d2, d3, d4] => { results := [.lit (.bool false)], args := [d1, d2, d3, d4] }
  | _ => none }
def RingPlaysWrongFalsely : Prop := ringPlaysRow.holds Tryd.pinned (OpenSpec.ofChange ringPlaysWrong)

/-- 'fingerpostlaw3.LinkActs': WHATEVER THE INPUT: true; the input reads as it did. -/
def linkActsSpec : ChangeSpec := { name := "linkActs", fn := fun _ => fun
  | [d1, d2, d3] => { results := [.lit (.bool true)], args := [d1, d2, d3] }
  | _ => none }
def linkActsRow : OpenClaim := { program := "ytmdcjfgdmmncpaadoor", sum := "373b5c051ba3577e12fb8a4fd071ce08648b26c0843922702b4048dc9b16a5f2", func := "fingerpost/fingerpostlaw3.LinkActs", spec := "linkActs", inPlace := ["internal/reflectlite.ValueOf", "(internal/reflectlite.Value).Type", "(internal/reflectlite.Value).IsNil", "internal/reflectlite.TypeOf", "(internal/reflectlite.Value).Elem", "(internal/reflectlite.Value).Set"], unfollowed := true, recurses := true, named := ["fingerpost/api.ErrBound", "fingerpost/api.ErrShape", "fingerpost/api.ErrKind", "fingerpost/api.ErrFull", "fingerpost/api.ErrText", "fingerpost/api.ErrName", "fingerpost/api.ErrNone", "fingerpost/api.ErrExist", "fingerpost/api.ErrArgs", "fingerpost/api.ErrOrder", "fingerpost/api.ErrSum", "errors.errorType"], apart := false, laid := [("errors.errorType", laid_errors_errorType), ("fingerpost/api.ErrText", laid_fingerpost_api_ErrText), ("fingerpost/api.ErrBound", laid_fingerpost_api_ErrBound), ("fingerpost/api.ErrShape", laid_fingerpost_api_ErrShape), ("fingerpost/api.ErrKind", laid_fingerpost_api_ErrKind), ("fingerpost/api.ErrName", laid_fingerpost_api_ErrName), ("fingerpost/api.ErrNone", laid_fingerpost_api_ErrNone), ("fingerpost/api.ErrExist", laid_fingerpost_api_ErrExist), ("fingerpost/api.ErrFull", laid_fingerpost_api_ErrFull), ("fingerpost/api.ErrArgs", laid_fingerpost_api_ErrArgs), ("fingerpost/api.ErrOrder", laid_fingerpost_api_ErrOrder), ("fingerpost/api.ErrSum", laid_fingerpost_api_ErrSum)] }
def LinkActsSaid : Prop := linkActsRow.holds Tryd.pinned (OpenSpec.ofChange linkActsSpec)

/-- ITS FALSE NEIGHBOUR: 'it returns false'. Refute it at one input. -/
def linkActsWrong : ChangeSpec := { name := "linkActs", fn := fun _ => fun
  | [d1, d2, d3] => { results := [.lit (.bool false)], args := [d1, d2, d3] }
  | _ => none }
def LinkActsWrongFalsely : Prop := linkActsRow.holds Tryd.pinned (OpenSpec.ofChange linkActsWrong)

/- THE SECOND FORM. 'bulk': how many values and letters a reading holds, each counted each time it is reached (what is shared counts as often as it is met; a slice's spare places count too). A statement '..UptoSaid' is the law's where the arguments, and the package variables that the reading takes, are together of bulk at most 1048576: NARROWER than '..Said'. Prove '..Said' where nothing that the law and all that it calls make is longer than what came in: it says more and counts as full. Else prove '..UptoSaid'. A law counts once. -/
mutual
def uptoBulk {H : Type} : DataW H → Nat
  | .lit (.string bytes) => bytes.length + 1
  | .lit _ => 1
  | .nil => 1
  | .ptr d => uptoBulk d + 1
  | .slice elems spare => uptoBulkAll elems + uptoBulkAll spare + 1
  | .agg parts => uptoBulkAll parts + 1
  | .iface _ d => uptoBulk d + 1
  | .map entries => uptoBulkEntries entries + 1
  | .held _ => 1
def uptoBulkAll {H : Type} : List (DataW H) → Nat
  | [] => 0
  | d :: r => uptoBulk d + uptoBulkAll r
def uptoBulkEntries {H : Type} : List (Lit × DataW H) → Nat
  | [] => 0
  | x :: r => uptoBulkEntry x + uptoBulkEntries r
def uptoBulkEntry {H : Type} : Lit × DataW H → Nat
  | (.string bytes, d) => bytes.length + uptoBulk d + 1
  | (_, d) => uptoBulk d + 1
 end
def uptoSmall : (H : Type) → List (DataW H) → Bool := fun _ ds => decide (uptoBulkAll ds ≤ 1048576)
def OpenSpec.upto (s : _root_.Go.ChangeSpec) : _root_.Go.OpenSpec := { _root_.Go.OpenSpec.ofChange s with cond := some uptoSmall }

/-- 'fingerpostlaw3.FrameApart', WHERE WHAT IT READS IS OF BULK AT MOST 1048576: true; the input reads as it did. -/
def frameApartUptoRow : OpenClaim := { program := "ytmdcjfgdmmncpaadoor", sum := "373b5c051ba3577e12fb8a4fd071ce08648b26c0843922702b4048dc9b16a5f2", func := "fingerpost/fingerpostlaw3.FrameApart", spec := "frameApart", unfollowed := true, recurses := true, named := ["fingerpost/api.ErrKind", "fingerpost/api.ErrBound", "fingerpost/api.ErrShape", "fingerpost/api.ErrFull", "fingerpost/api.ErrText", "fingerpost/api.ErrSum"], apart := false, laid := [("fingerpost/api.ErrText", laid_fingerpost_api_ErrText), ("fingerpost/api.ErrBound", laid_fingerpost_api_ErrBound), ("fingerpost/api.ErrShape", laid_fingerpost_api_ErrShape), ("fingerpost/api.ErrKind", laid_fingerpost_api_ErrKind), ("fingerpost/api.ErrFull", laid_fingerpost_api_ErrFull), ("fingerpost/api.ErrSum", laid_fingerpost_api_ErrSum)], narrowed := true }
def FrameApartUptoSaid : Prop := frameApartUptoRow.holds Tryd.pinned (OpenSpec.upto frameApartSpec)

/-- 'fingerpostlaw3.RingOver', WHERE WHAT IT READS IS OF BULK AT MOST 1048576: true; the input reads as it did. -/
def ringOverUptoRow : OpenClaim := { program := "ytmdcjfgdmmncpaadoor", sum := "373b5c051ba3577e12fb8a4fd071ce08648b26c0843922702b4048dc9b16a5f2", func := "fingerpost/fingerpostlaw3.RingOver", spec := "ringOver", named := ["fingerpost/api.ErrBound"], apart := false, laid := [("fingerpost/api.ErrBound", laid_fingerpost_api_ErrBound)], narrowed := true }
def RingOverUptoSaid : Prop := ringOverUptoRow.holds Tryd.pinned (OpenSpec.upto ringOverSpec)

/-- 'fingerpostlaw3.RingCounts', WHERE WHAT IT READS IS OF BULK AT MOST 1048576: true; the input reads as it did. -/
def ringCountsUptoRow : OpenClaim := { program := "ytmdcjfgdmmncpaadoor", sum := "373b5c051ba3577e12fb8a4fd071ce08648b26c0843922702b4048dc9b16a5f2", func := "fingerpost/fingerpostlaw3.RingCounts", spec := "ringCounts", named := ["fingerpost/api.ErrBound"], apart := false, laid := [("fingerpost/api.ErrBound", laid_fingerpost_api_ErrBound)], narrowed := true }
def RingCountsUptoSaid : Prop := ringCountsUptoRow.holds Tryd.pinned (OpenSpec.upto ringCountsSpec)

/-- 'fingerpostlaw3.LinkOnce', WHERE WHAT IT READS IS OF BULK AT MOST 1048576: true; the input reads as it did. -/
def linkOnceUptoRow : OpenClaim := { program := "ytmdcjfgdmmncpaadoor", sum := "373b5c051ba3577e12fb8a4fd071ce08648b26c0843922702b4048dc9b16a5f2", func := "fingerpost/fingerpostlaw3.LinkOnce", spec := "linkOnce", unfollowed := true, recurses := true, named := ["fingerpost/api.ErrBound", "fingerpost/api.ErrShape", "fingerpost/api.ErrKind", "fingerpost/api.ErrFull"], apart := false, laid := [("fingerpost/api.ErrBound", laid_fingerpost_api_ErrBound), ("fingerpost/api.ErrShape", laid_fingerpost_api_ErrShape), ("fingerpost/api.ErrKind", laid_fingerpost_api_ErrKind), ("fingerpost/api.ErrFull", laid_fingerpost_api_ErrFull)], narrowed := true }
def LinkOnceUptoSaid : Prop := linkOnceUptoRow.holds Tryd.pinned (OpenSpec.upto linkOnceSpec)

/-- 'fingerpostlaw3.LinkTicks', WHERE WHAT IT READS IS OF BULK AT MOST 1048576: true; the input reads as it did. -/
def linkTicksUptoRow : OpenClaim := { program := "ytmdcjfgdmmncpaadoor", sum := "373b5c051ba3577e12fb8a4fd071ce08648b26c0843922702b4048dc9b16a5f2", func := "fingerpost/fingerpostlaw3.LinkTicks", spec := "linkTicks", unfollowed := true, recurses := true, named := ["fingerpost/api.ErrBound", "fingerpost/api.ErrShape", "fingerpost/api.ErrKind", "fingerpost/api.ErrFull"], apart := false, laid := [("fingerpost/api.ErrBound", laid_fingerpost_api_ErrBound), ("fingerpost/api.ErrShape", laid_fingerpost_api_ErrShape), ("fingerpost/api.ErrKind", laid_fingerpost_api_ErrKind), ("fingerpost/api.ErrFull", laid_fingerpost_api_ErrFull)], narrowed := true }
def LinkTicksUptoSaid : Prop := linkTicksUptoRow.holds Tryd.pinned (OpenSpec.upto linkTicksSpec)

/-- 'fingerpostlaw1.Names', WHERE WHAT IT READS IS OF BULK AT MOST 1048576: true; the input reads as it did. -/
def namesUptoRow : OpenClaim := { program := "ytmdcjfgdmmncpaadoor", sum := "373b5c051ba3577e12fb8a4fd071ce08648b26c0843922702b4048dc9b16a5f2", func := "fingerpost/fingerpostlaw1.Names", spec := "names", inPlace := ["internal/reflectlite.ValueOf", "(internal/reflectlite.Value).Type", "(internal/reflectlite.Value).IsNil", "internal/reflectlite.TypeOf", "(internal/reflectlite.Value).Elem", "(internal/reflectlite.Value).Set"], unfollowed := true, recurses := true, named := ["fingerpost/api.ErrText", "fingerpost/api.ErrBound", "fingerpost/api.ErrShape", "fingerpost/api.ErrKind", "fingerpost/api.ErrName", "fingerpost/api.ErrNone", "fingerpost/api.ErrExist", "fingerpost/api.ErrFull", "fingerpost/api.ErrArgs", "fingerpost/api.ErrOrder", "fingerpost/api.ErrSum", "errors.errorType"], apart := false, laid := [("errors.errorType", laid_errors_errorType), ("fingerpost/api.ErrText", laid_fingerpost_api_ErrText), ("fingerpost/api.ErrBound", laid_fingerpost_api_ErrBound), ("fingerpost/api.ErrShape", laid_fingerpost_api_ErrShape), ("fingerpost/api.ErrKind", laid_fingerpost_api_ErrKind), ("fingerpost/api.ErrName", laid_fingerpost_api_ErrName), ("fingerpost/api.ErrNone", laid_fingerpost_api_ErrNone), ("fingerpost/api.ErrExist", laid_fingerpost_api_ErrExist), ("fingerpost/api.ErrFull", laid_fingerpost_api_ErrFull), ("fingerpost/api.ErrArgs", laid_fingerpost_api_ErrArgs), ("fingerpost/api.ErrOrder", laid_fingerpost_api_ErrOrder), ("fingerpost/api.ErrSum", laid_fingerpost_api_ErrSum)], narrowed := true }
def NamesUptoSaid : Prop := namesUptoRow.holds Tryd.pinned (OpenSpec.upto namesSpec)

/-- 'fingerpostlaw3.FrameTells', WHERE WHAT IT READS IS OF BULK AT MOST 1048576: true; the input reads as it did. -/
def frameTellsUptoRow : OpenClaim := { program := "ytmdcjfgdmmncpaadoor", sum := "373b5c051ba3577e12fb8a4fd071ce08648b26c0843922702b4048dc9b16a5f2", func := "fingerpost/fingerpostlaw3.FrameTells", spec := "frameTells", inPlace := ["internal/reflectlite.ValueOf", "(internal/reflectlite.Value).Type", "(internal/reflectlite.Value).IsNil", "internal/reflectlite.TypeOf", "(internal/reflectlite.Value).Elem", "(internal/reflectlite.Value).Set"], unfollowed := true, recurses := true, named := ["fingerpost/api.ErrKind", "fingerpost/api.ErrBound", "fingerpost/api.ErrShape", "fingerpost/api.ErrFull", "fingerpost/api.ErrText", "fingerpost/api.ErrName", "fingerpost/api.ErrNone", "fingerpost/api.ErrExist", "fingerpost/api.ErrArgs", "fingerpost/api.ErrOrder", "fingerpost/api.ErrSum", "errors.errorType"], apart := false, laid := [("errors.errorType", laid_errors_errorType), ("fingerpost/api.ErrText", laid_fingerpost_api_ErrText), ("fingerpost/api.ErrBound", laid_fingerpost_api_ErrBound), ("fingerpost/api.ErrShape", laid_fingerpost_api_ErrShape), ("fingerpost/api.ErrKind", laid_fingerpost_api_ErrKind), ("fingerpost/api.ErrName", laid_fingerpost_api_ErrName), ("fingerpost/api.ErrNone", laid_fingerpost_api_ErrNone), ("fingerpost/api.ErrExist", laid_fingerpost_api_ErrExist), ("fingerpost/api.ErrFull", laid_fingerpost_api_ErrFull), ("fingerpost/api.ErrArgs", laid_fingerpost_api_ErrArgs), ("fingerpost/api.ErrOrder", laid_fingerpost_api_ErrOrder), ("fingerpost/api.ErrSum", laid_fingerpost_api_ErrSum)], narrowed := true }
def FrameTellsUptoSaid : Prop := frameTellsUptoRow.holds Tryd.pinned (OpenSpec.upto frameTellsSpec)

/-- 'fingerpostlaw3.FrameBits', WHERE WHAT IT READS IS OF BULK AT MOST 1048576: true; the input reads as it did. -/
def frameBitsUptoRow : OpenClaim := { program := "ytmdcjfgdmmncpaadoor", sum := "373b5c051ba3577e12fb8a4fd071ce08648b26c0843922702b4048dc9b16a5f2", func := "fingerpost/fingerpostlaw3.FrameBits", spec := "frameBits", inPlace := ["internal/reflectlite.ValueOf", "(internal/reflectlite.Value).Type", "(internal/reflectlite.Value).IsNil", "internal/reflectlite.TypeOf", "(internal/reflectlite.Value).Elem", "(internal/reflectlite.Value).Set"], unfollowed := true, recurses := true, named := ["fingerpost/api.ErrKind", "fingerpost/api.ErrBound", "fingerpost/api.ErrShape", "fingerpost/api.ErrFull", "fingerpost/api.ErrText", "fingerpost/api.ErrSum", "fingerpost/api.ErrName", "fingerpost/api.ErrNone", "fingerpost/api.ErrExist", "fingerpost/api.ErrArgs", "fingerpost/api.ErrOrder", "errors.errorType"], apart := false, laid := [("errors.errorType", laid_errors_errorType), ("fingerpost/api.ErrText", laid_fingerpost_api_ErrText), ("fingerpost/api.ErrBound", laid_fingerpost_api_ErrBound), ("fingerpost/api.ErrShape", laid_fingerpost_api_ErrShape), ("fingerpost/api.ErrKind", laid_fingerpost_api_ErrKind), ("fingerpost/api.ErrName", laid_fingerpost_api_ErrName), ("fingerpost/api.ErrNone", laid_fingerpost_api_ErrNone), ("fingerpost/api.ErrExist", laid_fingerpost_api_ErrExist), ("fingerpost/api.ErrFull", laid_fingerpost_api_ErrFull), ("fingerpost/api.ErrArgs", laid_fingerpost_api_ErrArgs), ("fingerpost/api.ErrOrder", laid_fingerpost_api_ErrOrder), ("fingerpost/api.ErrSum", laid_fingerpost_api_ErrSum)], narrowed := true }
def FrameBitsUptoSaid : Prop := frameBitsUptoRow.holds Tryd.pinned (OpenSpec.upto frameBitsSpec)

/-- 'fingerpostlaw3.RingPlays', WHERE WHAT IT READS IS OF BULK AT MOST 1048576: true; the input reads as it did. -/
def ringPlaysUptoRow : OpenClaim := { program := "ytmdcjfgdmmncpaadoor", sum := "373b5c051ba3577e12fb8a4fd071ce08648b26c0843922702b4048dc9b16a5f2", func := "fingerpost/fingerpostlaw3.RingPlays", spec := "ringPlays", inPlace := ["internal/reflectlite.ValueOf", "(internal/reflectlite.Value).Type", "(internal/reflectlite.Value).IsNil", "internal/reflectlite.TypeOf", "(internal/reflectlite.Value).Elem", "(internal/reflectlite.Value).Set"], unfollowed := true, recurses := true, named := ["fingerpost/api.ErrBound", "fingerpost/api.ErrText", "fingerpost/api.ErrShape", "fingerpost/api.ErrKind", "fingerpost/api.ErrName", "fingerpost/api.ErrNone", "fingerpost/api.ErrExist", "fingerpost/api.ErrFull", "fingerpost/api.ErrArgs", "fingerpost/api.ErrOrder", "fingerpost/api.ErrSum", "errors.errorType"], apart := false, laid := [("errors.errorType", laid_errors_errorType), ("fingerpost/api.ErrText", laid_fingerpost_api_ErrText), ("fingerpost/api.ErrBound", laid_fingerpost_api_ErrBound), ("fingerpost/api.ErrShape", laid_fingerpost_api_ErrShape), ("fingerpost/api.ErrKind", laid_fingerpost_api_ErrKind), ("fingerpost/api.ErrName", laid_fingerpost_api_ErrName), ("fingerpost/api.ErrNone", laid_fingerpost_api_ErrNone), ("fingerpost/api.ErrExist", laid_fingerpost_api_ErrExist), ("fingerpost/api.ErrFull", laid_fingerpost_api_ErrFull), ("fingerpost/api.ErrArgs", laid_fingerpost_api_ErrArgs), ("fingerpost/api.ErrOrder", laid_fingerpost_api_ErrOrder), ("fingerpost/api.ErrSum", laid_fingerpost_api_ErrSum)], narrowed := true }
def RingPlaysUptoSaid : Prop := ringPlaysUptoRow.holds Tryd.pinned (OpenSpec.upto ringPlaysSpec)

/-- 'fingerpostlaw3.LinkActs', WHERE WHAT IT READS IS OF BULK AT MOST 1048576: true; the input reads as it did. -/
def linkActsUptoRow : OpenClaim := { program := "ytmdcjfgdmmncpaadoor", sum := "373b5c051ba3577e12fb8a4fd071ce08648b26c0843922702b4048dc9b16a5f2", func := "fingerpost/fingerpostlaw3.LinkActs", spec := "linkActs", inPlace := ["internal/reflectlite.ValueOf", "(internal/reflectlite.Value).Type", "(internal/reflectlite.Value).IsNil", "internal/reflectlite.TypeOf", "(internal/reflectlite.Value).Elem", "(internal/reflectlite.Value).Set"], unfollowed := true, recurses := true, named := ["fingerpost/api.ErrBound", "fingerpost/api.ErrShape", "fingerpost/api.ErrKind", "fingerpost/api.ErrFull", "fingerpost/api.ErrText", "fingerpost/api.ErrName", "fingerpost/api.ErrNone", "fingerpost/api.ErrExist", "fingerpost/api.ErrArgs", "fingerpost/api.ErrOrder", "fingerpost/api.ErrSum", "errors.errorType"], apart := false, laid := [("errors.errorType", laid_errors_errorType), ("fingerpost/api.ErrText", laid_fingerpost_api_ErrText), ("fingerpost/api.ErrBound", laid_fingerpost_api_ErrBound), ("fingerpost/api.ErrShape", laid_fingerpost_api_ErrShape), ("fingerpost/api.ErrKind", laid_fingerpost_api_ErrKind), ("fingerpost/api.ErrName", laid_fingerpost_api_ErrName), ("fingerpost/api.ErrNone", laid_fingerpost_api_ErrNone), ("fingerpost/api.ErrExist", laid_fingerpost_api_ErrExist), ("fingerpost/api.ErrFull", laid_fingerpost_api_ErrFull), ("fingerpost/api.ErrArgs", laid_fingerpost_api_ErrArgs), ("fingerpost/api.ErrOrder", laid_fingerpost_api_ErrOrder), ("fingerpost/api.ErrSum", laid_fingerpost_api_ErrSum)], narrowed := true }
def LinkActsUptoSaid : Prop := linkActsUptoRow.holds Tryd.pinned (OpenSpec.upto linkActsSpec)

end Rows
end Go.Proofs.YtmdcjfgdmmncpaaDoor
