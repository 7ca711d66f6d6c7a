/-
  DERIVED. GIVEN WITH THE SEED: THE PROGRAM's TIES (one call each: nine closed facts by the kernel) AND EACH ROW's TIE, after the 31st guide's Derived/Test/Toyas{Tie, Card}.lean. No idea stands in it: it is a product of the set-up. Laid BY PROGRAM, IN A SANDBOX (cutbox-door.mjs). By AI agents, Wed Nov 11 2026. No macro, syntax, notation, axiom, sorry.
-/
import Derived.Test.YtmdcjfgdmmncpaaDoorRows
import Derived.LaidByTextLater
import Derived.SevenTiedAt
import Derived.LaidSub
import Derived.LaidOnce
namespace Go.Proofs.YtmdcjfgdmmncpaaDoor
open Go
set_option maxRecDepth 100000
theorem seatTie1 : Tryd.prog.laidByTextLater [("errors.errorType", Rows.laid_errors_errorType), ("fingerpost/api.ErrText", Rows.laid_fingerpost_api_ErrText), ("fingerpost/api.ErrBound", Rows.laid_fingerpost_api_ErrBound), ("fingerpost/api.ErrShape", Rows.laid_fingerpost_api_ErrShape), ("fingerpost/api.ErrKind", Rows.laid_fingerpost_api_ErrKind), ("fingerpost/api.ErrName", Rows.laid_fingerpost_api_ErrName), ("fingerpost/api.ErrNone", Rows.laid_fingerpost_api_ErrNone), ("fingerpost/api.ErrExist", Rows.laid_fingerpost_api_ErrExist), ("fingerpost/api.ErrFull", Rows.laid_fingerpost_api_ErrFull), ("fingerpost/api.ErrArgs", Rows.laid_fingerpost_api_ErrArgs), ("fingerpost/api.ErrOrder", Rows.laid_fingerpost_api_ErrOrder), ("fingerpost/api.ErrSum", Rows.laid_fingerpost_api_ErrSum)] [.handle, .sentinel, .sentinel, .sentinel, .sentinel, .sentinel, .sentinel, .sentinel, .sentinel, .sentinel, .sentinel, .sentinel] true :=
  Program.laidByTextLater_by_one 225 8 2 (by kernel_rfl) (by kernel_rfl) (by kernel_rfl) (by kernel_rfl) (by kernel_rfl) (by kernel_rfl) (fun _ _ => by kernel_rfl)
theorem noOwnUnsafe : Tryd.pinned.checked.prog.headLifts.contains "ownunsafe" = false := by kernel_rfl
theorem tie : Tryd.prog.laidByTextLater [("fingerpost/api.ErrText", Rows.laid_fingerpost_api_ErrText), ("fingerpost/api.ErrBound", Rows.laid_fingerpost_api_ErrBound), ("fingerpost/api.ErrShape", Rows.laid_fingerpost_api_ErrShape), ("fingerpost/api.ErrKind", Rows.laid_fingerpost_api_ErrKind), ("fingerpost/api.ErrFull", Rows.laid_fingerpost_api_ErrFull), ("fingerpost/api.ErrSum", Rows.laid_fingerpost_api_ErrSum)] [.sentinel, .sentinel, .sentinel, .sentinel, .sentinel, .sentinel] true :=
  Program.laidByTextLater.sub seatTie1 ["fingerpost/api.ErrText", "fingerpost/api.ErrBound", "fingerpost/api.ErrShape", "fingerpost/api.ErrKind", "fingerpost/api.ErrFull", "fingerpost/api.ErrSum"] (by kernel_rfl) (by kernel_rfl)
theorem frameApart_row_tie : Rows.frameApartRow.laidByTextAt .later Tryd.pinned [.sentinel, .sentinel, .sentinel, .sentinel, .sentinel, .sentinel] true :=
  OpenClaim.laidByTextAt_later rfl rfl tie noOwnUnsafe
theorem tie2 : Tryd.prog.laidByTextLater [("fingerpost/api.ErrBound", Rows.laid_fingerpost_api_ErrBound)] [.sentinel] true :=
  Program.laidByTextLater.sub seatTie1 ["fingerpost/api.ErrBound"] (by kernel_rfl) (by kernel_rfl)
theorem ringOver_row_tie : Rows.ringOverRow.laidByTextAt .later Tryd.pinned [.sentinel] true :=
  OpenClaim.laidByTextAt_later rfl rfl tie2 noOwnUnsafe
theorem ringCounts_row_tie : Rows.ringCountsRow.laidByTextAt .later Tryd.pinned [.sentinel] true :=
  OpenClaim.laidByTextAt_later rfl rfl tie2 noOwnUnsafe
theorem tie3 : Tryd.prog.laidByTextLater [("fingerpost/api.ErrBound", Rows.laid_fingerpost_api_ErrBound), ("fingerpost/api.ErrShape", Rows.laid_fingerpost_api_ErrShape), ("fingerpost/api.ErrKind", Rows.laid_fingerpost_api_ErrKind), ("fingerpost/api.ErrFull", Rows.laid_fingerpost_api_ErrFull)] [.sentinel, .sentinel, .sentinel, .sentinel] true :=
  Program.laidByTextLater.sub seatTie1 ["fingerpost/api.ErrBound", "fingerpost/api.ErrShape", "fingerpost/api.ErrKind", "fingerpost/api.ErrFull"] (by kernel_rfl) (by kernel_rfl)
theorem linkOnce_row_tie : Rows.linkOnceRow.laidByTextAt .later Tryd.pinned [.sentinel, .sentinel, .sentinel, .sentinel] true :=
  OpenClaim.laidByTextAt_later rfl rfl tie3 noOwnUnsafe
theorem linkTicks_row_tie : Rows.linkTicksRow.laidByTextAt .later Tryd.pinned [.sentinel, .sentinel, .sentinel, .sentinel] true :=
  OpenClaim.laidByTextAt_later rfl rfl tie3 noOwnUnsafe
theorem tie4 : Tryd.prog.laidByTextLater [("errors.errorType", Rows.laid_errors_errorType), ("fingerpost/api.ErrText", Rows.laid_fingerpost_api_ErrText), ("fingerpost/api.ErrBound", Rows.laid_fingerpost_api_ErrBound), ("fingerpost/api.ErrShape", Rows.laid_fingerpost_api_ErrShape), ("fingerpost/api.ErrKind", Rows.laid_fingerpost_api_ErrKind), ("fingerpost/api.ErrName", Rows.laid_fingerpost_api_ErrName), ("fingerpost/api.ErrNone", Rows.laid_fingerpost_api_ErrNone), ("fingerpost/api.ErrExist", Rows.laid_fingerpost_api_ErrExist), ("fingerpost/api.ErrFull", Rows.laid_fingerpost_api_ErrFull), ("fingerpost/api.ErrArgs", Rows.laid_fingerpost_api_ErrArgs), ("fingerpost/api.ErrOrder", Rows.laid_fingerpost_api_ErrOrder), ("fingerpost/api.ErrSum", Rows.laid_fingerpost_api_ErrSum)] [.handle, .sentinel, .sentinel, .sentinel, .sentinel, .sentinel, .sentinel, .sentinel, .sentinel, .sentinel, .sentinel, .sentinel] true :=
  Program.laidByTextLater.sub seatTie1 ["errors.errorType", "fingerpost/api.ErrText", "fingerpost/api.ErrBound", "fingerpost/api.ErrShape", "fingerpost/api.ErrKind", "fingerpost/api.ErrName", "fingerpost/api.ErrNone", "fingerpost/api.ErrExist", "fingerpost/api.ErrFull", "fingerpost/api.ErrArgs", "fingerpost/api.ErrOrder", "fingerpost/api.ErrSum"] (by kernel_rfl) (by kernel_rfl)
theorem names_row_tie : Rows.namesRow.laidByTextAt .later Tryd.pinned [.handle, .sentinel, .sentinel, .sentinel, .sentinel, .sentinel, .sentinel, .sentinel, .sentinel, .sentinel, .sentinel, .sentinel] true :=
  OpenClaim.laidByTextAt_later rfl rfl tie4 noOwnUnsafe
theorem frameTells_row_tie : Rows.frameTellsRow.laidByTextAt .later Tryd.pinned [.handle, .sentinel, .sentinel, .sentinel, .sentinel, .sentinel, .sentinel, .sentinel, .sentinel, .sentinel, .sentinel, .sentinel] true :=
  OpenClaim.laidByTextAt_later rfl rfl tie4 noOwnUnsafe
theorem frameBits_row_tie : Rows.frameBitsRow.laidByTextAt .later Tryd.pinned [.handle, .sentinel, .sentinel, .sentinel, .sentinel, .sentinel, .sentinel, .sentinel, .sentinel, .sentinel, .sentinel, .sentinel] true :=
  OpenClaim.laidByTextAt_later rfl rfl tie4 noOwnUnsafe
theorem ringPlays_row_tie : Rows.ringPlaysRow.laidByTextAt .later Tryd.pinned [.handle, .sentinel, .sentinel, .sentinel, .sentinel, .sentinel, .sentinel, .sentinel, .sentinel, .sentinel, .sentinel, .sentinel] true :=
  OpenClaim.laidByTextAt_later rfl rfl tie4 noOwnUnsafe
theorem linkActs_row_tie : Rows.linkActsRow.laidByTextAt .later Tryd.pinned [.handle, .sentinel, .sentinel, .sentinel, .sentinel, .sentinel, .sentinel, .sentinel, .sentinel, .sentinel, .sentinel, .sentinel] true :=
  OpenClaim.laidByTextAt_later rfl rfl tie4 noOwnUnsafe
theorem frameApartUpto_row_tie : Rows.frameApartUptoRow.laidByTextAt .later Tryd.pinned [.sentinel, .sentinel, .sentinel, .sentinel, .sentinel, .sentinel] true :=
  OpenClaim.laidByTextAt_later rfl rfl tie noOwnUnsafe
theorem ringOverUpto_row_tie : Rows.ringOverUptoRow.laidByTextAt .later Tryd.pinned [.sentinel] true :=
  OpenClaim.laidByTextAt_later rfl rfl tie2 noOwnUnsafe
theorem ringCountsUpto_row_tie : Rows.ringCountsUptoRow.laidByTextAt .later Tryd.pinned [.sentinel] true :=
  OpenClaim.laidByTextAt_later rfl rfl tie2 noOwnUnsafe
theorem linkOnceUpto_row_tie : Rows.linkOnceUptoRow.laidByTextAt .later Tryd.pinned [.sentinel, .sentinel, .sentinel, .sentinel] true :=
  OpenClaim.laidByTextAt_later rfl rfl tie3 noOwnUnsafe
theorem linkTicksUpto_row_tie : Rows.linkTicksUptoRow.laidByTextAt .later Tryd.pinned [.sentinel, .sentinel, .sentinel, .sentinel] true :=
  OpenClaim.laidByTextAt_later rfl rfl tie3 noOwnUnsafe
theorem namesUpto_row_tie : Rows.namesUptoRow.laidByTextAt .later Tryd.pinned [.handle, .sentinel, .sentinel, .sentinel, .sentinel, .sentinel, .sentinel, .sentinel, .sentinel, .sentinel, .sentinel, .sentinel] true :=
  OpenClaim.laidByTextAt_later rfl rfl tie4 noOwnUnsafe
theorem frameTellsUpto_row_tie : Rows.frameTellsUptoRow.laidByTextAt .later Tryd.pinned [.handle, .sentinel, .sentinel, .sentinel, .sentinel, .sentinel, .sentinel, .sentinel, .sentinel, .sentinel, .sentinel, .sentinel] true :=
  OpenClaim.laidByTextAt_later rfl rfl tie4 noOwnUnsafe
theorem frameBitsUpto_row_tie : Rows.frameBitsUptoRow.laidByTextAt .later Tryd.pinned [.handle, .sentinel, .sentinel, .sentinel, .sentinel, .sentinel, .sentinel, .sentinel, .sentinel, .sentinel, .sentinel, .sentinel] true :=
  OpenClaim.laidByTextAt_later rfl rfl tie4 noOwnUnsafe
theorem ringPlaysUpto_row_tie : Rows.ringPlaysUptoRow.laidByTextAt .later Tryd.pinned [.handle, .sentinel, .sentinel, .sentinel, .sentinel, .sentinel, .sentinel, .sentinel, .sentinel, .sentinel, .sentinel, .sentinel] true :=
  OpenClaim.laidByTextAt_later rfl rfl tie4 noOwnUnsafe
theorem linkActsUpto_row_tie : Rows.linkActsUptoRow.laidByTextAt .later Tryd.pinned [.handle, .sentinel, .sentinel, .sentinel, .sentinel, .sentinel, .sentinel, .sentinel, .sentinel, .sentinel, .sentinel, .sentinel] true :=
  OpenClaim.laidByTextAt_later rfl rfl tie4 noOwnUnsafe
end Go.Proofs.YtmdcjfgdmmncpaaDoor
