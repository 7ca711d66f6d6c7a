/-
  DERIVED. GIVEN WITH THE SEED: THE PROGRAM's TIES (one call each: nine closed facts by the kernel) AND EACH ROW's TIE, after the 31st guide's Derived/Test/Toyas{Tie, Card}.lean. No idea stands in it: it is a product of the set-up. Laid BY PROGRAM, IN A SANDBOX (cutbox-door.mjs). By AI agents, Wed Nov 11 2026. No macro, syntax, notation, axiom, sorry.
-/
import Derived.Test.YtihdpijgngooaaaGreatDoorRows
import Derived.LaidByTextLater
import Derived.SevenTiedAt
import Derived.LaidSub
import Derived.LaidOnce
namespace Go.Proofs.YtihdpijgngooaaaGreatDoor
open Go
set_option maxRecDepth 100000
theorem seatTie1 : Tryz.prog.laidByTextLater [("unicode/utf8.acceptRanges", Rows.laid_unicode_utf8_acceptRanges), ("errors.errorType", Rows.laid_errors_errorType), ("fingerpost/api.ErrText", Rows.laid_fingerpost_api_ErrText), ("fingerpost/api.ErrBound", Rows.laid_fingerpost_api_ErrBound), ("fingerpost/api.ErrShape", Rows.laid_fingerpost_api_ErrShape), ("fingerpost/api.ErrKind", Rows.laid_fingerpost_api_ErrKind), ("fingerpost/api.ErrName", Rows.laid_fingerpost_api_ErrName), ("fingerpost/api.ErrNone", Rows.laid_fingerpost_api_ErrNone), ("fingerpost/api.ErrExist", Rows.laid_fingerpost_api_ErrExist), ("fingerpost/api.ErrFull", Rows.laid_fingerpost_api_ErrFull), ("fingerpost/api.ErrArgs", Rows.laid_fingerpost_api_ErrArgs), ("fingerpost/api.ErrOrder", Rows.laid_fingerpost_api_ErrOrder), ("fingerpost/api.ErrSum", Rows.laid_fingerpost_api_ErrSum)] [.data, .handle, .sentinel, .sentinel, .sentinel, .sentinel, .sentinel, .sentinel, .sentinel, .sentinel, .sentinel, .sentinel, .sentinel] true :=
  Program.laidByTextLater_by_one 235 8 33 (by kernel_rfl) (by kernel_rfl) (by kernel_rfl) (by kernel_rfl) (by kernel_rfl) (by kernel_rfl) (fun _ _ => by kernel_rfl)
theorem pin_laid_unicode_utf8_first : Tryz.pinned.checked.prog.pinnedFits "unicode/utf8.first" = true := by kernel_rfl
theorem noOwnUnsafe : Tryz.pinned.checked.prog.headLifts.contains "ownunsafe" = false := by kernel_rfl
theorem fits1 : Tryz.pinned.checked.prog.listedFits [("unicode/utf8.acceptRanges", Rows.laid_unicode_utf8_acceptRanges), ("fingerpost/api.ErrBound", Rows.laid_fingerpost_api_ErrBound), ("fingerpost/api.ErrShape", Rows.laid_fingerpost_api_ErrShape), ("fingerpost/api.ErrKind", Rows.laid_fingerpost_api_ErrKind), ("fingerpost/api.ErrName", Rows.laid_fingerpost_api_ErrName), ("fingerpost/api.ErrExist", Rows.laid_fingerpost_api_ErrExist), ("fingerpost/api.ErrFull", Rows.laid_fingerpost_api_ErrFull), ("fingerpost/api.ErrArgs", Rows.laid_fingerpost_api_ErrArgs), ("unicode/utf8.first", Rows.laid_unicode_utf8_first)] = true := by
  unfold Program.listedFits
  rw [noOwnUnsafe]
  kernel_rfl
theorem tie : Tryz.prog.laidByTextLater [("unicode/utf8.acceptRanges", Rows.laid_unicode_utf8_acceptRanges), ("fingerpost/api.ErrBound", Rows.laid_fingerpost_api_ErrBound), ("fingerpost/api.ErrShape", Rows.laid_fingerpost_api_ErrShape), ("fingerpost/api.ErrKind", Rows.laid_fingerpost_api_ErrKind), ("fingerpost/api.ErrName", Rows.laid_fingerpost_api_ErrName), ("fingerpost/api.ErrExist", Rows.laid_fingerpost_api_ErrExist), ("fingerpost/api.ErrFull", Rows.laid_fingerpost_api_ErrFull), ("fingerpost/api.ErrArgs", Rows.laid_fingerpost_api_ErrArgs)] [.data, .sentinel, .sentinel, .sentinel, .sentinel, .sentinel, .sentinel, .sentinel] true :=
  Program.laidByTextLater.sub seatTie1 ["unicode/utf8.acceptRanges", "fingerpost/api.ErrBound", "fingerpost/api.ErrShape", "fingerpost/api.ErrKind", "fingerpost/api.ErrName", "fingerpost/api.ErrExist", "fingerpost/api.ErrFull", "fingerpost/api.ErrArgs"] (by kernel_rfl) (by kernel_rfl)
theorem shardAlone_row_tie : Rows.shardAloneRow.laidByTextAt .later Tryz.pinned [.data, .sentinel, .sentinel, .sentinel, .sentinel, .sentinel, .sentinel, .sentinel, .pinned] true :=
  OpenClaim.laidByTextAt_pinned rfl rfl tie rfl rfl rfl rfl (fun y hy _e => by
    simp only [Rows.shardAloneRow, List.zip_cons_cons, List.zip_nil_right, List.mem_cons, List.mem_nil_iff, or_false] at hy
    rcases hy with rfl | rfl | rfl | rfl | rfl | rfl | rfl | rfl | rfl
    · cases _e
    · cases _e
    · cases _e
    · cases _e
    · cases _e
    · cases _e
    · cases _e
    · cases _e
    · exact ⟨pin_laid_unicode_utf8_first, by kernel_rfl⟩) fits1
theorem fits2 : Tryz.pinned.checked.prog.listedFits [("unicode/utf8.acceptRanges", Rows.laid_unicode_utf8_acceptRanges), ("errors.errorType", Rows.laid_errors_errorType), ("fingerpost/api.ErrText", Rows.laid_fingerpost_api_ErrText), ("fingerpost/api.ErrBound", Rows.laid_fingerpost_api_ErrBound), ("fingerpost/api.ErrShape", Rows.laid_fingerpost_api_ErrShape), ("fingerpost/api.ErrKind", Rows.laid_fingerpost_api_ErrKind), ("fingerpost/api.ErrName", Rows.laid_fingerpost_api_ErrName), ("fingerpost/api.ErrNone", Rows.laid_fingerpost_api_ErrNone), ("fingerpost/api.ErrExist", Rows.laid_fingerpost_api_ErrExist), ("fingerpost/api.ErrFull", Rows.laid_fingerpost_api_ErrFull), ("fingerpost/api.ErrArgs", Rows.laid_fingerpost_api_ErrArgs), ("fingerpost/api.ErrOrder", Rows.laid_fingerpost_api_ErrOrder), ("fingerpost/api.ErrSum", Rows.laid_fingerpost_api_ErrSum), ("unicode/utf8.first", Rows.laid_unicode_utf8_first)] = true := by
  unfold Program.listedFits
  rw [noOwnUnsafe]
  kernel_rfl
theorem tie2 : Tryz.prog.laidByTextLater [("unicode/utf8.acceptRanges", Rows.laid_unicode_utf8_acceptRanges), ("errors.errorType", Rows.laid_errors_errorType), ("fingerpost/api.ErrText", Rows.laid_fingerpost_api_ErrText), ("fingerpost/api.ErrBound", Rows.laid_fingerpost_api_ErrBound), ("fingerpost/api.ErrShape", Rows.laid_fingerpost_api_ErrShape), ("fingerpost/api.ErrKind", Rows.laid_fingerpost_api_ErrKind), ("fingerpost/api.ErrName", Rows.laid_fingerpost_api_ErrName), ("fingerpost/api.ErrNone", Rows.laid_fingerpost_api_ErrNone), ("fingerpost/api.ErrExist", Rows.laid_fingerpost_api_ErrExist), ("fingerpost/api.ErrFull", Rows.laid_fingerpost_api_ErrFull), ("fingerpost/api.ErrArgs", Rows.laid_fingerpost_api_ErrArgs), ("fingerpost/api.ErrOrder", Rows.laid_fingerpost_api_ErrOrder), ("fingerpost/api.ErrSum", Rows.laid_fingerpost_api_ErrSum)] [.data, .handle, .sentinel, .sentinel, .sentinel, .sentinel, .sentinel, .sentinel, .sentinel, .sentinel, .sentinel, .sentinel, .sentinel] true :=
  Program.laidByTextLater.sub seatTie1 ["unicode/utf8.acceptRanges", "errors.errorType", "fingerpost/api.ErrText", "fingerpost/api.ErrBound", "fingerpost/api.ErrShape", "fingerpost/api.ErrKind", "fingerpost/api.ErrName", "fingerpost/api.ErrNone", "fingerpost/api.ErrExist", "fingerpost/api.ErrFull", "fingerpost/api.ErrArgs", "fingerpost/api.ErrOrder", "fingerpost/api.ErrSum"] (by kernel_rfl) (by kernel_rfl)
theorem shardTakes_row_tie : Rows.shardTakesRow.laidByTextAt .later Tryz.pinned [.data, .handle, .sentinel, .sentinel, .sentinel, .sentinel, .sentinel, .sentinel, .sentinel, .sentinel, .sentinel, .sentinel, .sentinel, .pinned] true :=
  OpenClaim.laidByTextAt_pinned rfl rfl tie2 rfl rfl rfl rfl (fun y hy _e => by
    simp only [Rows.shardTakesRow, List.zip_cons_cons, List.zip_nil_right, List.mem_cons, List.mem_nil_iff, or_false] at hy
    rcases hy with rfl | rfl | rfl | rfl | rfl | rfl | rfl | rfl | rfl | rfl | rfl | rfl | rfl | rfl
    · cases _e
    · cases _e
    · cases _e
    · cases _e
    · cases _e
    · cases _e
    · cases _e
    · cases _e
    · cases _e
    · cases _e
    · cases _e
    · cases _e
    · cases _e
    · exact ⟨pin_laid_unicode_utf8_first, by kernel_rfl⟩) fits2
theorem shardAny_row_tie : Rows.shardAnyRow.laidByTextAt .later Tryz.pinned [.data, .handle, .sentinel, .sentinel, .sentinel, .sentinel, .sentinel, .sentinel, .sentinel, .sentinel, .sentinel, .sentinel, .sentinel, .pinned] true :=
  OpenClaim.laidByTextAt_pinned rfl rfl tie2 rfl rfl rfl rfl (fun y hy _e => by
    simp only [Rows.shardAnyRow, List.zip_cons_cons, List.zip_nil_right, List.mem_cons, List.mem_nil_iff, or_false] at hy
    rcases hy with rfl | rfl | rfl | rfl | rfl | rfl | rfl | rfl | rfl | rfl | rfl | rfl | rfl | rfl
    · cases _e
    · cases _e
    · cases _e
    · cases _e
    · cases _e
    · cases _e
    · cases _e
    · cases _e
    · cases _e
    · cases _e
    · cases _e
    · cases _e
    · cases _e
    · exact ⟨pin_laid_unicode_utf8_first, by kernel_rfl⟩) fits2
theorem cycleGroups_row_tie : Rows.cycleGroupsRow.laidByTextAt .later Tryz.pinned [.data, .handle, .sentinel, .sentinel, .sentinel, .sentinel, .sentinel, .sentinel, .sentinel, .sentinel, .sentinel, .sentinel, .sentinel, .pinned] true :=
  OpenClaim.laidByTextAt_pinned rfl rfl tie2 rfl rfl rfl rfl (fun y hy _e => by
    simp only [Rows.cycleGroupsRow, List.zip_cons_cons, List.zip_nil_right, List.mem_cons, List.mem_nil_iff, or_false] at hy
    rcases hy with rfl | rfl | rfl | rfl | rfl | rfl | rfl | rfl | rfl | rfl | rfl | rfl | rfl | rfl
    · cases _e
    · cases _e
    · cases _e
    · cases _e
    · cases _e
    · cases _e
    · cases _e
    · cases _e
    · cases _e
    · cases _e
    · cases _e
    · cases _e
    · cases _e
    · exact ⟨pin_laid_unicode_utf8_first, by kernel_rfl⟩) fits2
theorem shardAloneUpto_row_tie : Rows.shardAloneUptoRow.laidByTextAt .later Tryz.pinned [.data, .sentinel, .sentinel, .sentinel, .sentinel, .sentinel, .sentinel, .sentinel, .pinned] true :=
  OpenClaim.laidByTextAt_pinned rfl rfl tie rfl rfl rfl rfl (fun y hy _e => by
    simp only [Rows.shardAloneUptoRow, List.zip_cons_cons, List.zip_nil_right, List.mem_cons, List.mem_nil_iff, or_false] at hy
    rcases hy with rfl | rfl | rfl | rfl | rfl | rfl | rfl | rfl | rfl
    · cases _e
    · cases _e
    · cases _e
    · cases _e
    · cases _e
    · cases _e
    · cases _e
    · cases _e
    · exact ⟨pin_laid_unicode_utf8_first, by kernel_rfl⟩) fits1
theorem shardTakesUpto_row_tie : Rows.shardTakesUptoRow.laidByTextAt .later Tryz.pinned [.data, .handle, .sentinel, .sentinel, .sentinel, .sentinel, .sentinel, .sentinel, .sentinel, .sentinel, .sentinel, .sentinel, .sentinel, .pinned] true :=
  OpenClaim.laidByTextAt_pinned rfl rfl tie2 rfl rfl rfl rfl (fun y hy _e => by
    simp only [Rows.shardTakesUptoRow, List.zip_cons_cons, List.zip_nil_right, List.mem_cons, List.mem_nil_iff, or_false] at hy
    rcases hy with rfl | rfl | rfl | rfl | rfl | rfl | rfl | rfl | rfl | rfl | rfl | rfl | rfl | rfl
    · cases _e
    · cases _e
    · cases _e
    · cases _e
    · cases _e
    · cases _e
    · cases _e
    · cases _e
    · cases _e
    · cases _e
    · cases _e
    · cases _e
    · cases _e
    · exact ⟨pin_laid_unicode_utf8_first, by kernel_rfl⟩) fits2
theorem shardAnyUpto_row_tie : Rows.shardAnyUptoRow.laidByTextAt .later Tryz.pinned [.data, .handle, .sentinel, .sentinel, .sentinel, .sentinel, .sentinel, .sentinel, .sentinel, .sentinel, .sentinel, .sentinel, .sentinel, .pinned] true :=
  OpenClaim.laidByTextAt_pinned rfl rfl tie2 rfl rfl rfl rfl (fun y hy _e => by
    simp only [Rows.shardAnyUptoRow, List.zip_cons_cons, List.zip_nil_right, List.mem_cons, List.mem_nil_iff, or_false] at hy
    rcases hy with rfl | rfl | rfl | rfl | rfl | rfl | rfl | rfl | rfl | rfl | rfl | rfl | rfl | rfl
    · cases _e
    · cases _e
    · cases _e
    · cases _e
    · cases _e
    · cases _e
    · cases _e
    · cases _e
    · cases _e
    · cases _e
    · cases _e
    · cases _e
    · cases _e
    · exact ⟨pin_laid_unicode_utf8_first, by kernel_rfl⟩) fits2
theorem cycleGroupsUpto_row_tie : Rows.cycleGroupsUptoRow.laidByTextAt .later Tryz.pinned [.data, .handle, .sentinel, .sentinel, .sentinel, .sentinel, .sentinel, .sentinel, .sentinel, .sentinel, .sentinel, .sentinel, .sentinel, .pinned] true :=
  OpenClaim.laidByTextAt_pinned rfl rfl tie2 rfl rfl rfl rfl (fun y hy _e => by
    simp only [Rows.cycleGroupsUptoRow, List.zip_cons_cons, List.zip_nil_right, List.mem_cons, List.mem_nil_iff, or_false] at hy
    rcases hy with rfl | rfl | rfl | rfl | rfl | rfl | rfl | rfl | rfl | rfl | rfl | rfl | rfl | rfl
    · cases _e
    · cases _e
    · cases _e
    · cases _e
    · cases _e
    · cases _e
    · cases _e
    · cases _e
    · cases _e
    · cases _e
    · cases _e
    · cases _e
    · cases _e
    · exact ⟨pin_laid_unicode_utf8_first, by kernel_rfl⟩) fits2
end Go.Proofs.YtihdpijgngooaaaGreatDoor
