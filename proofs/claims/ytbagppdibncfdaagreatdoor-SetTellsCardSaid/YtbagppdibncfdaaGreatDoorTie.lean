/-
  DERIVED. GIVEN WITH THE SEED: THE PROGRAM's TIES (one call each: nine closed facts by the kernel) AND EACH ROW's TIE, after the 31st guide's Derived/Test/Toyas{Tie, Card}.lean. No idea stands in it: it is a product of the set-up. Laid BY PROGRAM, IN A SANDBOX (cutbox-door.mjs). By AI agents, Wed Nov 11 2026. No macro, syntax, notation, axiom, sorry.
-/
import Derived.Test.YtbagppdibncfdaaGreatDoorRows
import Derived.LaidByTextLater
import Derived.SevenTiedAt
import Derived.LaidSub
import Derived.LaidOnce
namespace Go.Proofs.YtbagppdibncfdaaGreatDoor
open Go
set_option maxRecDepth 100000
theorem seatTie1 : Tryz.prog.laidByTextLater [("math/bits.deBruijn32tab", Rows.laid_math_bits_deBruijn32tab), ("math/bits.deBruijn64tab", Rows.laid_math_bits_deBruijn64tab), ("internal/strconv.uint64pow10", Rows.laid_internal_strconv_uint64pow10), ("unicode/utf8.acceptRanges", Rows.laid_unicode_utf8_acceptRanges), ("errors.errorType", Rows.laid_errors_errorType), ("fingerpost/api.ErrText", Rows.laid_fingerpost_api_ErrText), ("fingerpost/api.ErrBound", Rows.laid_fingerpost_api_ErrBound), ("fingerpost/api.ErrShape", Rows.laid_fingerpost_api_ErrShape), ("fingerpost/api.ErrKind", Rows.laid_fingerpost_api_ErrKind), ("fingerpost/api.ErrName", Rows.laid_fingerpost_api_ErrName), ("fingerpost/api.ErrNone", Rows.laid_fingerpost_api_ErrNone), ("fingerpost/api.ErrExist", Rows.laid_fingerpost_api_ErrExist), ("fingerpost/api.ErrFull", Rows.laid_fingerpost_api_ErrFull), ("fingerpost/api.ErrArgs", Rows.laid_fingerpost_api_ErrArgs), ("fingerpost/api.ErrOrder", Rows.laid_fingerpost_api_ErrOrder), ("fingerpost/api.ErrSum", Rows.laid_fingerpost_api_ErrSum), ("strconv.ErrRange", Rows.laid_strconv_ErrRange), ("strconv.ErrSyntax", Rows.laid_strconv_ErrSyntax)] [.data, .data, .data, .data, .handle, .sentinel, .sentinel, .sentinel, .sentinel, .sentinel, .sentinel, .sentinel, .sentinel, .sentinel, .sentinel, .sentinel, .sentinel, .sentinel] true :=
  Program.laidByTextLater_by_one 288 8 65 (by kernel_rfl) (by kernel_rfl) (by kernel_rfl) (by kernel_rfl) (by kernel_rfl) (by kernel_rfl) (fun _ _ => by kernel_rfl)
theorem pin_laid_unicode_utf8_first : Tryz.pinned.checked.prog.pinnedFits "unicode/utf8.first" = true := by kernel_rfl
theorem noOwnUnsafe : Tryz.pinned.checked.prog.headLifts.contains "ownunsafe" = false := by kernel_rfl
theorem fits1 : Tryz.pinned.checked.prog.listedFits [("unicode/utf8.acceptRanges", Rows.laid_unicode_utf8_acceptRanges), ("errors.errorType", Rows.laid_errors_errorType), ("fingerpost/api.ErrText", Rows.laid_fingerpost_api_ErrText), ("fingerpost/api.ErrBound", Rows.laid_fingerpost_api_ErrBound), ("fingerpost/api.ErrShape", Rows.laid_fingerpost_api_ErrShape), ("fingerpost/api.ErrKind", Rows.laid_fingerpost_api_ErrKind), ("fingerpost/api.ErrName", Rows.laid_fingerpost_api_ErrName), ("fingerpost/api.ErrNone", Rows.laid_fingerpost_api_ErrNone), ("fingerpost/api.ErrExist", Rows.laid_fingerpost_api_ErrExist), ("fingerpost/api.ErrFull", Rows.laid_fingerpost_api_ErrFull), ("fingerpost/api.ErrArgs", Rows.laid_fingerpost_api_ErrArgs), ("fingerpost/api.ErrOrder", Rows.laid_fingerpost_api_ErrOrder), ("fingerpost/api.ErrSum", Rows.laid_fingerpost_api_ErrSum), ("unicode/utf8.first", Rows.laid_unicode_utf8_first)] = true := by
  unfold Program.listedFits
  rw [noOwnUnsafe]
  kernel_rfl
theorem tie : Tryz.prog.laidByTextLater [("unicode/utf8.acceptRanges", Rows.laid_unicode_utf8_acceptRanges), ("errors.errorType", Rows.laid_errors_errorType), ("fingerpost/api.ErrText", Rows.laid_fingerpost_api_ErrText), ("fingerpost/api.ErrBound", Rows.laid_fingerpost_api_ErrBound), ("fingerpost/api.ErrShape", Rows.laid_fingerpost_api_ErrShape), ("fingerpost/api.ErrKind", Rows.laid_fingerpost_api_ErrKind), ("fingerpost/api.ErrName", Rows.laid_fingerpost_api_ErrName), ("fingerpost/api.ErrNone", Rows.laid_fingerpost_api_ErrNone), ("fingerpost/api.ErrExist", Rows.laid_fingerpost_api_ErrExist), ("fingerpost/api.ErrFull", Rows.laid_fingerpost_api_ErrFull), ("fingerpost/api.ErrArgs", Rows.laid_fingerpost_api_ErrArgs), ("fingerpost/api.ErrOrder", Rows.laid_fingerpost_api_ErrOrder), ("fingerpost/api.ErrSum", Rows.laid_fingerpost_api_ErrSum)] [.data, .handle, .sentinel, .sentinel, .sentinel, .sentinel, .sentinel, .sentinel, .sentinel, .sentinel, .sentinel, .sentinel, .sentinel] true :=
  Program.laidByTextLater.sub seatTie1 ["unicode/utf8.acceptRanges", "errors.errorType", "fingerpost/api.ErrText", "fingerpost/api.ErrBound", "fingerpost/api.ErrShape", "fingerpost/api.ErrKind", "fingerpost/api.ErrName", "fingerpost/api.ErrNone", "fingerpost/api.ErrExist", "fingerpost/api.ErrFull", "fingerpost/api.ErrArgs", "fingerpost/api.ErrOrder", "fingerpost/api.ErrSum"] (by kernel_rfl) (by kernel_rfl)
theorem progTells_row_tie : Rows.progTellsRow.laidByTextAt .later Tryz.pinned [.data, .handle, .sentinel, .sentinel, .sentinel, .sentinel, .sentinel, .sentinel, .sentinel, .sentinel, .sentinel, .sentinel, .sentinel, .pinned] true :=
  OpenClaim.laidByTextAt_pinned rfl rfl tie rfl rfl rfl rfl (fun y hy _e => by
    simp only [Rows.progTellsRow, List.zip_cons_cons, List.zip_nil_right, List.mem_cons, List.mem_nil_iff, or_false] at hy
    rcases hy with rfl | rfl | rfl | rfl | rfl | rfl | rfl | rfl | rfl | rfl | rfl | rfl | rfl | rfl
    · cases _e
    · cases _e
    · cases _e
    · cases _e
    · cases _e
    · cases _e
    · cases _e
    · cases _e
    · cases _e
    · cases _e
    · cases _e
    · cases _e
    · cases _e
    · exact ⟨pin_laid_unicode_utf8_first, by kernel_rfl⟩) fits1
theorem shardAny_row_tie : Rows.shardAnyRow.laidByTextAt .later Tryz.pinned [.data, .handle, .sentinel, .sentinel, .sentinel, .sentinel, .sentinel, .sentinel, .sentinel, .sentinel, .sentinel, .sentinel, .sentinel, .pinned] true :=
  OpenClaim.laidByTextAt_pinned rfl rfl tie rfl rfl rfl rfl (fun y hy _e => by
    simp only [Rows.shardAnyRow, List.zip_cons_cons, List.zip_nil_right, List.mem_cons, List.mem_nil_iff, or_false] at hy
    rcases hy with rfl | rfl | rfl | rfl | rfl | rfl | rfl | rfl | rfl | rfl | rfl | rfl | rfl | rfl
    · cases _e
    · cases _e
    · cases _e
    · cases _e
    · cases _e
    · cases _e
    · cases _e
    · cases _e
    · cases _e
    · cases _e
    · cases _e
    · cases _e
    · cases _e
    · exact ⟨pin_laid_unicode_utf8_first, by kernel_rfl⟩) fits1
theorem fits2 : Tryz.pinned.checked.prog.listedFits [("math/bits.deBruijn32tab", Rows.laid_math_bits_deBruijn32tab), ("math/bits.deBruijn64tab", Rows.laid_math_bits_deBruijn64tab), ("internal/strconv.uint64pow10", Rows.laid_internal_strconv_uint64pow10), ("unicode/utf8.acceptRanges", Rows.laid_unicode_utf8_acceptRanges), ("fingerpost/api.ErrText", Rows.laid_fingerpost_api_ErrText), ("fingerpost/api.ErrBound", Rows.laid_fingerpost_api_ErrBound), ("fingerpost/api.ErrOrder", Rows.laid_fingerpost_api_ErrOrder), ("strconv.ErrRange", Rows.laid_strconv_ErrRange), ("strconv.ErrSyntax", Rows.laid_strconv_ErrSyntax), ("unicode/utf8.first", Rows.laid_unicode_utf8_first)] = true := by
  unfold Program.listedFits
  rw [noOwnUnsafe]
  kernel_rfl
theorem tie2 : Tryz.prog.laidByTextLater [("math/bits.deBruijn32tab", Rows.laid_math_bits_deBruijn32tab), ("math/bits.deBruijn64tab", Rows.laid_math_bits_deBruijn64tab), ("internal/strconv.uint64pow10", Rows.laid_internal_strconv_uint64pow10), ("unicode/utf8.acceptRanges", Rows.laid_unicode_utf8_acceptRanges), ("fingerpost/api.ErrText", Rows.laid_fingerpost_api_ErrText), ("fingerpost/api.ErrBound", Rows.laid_fingerpost_api_ErrBound), ("fingerpost/api.ErrOrder", Rows.laid_fingerpost_api_ErrOrder), ("strconv.ErrRange", Rows.laid_strconv_ErrRange), ("strconv.ErrSyntax", Rows.laid_strconv_ErrSyntax)] [.data, .data, .data, .data, .sentinel, .sentinel, .sentinel, .sentinel, .sentinel] true :=
  Program.laidByTextLater.sub seatTie1 ["math/bits.deBruijn32tab", "math/bits.deBruijn64tab", "internal/strconv.uint64pow10", "unicode/utf8.acceptRanges", "fingerpost/api.ErrText", "fingerpost/api.ErrBound", "fingerpost/api.ErrOrder", "strconv.ErrRange", "strconv.ErrSyntax"] (by kernel_rfl) (by kernel_rfl)
theorem setLaws_row_tie : Rows.setLawsRow.laidByTextAt .later Tryz.pinned [.data, .data, .data, .data, .sentinel, .sentinel, .sentinel, .sentinel, .sentinel, .pinned] true :=
  OpenClaim.laidByTextAt_pinned rfl rfl tie2 rfl rfl rfl rfl (fun y hy _e => by
    simp only [Rows.setLawsRow, List.zip_cons_cons, List.zip_nil_right, List.mem_cons, List.mem_nil_iff, or_false] at hy
    rcases hy with rfl | rfl | rfl | rfl | rfl | rfl | rfl | rfl | rfl | rfl
    · cases _e
    · cases _e
    · cases _e
    · cases _e
    · cases _e
    · cases _e
    · cases _e
    · cases _e
    · cases _e
    · exact ⟨pin_laid_unicode_utf8_first, by kernel_rfl⟩) fits2
theorem fits3 : Tryz.pinned.checked.prog.listedFits [("math/bits.deBruijn32tab", Rows.laid_math_bits_deBruijn32tab), ("math/bits.deBruijn64tab", Rows.laid_math_bits_deBruijn64tab), ("internal/strconv.uint64pow10", Rows.laid_internal_strconv_uint64pow10), ("unicode/utf8.acceptRanges", Rows.laid_unicode_utf8_acceptRanges), ("errors.errorType", Rows.laid_errors_errorType), ("fingerpost/api.ErrText", Rows.laid_fingerpost_api_ErrText), ("fingerpost/api.ErrBound", Rows.laid_fingerpost_api_ErrBound), ("fingerpost/api.ErrShape", Rows.laid_fingerpost_api_ErrShape), ("fingerpost/api.ErrKind", Rows.laid_fingerpost_api_ErrKind), ("fingerpost/api.ErrName", Rows.laid_fingerpost_api_ErrName), ("fingerpost/api.ErrNone", Rows.laid_fingerpost_api_ErrNone), ("fingerpost/api.ErrExist", Rows.laid_fingerpost_api_ErrExist), ("fingerpost/api.ErrFull", Rows.laid_fingerpost_api_ErrFull), ("fingerpost/api.ErrArgs", Rows.laid_fingerpost_api_ErrArgs), ("fingerpost/api.ErrOrder", Rows.laid_fingerpost_api_ErrOrder), ("fingerpost/api.ErrSum", Rows.laid_fingerpost_api_ErrSum), ("strconv.ErrRange", Rows.laid_strconv_ErrRange), ("strconv.ErrSyntax", Rows.laid_strconv_ErrSyntax), ("unicode/utf8.first", Rows.laid_unicode_utf8_first)] = true := by
  unfold Program.listedFits
  rw [noOwnUnsafe]
  kernel_rfl
theorem tie3 : Tryz.prog.laidByTextLater [("math/bits.deBruijn32tab", Rows.laid_math_bits_deBruijn32tab), ("math/bits.deBruijn64tab", Rows.laid_math_bits_deBruijn64tab), ("internal/strconv.uint64pow10", Rows.laid_internal_strconv_uint64pow10), ("unicode/utf8.acceptRanges", Rows.laid_unicode_utf8_acceptRanges), ("errors.errorType", Rows.laid_errors_errorType), ("fingerpost/api.ErrText", Rows.laid_fingerpost_api_ErrText), ("fingerpost/api.ErrBound", Rows.laid_fingerpost_api_ErrBound), ("fingerpost/api.ErrShape", Rows.laid_fingerpost_api_ErrShape), ("fingerpost/api.ErrKind", Rows.laid_fingerpost_api_ErrKind), ("fingerpost/api.ErrName", Rows.laid_fingerpost_api_ErrName), ("fingerpost/api.ErrNone", Rows.laid_fingerpost_api_ErrNone), ("fingerpost/api.ErrExist", Rows.laid_fingerpost_api_ErrExist), ("fingerpost/api.ErrFull", Rows.laid_fingerpost_api_ErrFull), ("fingerpost/api.ErrArgs", Rows.laid_fingerpost_api_ErrArgs), ("fingerpost/api.ErrOrder", Rows.laid_fingerpost_api_ErrOrder), ("fingerpost/api.ErrSum", Rows.laid_fingerpost_api_ErrSum), ("strconv.ErrRange", Rows.laid_strconv_ErrRange), ("strconv.ErrSyntax", Rows.laid_strconv_ErrSyntax)] [.data, .data, .data, .data, .handle, .sentinel, .sentinel, .sentinel, .sentinel, .sentinel, .sentinel, .sentinel, .sentinel, .sentinel, .sentinel, .sentinel, .sentinel, .sentinel] true :=
  Program.laidByTextLater.sub seatTie1 ["math/bits.deBruijn32tab", "math/bits.deBruijn64tab", "internal/strconv.uint64pow10", "unicode/utf8.acceptRanges", "errors.errorType", "fingerpost/api.ErrText", "fingerpost/api.ErrBound", "fingerpost/api.ErrShape", "fingerpost/api.ErrKind", "fingerpost/api.ErrName", "fingerpost/api.ErrNone", "fingerpost/api.ErrExist", "fingerpost/api.ErrFull", "fingerpost/api.ErrArgs", "fingerpost/api.ErrOrder", "fingerpost/api.ErrSum", "strconv.ErrRange", "strconv.ErrSyntax"] (by kernel_rfl) (by kernel_rfl)
theorem setTells_row_tie : Rows.setTellsRow.laidByTextAt .later Tryz.pinned [.data, .data, .data, .data, .handle, .sentinel, .sentinel, .sentinel, .sentinel, .sentinel, .sentinel, .sentinel, .sentinel, .sentinel, .sentinel, .sentinel, .sentinel, .sentinel, .pinned] true :=
  OpenClaim.laidByTextAt_pinned rfl rfl tie3 rfl rfl rfl rfl (fun y hy _e => by
    simp only [Rows.setTellsRow, List.zip_cons_cons, List.zip_nil_right, List.mem_cons, List.mem_nil_iff, or_false] at hy
    rcases hy with rfl | rfl | rfl | rfl | rfl | rfl | rfl | rfl | rfl | rfl | rfl | rfl | rfl | rfl | rfl | rfl | rfl | rfl | rfl
    · cases _e
    · cases _e
    · cases _e
    · cases _e
    · cases _e
    · cases _e
    · cases _e
    · cases _e
    · cases _e
    · cases _e
    · cases _e
    · cases _e
    · cases _e
    · cases _e
    · cases _e
    · cases _e
    · cases _e
    · cases _e
    · exact ⟨pin_laid_unicode_utf8_first, by kernel_rfl⟩) fits3
theorem progTellsUpto_row_tie : Rows.progTellsUptoRow.laidByTextAt .later Tryz.pinned [.data, .handle, .sentinel, .sentinel, .sentinel, .sentinel, .sentinel, .sentinel, .sentinel, .sentinel, .sentinel, .sentinel, .sentinel, .pinned] true :=
  OpenClaim.laidByTextAt_pinned rfl rfl tie rfl rfl rfl rfl (fun y hy _e => by
    simp only [Rows.progTellsUptoRow, List.zip_cons_cons, List.zip_nil_right, List.mem_cons, List.mem_nil_iff, or_false] at hy
    rcases hy with rfl | rfl | rfl | rfl | rfl | rfl | rfl | rfl | rfl | rfl | rfl | rfl | rfl | rfl
    · cases _e
    · cases _e
    · cases _e
    · cases _e
    · cases _e
    · cases _e
    · cases _e
    · cases _e
    · cases _e
    · cases _e
    · cases _e
    · cases _e
    · cases _e
    · exact ⟨pin_laid_unicode_utf8_first, by kernel_rfl⟩) fits1
theorem shardAnyUpto_row_tie : Rows.shardAnyUptoRow.laidByTextAt .later Tryz.pinned [.data, .handle, .sentinel, .sentinel, .sentinel, .sentinel, .sentinel, .sentinel, .sentinel, .sentinel, .sentinel, .sentinel, .sentinel, .pinned] true :=
  OpenClaim.laidByTextAt_pinned rfl rfl tie rfl rfl rfl rfl (fun y hy _e => by
    simp only [Rows.shardAnyUptoRow, List.zip_cons_cons, List.zip_nil_right, List.mem_cons, List.mem_nil_iff, or_false] at hy
    rcases hy with rfl | rfl | rfl | rfl | rfl | rfl | rfl | rfl | rfl | rfl | rfl | rfl | rfl | rfl
    · cases _e
    · cases _e
    · cases _e
    · cases _e
    · cases _e
    · cases _e
    · cases _e
    · cases _e
    · cases _e
    · cases _e
    · cases _e
    · cases _e
    · cases _e
    · exact ⟨pin_laid_unicode_utf8_first, by kernel_rfl⟩) fits1
theorem setLawsUpto_row_tie : Rows.setLawsUptoRow.laidByTextAt .later Tryz.pinned [.data, .data, .data, .data, .sentinel, .sentinel, .sentinel, .sentinel, .sentinel, .pinned] true :=
  OpenClaim.laidByTextAt_pinned rfl rfl tie2 rfl rfl rfl rfl (fun y hy _e => by
    simp only [Rows.setLawsUptoRow, List.zip_cons_cons, List.zip_nil_right, List.mem_cons, List.mem_nil_iff, or_false] at hy
    rcases hy with rfl | rfl | rfl | rfl | rfl | rfl | rfl | rfl | rfl | rfl
    · cases _e
    · cases _e
    · cases _e
    · cases _e
    · cases _e
    · cases _e
    · cases _e
    · cases _e
    · cases _e
    · exact ⟨pin_laid_unicode_utf8_first, by kernel_rfl⟩) fits2
theorem setTellsUpto_row_tie : Rows.setTellsUptoRow.laidByTextAt .later Tryz.pinned [.data, .data, .data, .data, .handle, .sentinel, .sentinel, .sentinel, .sentinel, .sentinel, .sentinel, .sentinel, .sentinel, .sentinel, .sentinel, .sentinel, .sentinel, .sentinel, .pinned] true :=
  OpenClaim.laidByTextAt_pinned rfl rfl tie3 rfl rfl rfl rfl (fun y hy _e => by
    simp only [Rows.setTellsUptoRow, List.zip_cons_cons, List.zip_nil_right, List.mem_cons, List.mem_nil_iff, or_false] at hy
    rcases hy with rfl | rfl | rfl | rfl | rfl | rfl | rfl | rfl | rfl | rfl | rfl | rfl | rfl | rfl | rfl | rfl | rfl | rfl | rfl
    · cases _e
    · cases _e
    · cases _e
    · cases _e
    · cases _e
    · cases _e
    · cases _e
    · cases _e
    · cases _e
    · cases _e
    · cases _e
    · cases _e
    · cases _e
    · cases _e
    · cases _e
    · cases _e
    · cases _e
    · cases _e
    · exact ⟨pin_laid_unicode_utf8_first, by kernel_rfl⟩) fits3
end Go.Proofs.YtbagppdibncfdaaGreatDoor
