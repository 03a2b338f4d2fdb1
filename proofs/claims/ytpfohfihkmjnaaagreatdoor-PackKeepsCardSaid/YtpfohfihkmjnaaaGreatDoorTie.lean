/-
  DERIVED. GIVEN WITH THE SEED: THE PROGRAM's TIES (one call each: nine closed facts by the kernel) AND EACH ROW's TIE, after the 31st guide's Derived/Test/Toyas{Tie, Card}.lean. No idea stands in it: it is a product of the set-up. Laid BY PROGRAM, IN A SANDBOX (cutbox-door.mjs). By AI agents, Wed Nov 11 2026. No macro, syntax, notation, axiom, sorry.
-/
import Derived.Test.YtpfohfihkmjnaaaGreatDoorRows
import Derived.LaidByTextLater
import Derived.SevenTiedAt
import Derived.LaidSub
import Derived.LaidOnce
namespace Go.Proofs.YtpfohfihkmjnaaaGreatDoor
open Go
set_option maxRecDepth 100000
theorem seatTie1 : Tryz.prog.laidByTextLater [("math/bits.deBruijn32tab", Rows.laid_math_bits_deBruijn32tab), ("math/bits.deBruijn64tab", Rows.laid_math_bits_deBruijn64tab), ("internal/strconv.uint64pow10", Rows.laid_internal_strconv_uint64pow10), ("unicode/utf8.acceptRanges", Rows.laid_unicode_utf8_acceptRanges), ("errors.errorType", Rows.laid_errors_errorType), ("deedbox/api.ErrText", Rows.laid_deedbox_api_ErrText), ("deedbox/api.ErrBound", Rows.laid_deedbox_api_ErrBound), ("deedbox/api.ErrShape", Rows.laid_deedbox_api_ErrShape), ("deedbox/api.ErrKind", Rows.laid_deedbox_api_ErrKind), ("deedbox/api.ErrName", Rows.laid_deedbox_api_ErrName), ("deedbox/api.ErrNone", Rows.laid_deedbox_api_ErrNone), ("deedbox/api.ErrExist", Rows.laid_deedbox_api_ErrExist), ("deedbox/api.ErrFull", Rows.laid_deedbox_api_ErrFull), ("deedbox/api.ErrOrder", Rows.laid_deedbox_api_ErrOrder), ("deedbox/api.ErrSum", Rows.laid_deedbox_api_ErrSum), ("deedbox/api.ErrStale", Rows.laid_deedbox_api_ErrStale), ("deedbox/api.ErrOff", Rows.laid_deedbox_api_ErrOff), ("strconv.ErrRange", Rows.laid_strconv_ErrRange), ("strconv.ErrSyntax", Rows.laid_strconv_ErrSyntax)] [.data, .data, .data, .data, .handle, .sentinel, .sentinel, .sentinel, .sentinel, .sentinel, .sentinel, .sentinel, .sentinel, .sentinel, .sentinel, .sentinel, .sentinel, .sentinel, .sentinel] true :=
  Program.laidByTextLater_by_one 307 8 65 (by kernel_rfl) (by kernel_rfl) (by kernel_rfl) (by kernel_rfl) (by kernel_rfl) (by kernel_rfl) (fun _ _ => by kernel_rfl)
theorem pin_laid_unicode_utf8_first : Tryz.pinned.checked.prog.pinnedFits "unicode/utf8.first" = true := by kernel_rfl
theorem noOwnUnsafe : Tryz.pinned.checked.prog.headLifts.contains "ownunsafe" = false := by kernel_rfl
theorem fits1 : Tryz.pinned.checked.prog.listedFits [("math/bits.deBruijn32tab", Rows.laid_math_bits_deBruijn32tab), ("math/bits.deBruijn64tab", Rows.laid_math_bits_deBruijn64tab), ("internal/strconv.uint64pow10", Rows.laid_internal_strconv_uint64pow10), ("unicode/utf8.acceptRanges", Rows.laid_unicode_utf8_acceptRanges), ("deedbox/api.ErrText", Rows.laid_deedbox_api_ErrText), ("deedbox/api.ErrBound", Rows.laid_deedbox_api_ErrBound), ("deedbox/api.ErrShape", Rows.laid_deedbox_api_ErrShape), ("deedbox/api.ErrKind", Rows.laid_deedbox_api_ErrKind), ("deedbox/api.ErrName", Rows.laid_deedbox_api_ErrName), ("deedbox/api.ErrNone", Rows.laid_deedbox_api_ErrNone), ("deedbox/api.ErrExist", Rows.laid_deedbox_api_ErrExist), ("deedbox/api.ErrFull", Rows.laid_deedbox_api_ErrFull), ("deedbox/api.ErrOrder", Rows.laid_deedbox_api_ErrOrder), ("deedbox/api.ErrSum", Rows.laid_deedbox_api_ErrSum), ("deedbox/api.ErrOff", Rows.laid_deedbox_api_ErrOff), ("strconv.ErrRange", Rows.laid_strconv_ErrRange), ("strconv.ErrSyntax", Rows.laid_strconv_ErrSyntax), ("unicode/utf8.first", Rows.laid_unicode_utf8_first)] = true := by
  unfold Program.listedFits
  rw [noOwnUnsafe]
  kernel_rfl
theorem tie : Tryz.prog.laidByTextLater [("math/bits.deBruijn32tab", Rows.laid_math_bits_deBruijn32tab), ("math/bits.deBruijn64tab", Rows.laid_math_bits_deBruijn64tab), ("internal/strconv.uint64pow10", Rows.laid_internal_strconv_uint64pow10), ("unicode/utf8.acceptRanges", Rows.laid_unicode_utf8_acceptRanges), ("deedbox/api.ErrText", Rows.laid_deedbox_api_ErrText), ("deedbox/api.ErrBound", Rows.laid_deedbox_api_ErrBound), ("deedbox/api.ErrShape", Rows.laid_deedbox_api_ErrShape), ("deedbox/api.ErrKind", Rows.laid_deedbox_api_ErrKind), ("deedbox/api.ErrName", Rows.laid_deedbox_api_ErrName), ("deedbox/api.ErrNone", Rows.laid_deedbox_api_ErrNone), ("deedbox/api.ErrExist", Rows.laid_deedbox_api_ErrExist), ("deedbox/api.ErrFull", Rows.laid_deedbox_api_ErrFull), ("deedbox/api.ErrOrder", Rows.laid_deedbox_api_ErrOrder), ("deedbox/api.ErrSum", Rows.laid_deedbox_api_ErrSum), ("deedbox/api.ErrOff", Rows.laid_deedbox_api_ErrOff), ("strconv.ErrRange", Rows.laid_strconv_ErrRange), ("strconv.ErrSyntax", Rows.laid_strconv_ErrSyntax)] [.data, .data, .data, .data, .sentinel, .sentinel, .sentinel, .sentinel, .sentinel, .sentinel, .sentinel, .sentinel, .sentinel, .sentinel, .sentinel, .sentinel, .sentinel] true :=
  Program.laidByTextLater.sub seatTie1 ["math/bits.deBruijn32tab", "math/bits.deBruijn64tab", "internal/strconv.uint64pow10", "unicode/utf8.acceptRanges", "deedbox/api.ErrText", "deedbox/api.ErrBound", "deedbox/api.ErrShape", "deedbox/api.ErrKind", "deedbox/api.ErrName", "deedbox/api.ErrNone", "deedbox/api.ErrExist", "deedbox/api.ErrFull", "deedbox/api.ErrOrder", "deedbox/api.ErrSum", "deedbox/api.ErrOff", "strconv.ErrRange", "strconv.ErrSyntax"] (by kernel_rfl) (by kernel_rfl)
theorem packKeeps_row_tie : Rows.packKeepsRow.laidByTextAt .later Tryz.pinned [.data, .data, .data, .data, .sentinel, .sentinel, .sentinel, .sentinel, .sentinel, .sentinel, .sentinel, .sentinel, .sentinel, .sentinel, .sentinel, .sentinel, .sentinel, .pinned] true :=
  OpenClaim.laidByTextAt_pinned rfl rfl tie rfl rfl rfl rfl (fun y hy _e => by
    simp only [Rows.packKeepsRow, List.zip_cons_cons, List.zip_nil_right, List.mem_cons, List.mem_nil_iff, or_false] at hy
    rcases hy with rfl | rfl | rfl | rfl | rfl | rfl | rfl | rfl | rfl | rfl | rfl | rfl | rfl | rfl | rfl | rfl | rfl | rfl
    · cases _e
    · cases _e
    · cases _e
    · cases _e
    · cases _e
    · cases _e
    · cases _e
    · cases _e
    · cases _e
    · cases _e
    · cases _e
    · cases _e
    · cases _e
    · cases _e
    · cases _e
    · cases _e
    · cases _e
    · exact ⟨pin_laid_unicode_utf8_first, by kernel_rfl⟩) fits1
theorem packIdles_row_tie : Rows.packIdlesRow.laidByTextAt .later Tryz.pinned [.data, .data, .data, .data, .sentinel, .sentinel, .sentinel, .sentinel, .sentinel, .sentinel, .sentinel, .sentinel, .sentinel, .sentinel, .sentinel, .sentinel, .sentinel, .pinned] true :=
  OpenClaim.laidByTextAt_pinned rfl rfl tie rfl rfl rfl rfl (fun y hy _e => by
    simp only [Rows.packIdlesRow, List.zip_cons_cons, List.zip_nil_right, List.mem_cons, List.mem_nil_iff, or_false] at hy
    rcases hy with rfl | rfl | rfl | rfl | rfl | rfl | rfl | rfl | rfl | rfl | rfl | rfl | rfl | rfl | rfl | rfl | rfl | rfl
    · cases _e
    · cases _e
    · cases _e
    · cases _e
    · cases _e
    · cases _e
    · cases _e
    · cases _e
    · cases _e
    · cases _e
    · cases _e
    · cases _e
    · cases _e
    · cases _e
    · cases _e
    · cases _e
    · cases _e
    · exact ⟨pin_laid_unicode_utf8_first, by kernel_rfl⟩) fits1
theorem fits2 : Tryz.pinned.checked.prog.listedFits [("math/bits.deBruijn32tab", Rows.laid_math_bits_deBruijn32tab), ("math/bits.deBruijn64tab", Rows.laid_math_bits_deBruijn64tab), ("internal/strconv.uint64pow10", Rows.laid_internal_strconv_uint64pow10), ("unicode/utf8.acceptRanges", Rows.laid_unicode_utf8_acceptRanges), ("errors.errorType", Rows.laid_errors_errorType), ("deedbox/api.ErrText", Rows.laid_deedbox_api_ErrText), ("deedbox/api.ErrBound", Rows.laid_deedbox_api_ErrBound), ("deedbox/api.ErrShape", Rows.laid_deedbox_api_ErrShape), ("deedbox/api.ErrKind", Rows.laid_deedbox_api_ErrKind), ("deedbox/api.ErrName", Rows.laid_deedbox_api_ErrName), ("deedbox/api.ErrNone", Rows.laid_deedbox_api_ErrNone), ("deedbox/api.ErrExist", Rows.laid_deedbox_api_ErrExist), ("deedbox/api.ErrFull", Rows.laid_deedbox_api_ErrFull), ("deedbox/api.ErrOrder", Rows.laid_deedbox_api_ErrOrder), ("deedbox/api.ErrSum", Rows.laid_deedbox_api_ErrSum), ("deedbox/api.ErrStale", Rows.laid_deedbox_api_ErrStale), ("deedbox/api.ErrOff", Rows.laid_deedbox_api_ErrOff), ("strconv.ErrRange", Rows.laid_strconv_ErrRange), ("strconv.ErrSyntax", Rows.laid_strconv_ErrSyntax), ("unicode/utf8.first", Rows.laid_unicode_utf8_first)] = true := by
  unfold Program.listedFits
  rw [noOwnUnsafe]
  kernel_rfl
theorem tie2 : Tryz.prog.laidByTextLater [("math/bits.deBruijn32tab", Rows.laid_math_bits_deBruijn32tab), ("math/bits.deBruijn64tab", Rows.laid_math_bits_deBruijn64tab), ("internal/strconv.uint64pow10", Rows.laid_internal_strconv_uint64pow10), ("unicode/utf8.acceptRanges", Rows.laid_unicode_utf8_acceptRanges), ("errors.errorType", Rows.laid_errors_errorType), ("deedbox/api.ErrText", Rows.laid_deedbox_api_ErrText), ("deedbox/api.ErrBound", Rows.laid_deedbox_api_ErrBound), ("deedbox/api.ErrShape", Rows.laid_deedbox_api_ErrShape), ("deedbox/api.ErrKind", Rows.laid_deedbox_api_ErrKind), ("deedbox/api.ErrName", Rows.laid_deedbox_api_ErrName), ("deedbox/api.ErrNone", Rows.laid_deedbox_api_ErrNone), ("deedbox/api.ErrExist", Rows.laid_deedbox_api_ErrExist), ("deedbox/api.ErrFull", Rows.laid_deedbox_api_ErrFull), ("deedbox/api.ErrOrder", Rows.laid_deedbox_api_ErrOrder), ("deedbox/api.ErrSum", Rows.laid_deedbox_api_ErrSum), ("deedbox/api.ErrStale", Rows.laid_deedbox_api_ErrStale), ("deedbox/api.ErrOff", Rows.laid_deedbox_api_ErrOff), ("strconv.ErrRange", Rows.laid_strconv_ErrRange), ("strconv.ErrSyntax", Rows.laid_strconv_ErrSyntax)] [.data, .data, .data, .data, .handle, .sentinel, .sentinel, .sentinel, .sentinel, .sentinel, .sentinel, .sentinel, .sentinel, .sentinel, .sentinel, .sentinel, .sentinel, .sentinel, .sentinel] true :=
  Program.laidByTextLater.sub seatTie1 ["math/bits.deBruijn32tab", "math/bits.deBruijn64tab", "internal/strconv.uint64pow10", "unicode/utf8.acceptRanges", "errors.errorType", "deedbox/api.ErrText", "deedbox/api.ErrBound", "deedbox/api.ErrShape", "deedbox/api.ErrKind", "deedbox/api.ErrName", "deedbox/api.ErrNone", "deedbox/api.ErrExist", "deedbox/api.ErrFull", "deedbox/api.ErrOrder", "deedbox/api.ErrSum", "deedbox/api.ErrStale", "deedbox/api.ErrOff", "strconv.ErrRange", "strconv.ErrSyntax"] (by kernel_rfl) (by kernel_rfl)
theorem packTells_row_tie : Rows.packTellsRow.laidByTextAt .later Tryz.pinned [.data, .data, .data, .data, .handle, .sentinel, .sentinel, .sentinel, .sentinel, .sentinel, .sentinel, .sentinel, .sentinel, .sentinel, .sentinel, .sentinel, .sentinel, .sentinel, .sentinel, .pinned] true :=
  OpenClaim.laidByTextAt_pinned rfl rfl tie2 rfl rfl rfl rfl (fun y hy _e => by
    simp only [Rows.packTellsRow, List.zip_cons_cons, List.zip_nil_right, List.mem_cons, List.mem_nil_iff, or_false] at hy
    rcases hy with rfl | rfl | rfl | rfl | rfl | rfl | rfl | rfl | rfl | rfl | rfl | rfl | rfl | rfl | rfl | rfl | rfl | rfl | rfl | rfl
    · cases _e
    · cases _e
    · cases _e
    · cases _e
    · cases _e
    · cases _e
    · cases _e
    · cases _e
    · cases _e
    · cases _e
    · cases _e
    · cases _e
    · cases _e
    · cases _e
    · cases _e
    · cases _e
    · cases _e
    · cases _e
    · cases _e
    · exact ⟨pin_laid_unicode_utf8_first, by kernel_rfl⟩) fits2
theorem packKeepsUpto_row_tie : Rows.packKeepsUptoRow.laidByTextAt .later Tryz.pinned [.data, .data, .data, .data, .sentinel, .sentinel, .sentinel, .sentinel, .sentinel, .sentinel, .sentinel, .sentinel, .sentinel, .sentinel, .sentinel, .sentinel, .sentinel, .pinned] true :=
  OpenClaim.laidByTextAt_pinned rfl rfl tie rfl rfl rfl rfl (fun y hy _e => by
    simp only [Rows.packKeepsUptoRow, List.zip_cons_cons, List.zip_nil_right, List.mem_cons, List.mem_nil_iff, or_false] at hy
    rcases hy with rfl | rfl | rfl | rfl | rfl | rfl | rfl | rfl | rfl | rfl | rfl | rfl | rfl | rfl | rfl | rfl | rfl | rfl
    · cases _e
    · cases _e
    · cases _e
    · cases _e
    · cases _e
    · cases _e
    · cases _e
    · cases _e
    · cases _e
    · cases _e
    · cases _e
    · cases _e
    · cases _e
    · cases _e
    · cases _e
    · cases _e
    · cases _e
    · exact ⟨pin_laid_unicode_utf8_first, by kernel_rfl⟩) fits1
theorem packIdlesUpto_row_tie : Rows.packIdlesUptoRow.laidByTextAt .later Tryz.pinned [.data, .data, .data, .data, .sentinel, .sentinel, .sentinel, .sentinel, .sentinel, .sentinel, .sentinel, .sentinel, .sentinel, .sentinel, .sentinel, .sentinel, .sentinel, .pinned] true :=
  OpenClaim.laidByTextAt_pinned rfl rfl tie rfl rfl rfl rfl (fun y hy _e => by
    simp only [Rows.packIdlesUptoRow, List.zip_cons_cons, List.zip_nil_right, List.mem_cons, List.mem_nil_iff, or_false] at hy
    rcases hy with rfl | rfl | rfl | rfl | rfl | rfl | rfl | rfl | rfl | rfl | rfl | rfl | rfl | rfl | rfl | rfl | rfl | rfl
    · cases _e
    · cases _e
    · cases _e
    · cases _e
    · cases _e
    · cases _e
    · cases _e
    · cases _e
    · cases _e
    · cases _e
    · cases _e
    · cases _e
    · cases _e
    · cases _e
    · cases _e
    · cases _e
    · cases _e
    · exact ⟨pin_laid_unicode_utf8_first, by kernel_rfl⟩) fits1
theorem packTellsUpto_row_tie : Rows.packTellsUptoRow.laidByTextAt .later Tryz.pinned [.data, .data, .data, .data, .handle, .sentinel, .sentinel, .sentinel, .sentinel, .sentinel, .sentinel, .sentinel, .sentinel, .sentinel, .sentinel, .sentinel, .sentinel, .sentinel, .sentinel, .pinned] true :=
  OpenClaim.laidByTextAt_pinned rfl rfl tie2 rfl rfl rfl rfl (fun y hy _e => by
    simp only [Rows.packTellsUptoRow, List.zip_cons_cons, List.zip_nil_right, List.mem_cons, List.mem_nil_iff, or_false] at hy
    rcases hy with rfl | rfl | rfl | rfl | rfl | rfl | rfl | rfl | rfl | rfl | rfl | rfl | rfl | rfl | rfl | rfl | rfl | rfl | rfl | rfl
    · cases _e
    · cases _e
    · cases _e
    · cases _e
    · cases _e
    · cases _e
    · cases _e
    · cases _e
    · cases _e
    · cases _e
    · cases _e
    · cases _e
    · cases _e
    · cases _e
    · cases _e
    · cases _e
    · cases _e
    · cases _e
    · cases _e
    · exact ⟨pin_laid_unicode_utf8_first, by kernel_rfl⟩) fits2
end Go.Proofs.YtpfohfihkmjnaaaGreatDoor
