/-
  The row of MeanAlike is tied to the program's text, part 1 of 4: closed facts, each a theorem of its own, in texts of their own, so that each keeps within the memory that one process may take.
-/
import Derived.Test.YtdolijagffcfgaaGreatDoorRows
import Derived.LaidByTextLater
import Derived.SevenTiedAt
namespace Go.Proofs.YtdolijagffcfgaaGreatDoor
open Go
noncomputable def laidL : List (String × DataW Unit) := [("strings.asciiSpace", Rows.laid_strings_asciiSpace), ("unicode.White_Space", Rows.laid_unicode_White_Space), ("strconv.ErrSyntax", Rows.laid_strconv_ErrSyntax), ("strconv.ErrRange", Rows.laid_strconv_ErrRange), ("internal/strconv.uint64pow10", Rows.laid_internal_strconv_uint64pow10), ("math/bits.deBruijn32tab", Rows.laid_math_bits_deBruijn32tab), ("math/bits.deBruijn64tab", Rows.laid_math_bits_deBruijn64tab)]
theorem own_t1 : Tryz.prog.worded (varsWordLater true) = true := by kernel_rfl
theorem own_t2 : Tryz.prog.worded (varsWordLater !true) = false := by kernel_rfl
theorem own_t3 : Tryz.prog.worded rootWordLater = true := by kernel_rfl
theorem own_t4 : laidL.map (fun x => Tryz.prog.kindOfLater x.1) = ([.data, .listed, .sentinel, .sentinel, .data, .data, .data] : List LaidKind).map some := by kernel_rfl
theorem own_t5 : (Tryz.prog.funcNamed "gosem.cut.vars").isSome = true := by kernel_rfl
theorem own_t6 : varsNamedLaterB Tryz.prog (varsId Tryz.prog) laidL = true := by kernel_rfl
theorem own_t10 : (laidL.all fun x => x.2.handleName?.isNone) = true := by kernel_rfl
end Go.Proofs.YtdolijagffcfgaaGreatDoor
