/- A part of the proof of DirectDifferences: see the last text of this claim. -/
import Derived.Test.YtfdpjfgkdjlomaaGreatDoorRows
import Derived.LaidByTextLater
import Derived.SevenTiedAt
import Derived.LaidSub
import Derived.LaidOnce
namespace Go.Abs
noncomputable section
open Go Go.Proofs Go.Proofs.YtfdpjfgkdjlomaaGreatDoor
set_option maxRecDepth 100000
/-! ## The listed variables are tied to the program: closed facts, one by one -/
noncomputable def lv0 : String × DataW Unit := ("internal/strconv.uint64pow10", Rows.laid_internal_strconv_uint64pow10)
noncomputable def lv1 : String × DataW Unit := ("math/bits.deBruijn32tab", Rows.laid_math_bits_deBruijn32tab)
noncomputable def lv2 : String × DataW Unit := ("math/bits.deBruijn64tab", Rows.laid_math_bits_deBruijn64tab)
noncomputable def lv3 : String × DataW Unit := ("unicode/utf8.acceptRanges", Rows.laid_unicode_utf8_acceptRanges)
noncomputable def lv4 : String × DataW Unit := ("strconv.ErrSyntax", Rows.laid_strconv_ErrSyntax)
noncomputable def lv5 : String × DataW Unit := ("strconv.ErrRange", Rows.laid_strconv_ErrRange)
noncomputable def lvs : List (String × DataW Unit) := [lv0, lv1, lv2, lv3, lv4, lv5]
theorem tW : Tryz.prog.worded (varsWordLater true) = true := by kernel_rfl
theorem tW2 : Tryz.prog.worded (varsWordLater !true) = false := by kernel_rfl
theorem tRoot : Tryz.prog.worded rootWordLater = true := by kernel_rfl
theorem tK : lvs.map (fun x => Tryz.prog.kindOfLater x.1) = [LaidKind.data, .data, .data, .data, .sentinel, .sentinel].map some := by kernel_rfl
end
end Go.Abs
