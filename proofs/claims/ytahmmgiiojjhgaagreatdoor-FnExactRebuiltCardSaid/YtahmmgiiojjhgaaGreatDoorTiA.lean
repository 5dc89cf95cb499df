/-
  The tie of the row, in parts: the laid data, the words of the cut.
-/
import Derived.Test.YtahmmgiiojjhgaaGreatDoorRows
import Derived.LaidByTextLater
import Derived.SevenTiedAt
import Derived.LaidOnce
namespace Go.Proofs.YtahmmgiiojjhgaaGreatDoor
open Go
set_option maxRecDepth 100000
noncomputable abbrev WB : List (String × DataW Unit) := [("loop.example/g00793/impl.currencies", Rows.laid_loop_example_g00793_impl_currencies), ("internal/strconv.uint64pow10", Rows.laid_internal_strconv_uint64pow10), ("math/bits.deBruijn32tab", Rows.laid_math_bits_deBruijn32tab), ("math/bits.deBruijn64tab", Rows.laid_math_bits_deBruijn64tab), ("strconv.ErrSyntax", Rows.laid_strconv_ErrSyntax), ("strconv.ErrRange", Rows.laid_strconv_ErrRange)]
theorem tieWord:Tryz.prog.worded (varsWordLater true)=true:=by kernel_rfl
theorem tieKind:WB.map (fun x=>Tryz.prog.kindOfLater x.1)=([.data,.data,.data,.data,.sentinel,.sentinel]:List LaidKind).map some:=by kernel_rfl
theorem WC : Tryz.pinned.checked.prog.headLifts.contains "ownunsafe" = false := by kernel_rfl
end Go.Proofs.YtahmmgiiojjhgaaGreatDoor
