/-
  The tie of the row, in parts: the other words.
-/
import Derived.Test.YtahmmgiiojjhgaaGreatDoorRows
import Derived.LaidByTextLater
import Derived.SevenTiedAt
import Derived.LaidOnce
namespace Go.Proofs.YtahmmgiiojjhgaaGreatDoor
open Go
set_option maxRecDepth 100000
theorem tieWord':Tryz.prog.worded (varsWordLater !true)=false:=by kernel_rfl
theorem tieRoot:Tryz.prog.worded rootWordLater=true:=by kernel_rfl
end Go.Proofs.YtahmmgiiojjhgaaGreatDoor
