/-
  The tie of the row, in parts: what the door stores.
-/
import Derived.Test.YtahmmgiiojjhgaaGreatDoorTiA
namespace Go.Proofs.YtahmmgiiojjhgaaGreatDoor
open Go
set_option maxRecDepth 100000
theorem tieFound : (Tryz.prog.funcNamed "gosem.cut.vars").isSome = true := by kernel_rfl
theorem tieNamed:varsNamedLaterB Tryz.prog (varsId Tryz.prog) WB=true:=by kernel_rfl
end Go.Proofs.YtahmmgiiojjhgaaGreatDoor
