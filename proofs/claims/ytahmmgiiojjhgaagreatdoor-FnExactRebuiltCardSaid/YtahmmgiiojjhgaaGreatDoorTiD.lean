/-
  The tie of the row, in parts: the run of the door.
-/
import Derived.Test.YtahmmgiiojjhgaaGreatDoorTiA
namespace Go.Proofs.YtahmmgiiojjhgaaGreatDoor
open Go
set_option maxRecDepth 100000
theorem tieRun:∀ os tape,doorLeaves Tryz.prog 400 8 81 WB os tape=some (WB.filter fun x=>x.2.handleName?.isNone,(funcsListed WB).map (·.2.funcsOut)):=fun _ _=>by kernel_rfl
end Go.Proofs.YtahmmgiiojjhgaaGreatDoor
