/-
  What the program's functions on lists of limbs give: sum, difference.
-/
import Derived.Test.YtfnijcedeeombaaGreatDoorNum
namespace Go.Proofs.YtfnijcedeeombaaGreatDoor
open Sx
set_option maxRecDepth 100000

end Go.Proofs.YtfnijcedeeombaaGreatDoor
