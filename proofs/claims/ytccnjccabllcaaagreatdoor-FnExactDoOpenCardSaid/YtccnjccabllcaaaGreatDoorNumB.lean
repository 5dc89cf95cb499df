/-
  What the program's functions on lists of limbs give: sum, difference.
-/
import Derived.Test.YtccnjccabllcaaaGreatDoorNum
namespace Go.Proofs.YtccnjccabllcaaaGreatDoor
open Sx
set_option maxRecDepth 100000
end Go.Proofs.YtccnjccabllcaaaGreatDoor
