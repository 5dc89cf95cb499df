/-
  Amounts of one currency, and their comparison, in the program and in the reference.
-/
import Derived.Test.YtccnjccabllcaaaGreatDoorOk
import Derived.Test.YtccnjccabllcaaaGreatDoorStr
namespace Go.Proofs.YtccnjccabllcaaaGreatDoor
open Sx
set_option maxRecDepth 100000
end Go.Proofs.YtccnjccabllcaaaGreatDoor
