/-
  Sums of whole numbers: the reference.
-/
import Derived.Test.YtccnjccabllcaaaGreatDoorLedB
namespace Go.Proofs.YtccnjccabllcaaaGreatDoor
open Sx
set_option maxRecDepth 100000
end Go.Proofs.YtccnjccabllcaaaGreatDoor
