/-
  Texts of numbers: digits, noughts ahead, the point; how long they are. No program in sight.
-/
import Derived.Test.YtagjmmpiglgmhaaGreatDoorMath
import Derived.Lib.ItoaNum
import Derived.Lib.ItoaLen
import Derived.Lib.Repeat
namespace Go.Proofs.YtagjmmpiglgmhaaGreatDoor
open Sx
set_option maxRecDepth 100000
def zeros (k:Nat):ByteArray:=⟨(List.replicate k 48).toArray⟩
end Go.Proofs.YtagjmmpiglgmhaaGreatDoor
