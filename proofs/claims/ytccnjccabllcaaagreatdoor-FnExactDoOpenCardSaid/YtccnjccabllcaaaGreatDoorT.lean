/-
  The trees of all functions of the seat.
-/
import Derived.Test.YtccnjccabllcaaaGreatDoorTB
