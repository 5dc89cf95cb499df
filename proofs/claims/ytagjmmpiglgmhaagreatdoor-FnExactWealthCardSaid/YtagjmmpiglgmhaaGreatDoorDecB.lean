/-
  Decimals: the least scale, comparison, tax rates, in the program and in the reference.
-/
import Derived.Test.YtagjmmpiglgmhaaGreatDoorDecA
namespace Go.Proofs.YtagjmmpiglgmhaaGreatDoor
open Sx
set_option maxRecDepth 100000
theorem one_ok:DecOkP false [(1,())] 0:=⟨⟨⟨⟨lims_one (by decide),.inr (by decide)⟩,by simp⟩,(fun h=>by cases h)⟩,by simp,by omega,by omega⟩
end Go.Proofs.YtagjmmpiglgmhaaGreatDoor
