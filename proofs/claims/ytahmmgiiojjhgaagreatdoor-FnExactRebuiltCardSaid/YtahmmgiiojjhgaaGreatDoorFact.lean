/-
  What is closed about the program, fact by fact.
-/
import Derived.Test.YtahmmgiiojjhgaaGreatDoorChecked
import Derived.JoinedCond
namespace Go.Proofs.YtahmmgiiojjhgaaGreatDoor
theorem dX {a b:Bool} (h:a=true) (k:b=true):(a && b)=true:=by rw [h,k]; rfl
theorem pf_laid:laidOutB Tryz.prog=true:=by kernel_rfl
theorem pf_maps:mapsRowed Tryz.prog=true:=by kernel_rfl
theorem pf_heard:Tryz.prog.stopsHeard=true:=by kernel_rfl
theorem pf_enter:Tryz.prog.mayEnter=true:=by kernel_rfl
end Go.Proofs.YtahmmgiiojjhgaaGreatDoor
