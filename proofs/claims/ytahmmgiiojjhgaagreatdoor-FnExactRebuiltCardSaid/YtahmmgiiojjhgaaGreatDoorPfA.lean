/-
  What is closed about the row, fact by fact.
-/
import Derived.Test.YtahmmgiiojjhgaaGreatDoorCards
import Derived.Test.YtahmmgiiojjhgaaGreatDoorChecked
import Derived.JoinedCond
namespace Go.Proofs.YtahmmgiiojjhgaaGreatDoor
open Go.Proofs.Tryz (prog)
theorem vm:(Rows.fnExactRebuiltRow.inPlace == prog.inPlace 3)=true:=by kernel_rfl
theorem qi:(Rows.fnExactRebuiltRow.unfollowed == prog.unfollowed 3)=true:=by kernel_rfl
theorem sI:(Rows.fnExactRebuiltRow.recurses == prog.recurses 3)=true:=by kernel_rfl
theorem yn:(Rows.fnExactRebuiltRow.named == prog.varsNamed 3)=true:=by kernel_rfl
theorem qS:(Rows.fnExactRebuiltRow.plainKeys == prog.plainKeys)=true:=by kernel_rfl
theorem wO:(Rows.fnExactRebuiltRow.lifted == prog.liftsFinal)=true:=by kernel_rfl
theorem BT:(prog.make == some Rows.fnExactRebuiltRow.make)=true:=by kernel_rfl
end Go.Proofs.YtahmmgiiojjhgaaGreatDoor
