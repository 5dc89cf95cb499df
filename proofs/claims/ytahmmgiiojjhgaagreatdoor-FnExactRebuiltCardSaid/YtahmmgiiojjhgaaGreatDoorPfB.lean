/-
  The text of the program is that of the harness; the row is well formed.
-/
import Derived.Test.YtahmmgiiojjhgaaGreatDoorCards
import Derived.Test.YtahmmgiiojjhgaaGreatDoorChecked
import Derived.JoinedCond
namespace Go.Proofs.YtahmmgiiojjhgaaGreatDoor
theorem Hh : Tryz.pinned.checked.prog.mainIs = some (true, "4882ffed4feaedfc4871ce5c8225c85541c08c7ebe216b3690b5432d3e1d4ec1".toList) := by kernel_rfl
theorem QP:Rows.fnExactRebuiltRow.wfByText (OpenSpec.ofChange Rows.fnExactRebuiltSpec)=true:=by kernel_rfl
end Go.Proofs.YtahmmgiiojjhgaaGreatDoor
