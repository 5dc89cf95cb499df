/-
  No goroutine is started: no body of the whole program starts one.
-/
import Derived.Test.YtahmmgiiojjhgaaGreatDoorCards
import Derived.Test.YtahmmgiiojjhgaaGreatDoorChecked
import Derived.JoinedCond
namespace Go.Proofs.YtahmmgiiojjhgaaGreatDoor
theorem WG {P:Program} (h:P.funcs.any Func.goes=false) (f:FuncId):P.goes f=false:=by
 have hg:∀ g:FuncId,(P.funcs[g]?).any Func.goes=false:=by
  intro g;cases hq:P.funcs[g]? with
  | none=>rfl
  | some fn =>
   have:=Array.any_eq_false'.1 h fn (Array.mem_of_getElem? hq);simpa using this
 unfold Program.goes;rw [h,Bool.and_false,Bool.or_false];simp [hg]
theorem LX {P:Program} (h:P.funcs.any Func.goes=false) (s:String):P.goesAt .entering s=false:=by
 unfold Program.goesAt Program.goesFrom;cases P.funcNamed s with
 | none=>rfl
 | some f=>simp [WG h f]
theorem pf_goes:Tryz.prog.funcs.any Func.goes=false:=by kernel_rfl
theorem Hi:false=Rows.fnExactRebuiltRow.goesBy Tryz.pinned.checked.prog:=(LX pf_goes Rows.fnExactRebuiltRow.func).symm
end Go.Proofs.YtahmmgiiojjhgaaGreatDoor
