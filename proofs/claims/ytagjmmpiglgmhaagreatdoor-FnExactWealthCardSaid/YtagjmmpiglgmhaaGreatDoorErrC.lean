/-
  What the row's listed handle says of memory.
-/
import Derived.Test.YtagjmmpiglgmhaaGreatDoorErr
import Derived.Test.YtagjmmpiglgmhaaGreatDoorRow
import Derived.LaidHandle
namespace Go.Proofs.YtagjmmpiglgmhaaGreatDoor
open Sx Go.RowKit
set_option maxRecDepth 100000
theorem et.named : Tryz.prog.globalNamed "errors.errorType" = some 0 := by kernel_rfl
theorem et.rt : (Tryz.prog.cutTypes.find? (·.1 == "internal/reflectlite.rtype")).map (·.2) = some rT := by kernel_rfl
theorem et.size:Tryz.prog.types.size=287:=by kernel_rfl
theorem et.one:((List.range 287).filter fun t=>Tryz.prog.rowNamed t [101,114,114,111,114])=[eE]:=by kernel_rfl
theorem hasErr_of {W : World} (h : handlesMet Tryz.prog [("errors.errorType", Rows.laid_errors_errorType)] W) : hasErr (knowOf W) := by
 obtain⟨name,u,ty,e1,e2,e3,e4,e5⟩:=h _ (List.mem_singleton.2 rfl)
 have en:name=[101,114,114,111,114]:=(Option.some.inj e1).symm
 subst en
 obtain rfl:=Option.some.inj (et.rt.symm.trans e2)
 have hm:ty∈(List.range 287).filter fun t=>Tryz.prog.rowNamed t [101,114,114,111,114]:=List.mem_filter.2 ⟨List.mem_range.2 (by rw [← et.size]; exact e3),e4⟩
 rw [et.one] at hm
 obtain rfl:=List.mem_singleton.1 hm
 have hh:typeHandle Tryz.prog eE=.pointer (some ⟨hB,eE,none⟩):=by kernel_rfl
 rw [hh] at e5
 unfold World.var? at e5
 rw [et.named] at e5
 simp only [Option.bind_some] at e5
 cases hw:W.heap[0]? with
 | none=>rw [hw] at e5; cases e5
 | some o =>
  rw [hw] at e5
  cases o with
  | cells c t fr =>
   simp only [Option.some.injEq] at e5
   subst e5
   exact⟨_,knowOf_eq hw (fun es e=>by simp at e)⟩
  | _=>cases e5
end Go.Proofs.YtagjmmpiglgmhaaGreatDoor
