/-
  Arguments of the laws as rows and lists; a world whose table of currencies is laid.
-/
import Derived.Test.YtccnjccabllcaaaGreatDoorRdT
import Derived.Test.YtccnjccabllcaaaGreatDoorRow
import Derived.Test.YtccnjccabllcaaaGreatDoorCards
import Derived.Test.YtccnjccabllcaaaGreatDoorTie
import Derived.OpenShut
import Derived.Deep.DeepHandedRow
namespace Go.Proofs.YtccnjccabllcaaaGreatDoor
open Sx Go.ChangeShapes Go.WideShapes Go.ChangeAt Go.RowKit
theorem Tryz.own:ownKnob Tryz.prog.godebug=none:=by kernel_rfl
theorem Tryz.laidOut:laidOutB Tryz.prog=true:=by kernel_rfl
noncomputable def setC (cs:Array Value):Obj→Obj
 | .cells _ t frozen=>.cells cs t frozen
 | o=>o
noncomputable def laidWorld (os:Os):World :=
 { World.holding Tryz.prog os ⟨#[],#[],[]⟩ with heap:=((World.holding Tryz.prog os ⟨#[],#[],[]⟩).heap.modify 0 (setC (curCells curI).toArray)) }
theorem arg_row {sh:List Sc} {α:Type} {r:Rp sh α} {P:Program} {W:World} {t:TypeId} {fs:Array Field} {v:Value} {base:Nat} {H:Type} {enc:TypeId × Value→H} {sp:Nat→Bool} {held:Bool} {d:DataW H} {p:List MemPlace} (hr:Rd P W t r) (ht:P.underlying t=some (.struct fs))
  (hv:Value.okWide P W .any base t v) (h:DataW.Trod enc P W 0 sp held t v d p):∃ c a fp,v=Sh1.val (.g sh) c∧r.R (knowOf W) c a fp:=by
 unfold Value.okWide at hv
 rw [ht] at hv
 obtain⟨cs,rfl,_⟩:=hv
 obtain⟨fuel,hf⟩:=h
 obtain⟨c,a,fp,e,hR⟩:=hr hf
 refine⟨c,a,fp,?_,hR⟩
 have e':cs.toList=Scs.vals sh c:=e
 show Value.agg cs=Value.agg (Scs.vals sh c).toArray
 rw [← e']
end Go.Proofs.YtccnjccabllcaaaGreatDoor
