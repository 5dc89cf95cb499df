/-
  Arguments of the laws as rows and lists; a world whose table of currencies is laid.
-/
import Derived.Test.YtagjmmpiglgmhaaGreatDoorRdT
import Derived.Test.YtagjmmpiglgmhaaGreatDoorErr
import Derived.Test.YtagjmmpiglgmhaaGreatDoorRow
import Derived.Test.YtagjmmpiglgmhaaGreatDoorCards
import Derived.Test.YtagjmmpiglgmhaaGreatDoorTie
import Derived.OpenShut
import Derived.Deep.DeepHandedRow
namespace Go.Proofs.YtagjmmpiglgmhaaGreatDoor
open Sx Go.ChangeShapes Go.WideShapes Go.ChangeAt Go.RowKit
theorem Tryz.own:ownKnob Tryz.prog.godebug=none:=by kernel_rfl
theorem Tryz.laidOut:laidOutB Tryz.prog=true:=by kernel_rfl
noncomputable def setC (cs:Array Value):Obj→Obj
 | .cells _ t frozen=>.cells cs t frozen
 | o=>o
noncomputable def laidWorld (os:Os):World :=
 { World.holding Tryz.prog os ⟨#[],#[],[]⟩ with heap:=(((World.holding Tryz.prog os ⟨#[],#[],[]⟩).heap.modify 0 (setC #[.iface rT (.agg #[.pointer (some ⟨hB,eE,none⟩)])])).modify 1 (setC (curCells curI).toArray)) }
theorem arg_slice {sh:List Sc} {α:Type} {r:Rp sh α} {P:Program} {W:World} {t e:TypeId} {v:Value} {base:Nat} {H:Type} {enc:TypeId × Value→H} {sp:Nat→Bool} {held:Bool} {d:DataW H} {p:List MemPlace} (hr:Rd P W e r) (ht:P.underlying t=some (.slice e))
  (hm:P.cellsOf e=sh.length) (hpos:0<sh.length) (hv:Value.okWide P W .any base t v) (h:DataW.Trod enc P W 0 sp held t v d p):∃ s l f,v=Sc.val .l s∧LR r (knowOf W) s l f:=by
 obtain⟨fuel,hf⟩:=h
 obtain⟨s,l,f,e',hL⟩:=rd_slice hr ht hm hpos hf
 refine⟨s,l,f,?_,hL⟩
 unfold Value.okWide at hv
 rw [ht] at hv
 simp only at hv
 unfold Cell.okWide at hv
 rw [ht] at hv
 cases v with
 | slice a n c =>
  simp only [Value.cells] at e'
  simpa [Sc.val] using e'
 | _=>simp [Cell.ok,ht] at hv
theorem arg_row {sh:List Sc} {α:Type} {r:Rp sh α} {P:Program} {W:World} {t:TypeId} {fs:Array Field} {v:Value} {base:Nat} {H:Type} {enc:TypeId × Value→H} {sp:Nat→Bool} {held:Bool} {d:DataW H} {p:List MemPlace} (hr:Rd P W t r) (ht:P.underlying t=some (.struct fs))
  (hv:Value.okWide P W .any base t v) (h:DataW.Trod enc P W 0 sp held t v d p):∃ c a fp,v=Sh1.val (.g sh) c∧r.R (knowOf W) c a fp:=by
 unfold Value.okWide at hv
 rw [ht] at hv
 obtain⟨cs,rfl,_⟩:=hv
 obtain⟨fuel,hf⟩:=h
 obtain⟨c,a,fp,e,hR⟩:=hr hf
 refine⟨c,a,fp,?_,hR⟩
 have e':cs.toList=Scs.vals sh c:=e
 show Value.agg cs=Value.agg (Scs.vals sh c).toArray
 rw [← e']
end Go.Proofs.YtagjmmpiglgmhaaGreatDoor
