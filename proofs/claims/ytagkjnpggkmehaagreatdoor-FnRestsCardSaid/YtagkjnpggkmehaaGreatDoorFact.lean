/-
  What is closed about the program, fact by fact.
-/
import Derived.Test.YtagkjnpggkmehaaGreatDoorRead
import Derived.Test.YtagkjnpggkmehaaGreatDoorRow
import Derived.Test.YtagkjnpggkmehaaGreatDoorCards
import Derived.Test.YtagkjnpggkmehaaGreatDoorTie
import Derived.OpenShut
import Derived.Deep.DeepHandedRow
import Derived.Test.YtagkjnpggkmehaaGreatDoorTxtC
import Derived.Lib.LaidTab
import Derived.Stop.LaidErr
import Derived.Test.YtagkjnpggkmehaaGreatDoorMapT
import Derived.Shelf.Vars
import Derived.Test.YtagkjnpggkmehaaGreatDoorChecked
import Derived.JoinedCond
namespace Go.Proofs.YtagkjnpggkmehaaGreatDoor
open Sx Go.ChangeShapes Go.WideShapes Go.ChangeAt Go.RowKit
theorem Tryz.own:ownKnob Tryz.prog.godebug=none:=by kernel_rfl
theorem Tryz.laidOut:laidOutB Tryz.prog=true:=by kernel_rfl
noncomputable def tabCells:DataW Unit→Array Value
 | .agg l=>(l.flatMap fun
  | .lit (.int k z)=>[Value.int k z]
  | .agg m=>m.map fun
   | .lit (.int k z)=>Value.int k z
   | _=>.nilFunc
  | _=>[]).toArray
 | _=>#[]
noncomputable def setC (cs:Array Value):Obj→Obj
 | .cells _ t frozen=>.cells cs t frozen
 | o=>o
noncomputable def laidWorld (os:Os):World :=
 { World.holding Tryz.prog os ⟨#[],#[],[]⟩ with heap:=(((((((World.holding Tryz.prog os ⟨#[],#[],[]⟩).heap.modify 5 (setC (tabCells Rows.laid_math_bits_deBruijn32tab))).modify 6 (setC (tabCells Rows.laid_math_bits_deBruijn64tab))).modify 4 (setC (tabCells Rows.laid_internal_strconv_uint64pow10))).modify 3 (setC (tabCells Rows.laid_unicode_utf8_acceptRanges))).modify 0 (setC (curCells curI).toArray)).modify 2 (setC (tabCells Rows.laid_unicode_utf8_first))) }
theorem arg_slice {sh:List Sc} {α:Type} {r:Rp sh α} {P:Program} {W:World} {t e:TypeId} {v:Value} {base:Nat} {H:Type} {enc:TypeId × Value→H} {sp:Nat→Bool} {held:Bool} {d:DataW H} {p:List MemPlace} (hr:Rd P W e r) (ht:P.underlying t=some (.slice e))
  (hm:P.cellsOf e=sh.length) (hpos:0<sh.length) (hv:Value.okWide P W .any base t v) (h:DataW.Trod enc P W 0 sp held t v d p):∃ s l f,v=Sc.val .l s∧LR r (knowOf W) s l f:=by
 obtain⟨fuel,hf⟩:=h
 obtain⟨s,l,f,e',hL⟩:=rd_slice hr ht hm hpos hf
 refine⟨s,l,f,?_,hL⟩
 unfold Value.okWide at hv
 rw [ht] at hv
 simp only at hv
 unfold Cell.okWide at hv
 rw [ht] at hv
 cases v with
 | slice a n c =>
  simp only [Value.cells] at e'
  simpa [Sc.val] using e'
 | _=>simp [Cell.ok,ht] at hv
end Go.Proofs.YtagkjnpggkmehaaGreatDoor
namespace Go.Proofs.YtagkjnpggkmehaaGreatDoor
open Sx Go.ChangeShapes Go.WideShapes Go.ChangeAt Go.RowKit
set_option maxRecDepth 100000
theorem hasTab_of {W : World} {rest : List (String × DataW Unit)} (h : laidMet Tryz.prog (("internal/strconv.uint64pow10", Go.Lib.tabData .u64 Go.Lib.pow10Tab) :: rest) W) : hasTab (knowOf W) := by
 have ht:=Go.Lib.tabIs_of_head (g:=4) (t:=273) (e:=141) (n:=20) (by kernel_rfl) (by kernel_rfl) (by kernel_rfl) (by kernel_rfl) (by kernel_rfl) (by kernel_rfl) h
 unfold Go.Lib.TabIs World.var? at ht
 rw [show Tryz.prog.globalNamed "internal/strconv.uint64pow10" = some 4 by kernel_rfl] at ht
 simp only [Option.bind_some] at ht
 split at ht
 ·rename_i cs t fr hc
  refine⟨(t,fr),?_⟩
  have e:cs.toList=Go.Lib.pow10Tab.map fun z=>Value.int .u64 z:=by
   have:=Option.some.inj ht
   rw [this]
  rw [← e]
  refine knowOf_eq hc fun es he=>?_
  rw [e] at he
  cases he
 ·cases ht
end Go.Proofs.YtagkjnpggkmehaaGreatDoor
namespace Go.Proofs.YtagkjnpggkmehaaGreatDoor
open Sx
theorem hasMax_of {W:World} (h:W.ShapedOpen Tryz.prog):hasMax (knowOf W):=by
 obtain⟨m,hm⟩:∃ m,W.cell? ⟨1,0,none⟩=some (.int .i64 m):=Go.Proofs.cell_of_shapedOpen_int (zero:=#[.int .i64 0]) (t:=3) h (of_decide_eq_true (by kernel_rfl)) (by kernel_rfl) rfl (by kernel_rfl) (by kernel_rfl) Tryz.underlying3
 unfold World.cell? at hm
 split at hm
 ·rename_i c t fr hc
  simp only [Option.isSome_none,Bool.false_eq_true,if_false] at hm
  have e:c.toList=.int .i64 m :: c.toList.tail:=by
   cases hq:c.toList with
   | nil =>
    have:c=#[]:=by simpa using hq
    rw [this] at hm; simp at hm
   | cons x r =>
    have h0:c.toList[0]?=some (Value.int .i64 m):=by rw [Array.getElem?_toList]; exact hm
    rw [hq] at h0
    obtain rfl:x=.int .i64 m:=by simpa using h0
    rfl
  refine⟨m,c.toList.tail,(t,fr),?_⟩
  rw [← e]
  exact knowOf_eq hc fun es he=>by rw [e] at he; cases he
 ·cases hm
end Go.Proofs.YtagkjnpggkmehaaGreatDoor
namespace Go.Proofs.YtagkjnpggkmehaaGreatDoor
theorem and_t {a b:Bool} (h:a=true) (k:b=true):(a && b)=true:=by rw [h,k]; rfl
theorem pf_laid:laidOutB Tryz.prog=true:=by kernel_rfl
theorem pf_maps:mapsRowed Tryz.prog=true:=by kernel_rfl
theorem pf_heard:Tryz.prog.stopsHeard=true:=by kernel_rfl
theorem pf_enter:Tryz.prog.mayEnter=true:=by kernel_rfl
end Go.Proofs.YtagkjnpggkmehaaGreatDoor
