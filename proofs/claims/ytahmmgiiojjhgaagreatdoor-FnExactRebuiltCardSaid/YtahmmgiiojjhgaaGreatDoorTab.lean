/-
  The library's table of powers of ten, as a law's row lists it.
-/
import Derived.Test.YtahmmgiiojjhgaaGreatDoorTiB
import Derived.Test.YtahmmgiiojjhgaaGreatDoorTiC
import Derived.Test.YtahmmgiiojjhgaaGreatDoorTiD
import Derived.Test.YtahmmgiiojjhgaaGreatDoorRow
import Derived.Test.YtahmmgiiojjhgaaGreatDoorCards
import Derived.OpenShut
import Derived.Deep.DeepHandedRow
import Derived.Test.YtahmmgiiojjhgaaGreatDoorCmdV
import Derived.Lib.LaidTab
import Derived.Stop.LaidErr
namespace Go.Proofs.YtahmmgiiojjhgaaGreatDoor
open Go.Proofs.Tryz (prog)
open Go
set_option maxRecDepth 100000
theorem tieAll:prog.laidByTextLater WB [.data,.data,.data,.data,.sentinel,.sentinel] true :=
 Program.laidByTextLater_by_one 400 8 81 tieWord tieWord' tieRoot tieKind tieFound tieNamed tieRun
theorem oT:Rows.fnExactRebuiltRow.laidByTextAt .later Tryz.pinned [.data,.data,.data,.data,.sentinel,.sentinel] true :=
 OpenClaim.laidByTextAt_later rfl rfl tieAll WC
open Sx Go.ChangeShapes Go.WideShapes Go.ChangeAt Go.RowKit
theorem Tryz.own:ownKnob prog.godebug=none:=by kernel_rfl
theorem Tryz.laidOut:laidOutB prog=true:=by kernel_rfl
noncomputable def Sk:DataW Unit->ByteArray
 | .iface _ (.ptr (.agg [.lit (.string s)]))=>⟨⟨s⟩⟩
 | _=>⟨#[]⟩
noncomputable def BS:DataW Unit->Array Value
 | .agg l=>(l.flatMap fun
  | .lit (.int k z)=>[Value.int k z]
  | .agg m=>m.map fun
   | .lit (.int k z)=>Value.int k z
   | _=>.nilFunc
  | _=>[]).toArray
 | _=>#[]
noncomputable def WD (cs:Array Value):Obj->Obj
 | .cells _ t frozen=>.cells cs t frozen
 | o=>o
noncomputable def wN (os:Os):World :=
 { World.holding prog os ⟨#[],#[],[]⟩ with heap:=(((((((((World.holding prog os ⟨#[],#[],[]⟩).heap.modify 0 (WD (fF eX).toArray)).modify 4 (WD (BS Rows.laid_internal_strconv_uint64pow10))).modify 5 (WD (BS Rows.laid_math_bits_deBruijn32tab))).modify 6 (WD (BS Rows.laid_math_bits_deBruijn64tab))).modify 2 (WD #[.iface 378 (.pointer (some ⟨(World.holding prog os ⟨#[],#[],[]⟩).heap.size+0,0,none⟩))])).modify 3 (WD #[.iface 378 (.pointer (some ⟨(World.holding prog os ⟨#[],#[],[]⟩).heap.size+1,0,none⟩))])).push (.cells #[.string (Sk Rows.laid_strconv_ErrSyntax)] 380 (0,0))).push (.cells #[.string (Sk Rows.laid_strconv_ErrRange)] 380 (0,0))) }
theorem arg_row {sh:List Sc} {α:Type} {r:Rp sh α} {P:Program} {W:World} {t:TypeId} {fs:Array Field} {v:Value} {base:Nat} {H:Type} {enc:TypeId × Value->H} {sp:Nat->Bool} {held:Bool} {d:DataW H} {p:List MemPlace} (hr:Rd P W t r) (ht:P.underlying t=some (.struct fs))
  (hv:Value.okWide P W .any base t v) (h:DataW.Trod enc P W 0 sp held t v d p):∃ c a fp,v=dx.val (.g sh) c/\r.R (mV W) c a fp:=by
 unfold Value.okWide at hv;rw [ht] at hv;obtain⟨cs,rfl,_⟩:=hv;obtain⟨fuel,hf⟩:=h;obtain⟨c,a,fp,e,hR⟩:=hr hf;refine⟨c,a,fp,?_,hR⟩
 have e':cs.toList=aH.aD sh c:=e;show Value.agg cs=Value.agg (aH.aD sh c).toArray
 rw [<- e']
theorem WE {W : World} {rest : List (String × DataW Unit)} (h : laidMet prog (("internal/strconv.uint64pow10", Go.Lib.tabData .u64 Go.Lib.pow10Tab) :: rest) W) : ZJ (mV W) := by
 have ht:=Go.Lib.tabIs_of_head (g:=4) (t:=374) (e:=302) (n:=20) (by kernel_rfl) (by kernel_rfl) (by kernel_rfl) (by kernel_rfl) (by kernel_rfl) (by kernel_rfl) h;unfold Go.Lib.TabIs World.var? at ht;rw [show prog.globalNamed "internal/strconv.uint64pow10" = some 4 by kernel_rfl] at ht;simp only [Option.bind_some] at ht;split at ht
 ·rename_i cs t fr hc
  refine⟨(t,fr),?_⟩
  have e:cs.toList=Go.Lib.pow10Tab.map fun z=>Value.int .u64 z:=by
   have:=Option.some.inj ht;rw [this]
  rw [<- e];refine wL hc fun es he=>?_
  rw [e] at he;cases he
 cases ht
end Go.Proofs.YtahmmgiiojjhgaaGreatDoor
