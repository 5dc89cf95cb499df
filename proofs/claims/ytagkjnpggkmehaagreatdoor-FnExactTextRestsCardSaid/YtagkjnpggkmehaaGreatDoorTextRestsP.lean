/-
  The program's TextRests returns what the reference's returns, for all arguments.
  Condition: the table of currencies is as the program's text lays it (the card ties it to that text).
-/
import Derived.Test.YtagkjnpggkmehaaGreatDoorPut
import Derived.Test.YtagkjnpggkmehaaGreatDoorArg
import Derived.Lib.LaidTab
import Derived.Stop.LaidErr
import Derived.Test.YtagkjnpggkmehaaGreatDoorRdL
import Derived.Shelf.Vars
import Derived.Test.YtagkjnpggkmehaaGreatDoorChecked
import Derived.JoinedCond
namespace Go.Proofs.YtagkjnpggkmehaaGreatDoor
open Sx Go.ChangeShapes Go.WideShapes Go.ChangeAt Go.RowKit
set_option maxRecDepth 100000
theorem hasTab_of {W : World} {rest : List (String × DataW Unit)} (h : laidMet Tryz.prog (("internal/strconv.uint64pow10", Go.Lib.tabData .u64 Go.Lib.pow10Tab) :: rest) W) : hasTab (knowOf W) := by
 have ht:=Go.Lib.tabIs_of_head (g:=4) (t:=273) (e:=141) (n:=20) (by kernel_rfl) (by kernel_rfl) (by kernel_rfl) (by kernel_rfl) (by kernel_rfl) (by kernel_rfl) h
 unfold Go.Lib.TabIs World.var? at ht
 rw [show Tryz.prog.globalNamed "internal/strconv.uint64pow10" = some 4 by kernel_rfl] at ht
 simp only [Option.bind_some] at ht
 split at ht
 ·rename_i cs t fr hc
  refine⟨(t,fr),?_⟩
  have e:cs.toList=Go.Lib.pow10Tab.map fun z=>Value.int .u64 z:=by
   have:=Option.some.inj ht
   rw [this]
  rw [← e]
  refine knowOf_eq hc fun es he=>?_
  rw [e] at he
  cases he
 ·cases ht
end Go.Proofs.YtagkjnpggkmehaaGreatDoor
namespace Go.Proofs.YtagkjnpggkmehaaGreatDoor
open Sx
theorem hasMax_of {W:World} (h:W.ShapedOpen Tryz.prog):hasMax (knowOf W):=by
 obtain⟨m,hm⟩:∃ m,W.cell? ⟨1,0,none⟩=some (.int .i64 m):=Go.Proofs.cell_of_shapedOpen_int (zero:=#[.int .i64 0]) (t:=3) h (of_decide_eq_true (by kernel_rfl)) (by kernel_rfl) rfl (by kernel_rfl) (by kernel_rfl) Tryz.underlying3
 unfold World.cell? at hm
 split at hm
 ·rename_i c t fr hc
  simp only [Option.isSome_none,Bool.false_eq_true,if_false] at hm
  have e:c.toList=.int .i64 m :: c.toList.tail:=by
   cases hq:c.toList with
   | nil =>
    have:c=#[]:=by simpa using hq
    rw [this] at hm; simp at hm
   | cons x r =>
    have h0:c.toList[0]?=some (Value.int .i64 m):=by rw [Array.getElem?_toList]; exact hm
    rw [hq] at h0
    obtain rfl:x=.int .i64 m:=by simpa using h0
    rfl
  refine⟨m,c.toList.tail,(t,fr),?_⟩
  rw [← e]
  exact knowOf_eq hc fun es he=>by rw [e] at he; cases he
 ·cases hm
end Go.Proofs.YtagkjnpggkmehaaGreatDoor
namespace Go.Proofs.YtagkjnpggkmehaaGreatDoor
theorem and_t {a b:Bool} (h:a=true) (k:b=true):(a && b)=true:=by rw [h,k]; rfl
theorem pf_laid:laidOutB Tryz.prog=true:=by kernel_rfl
theorem pf_maps:mapsRowed Tryz.prog=true:=by kernel_rfl
theorem pf_heard:Tryz.prog.stopsHeard=true:=by kernel_rfl
theorem pf_enter:Tryz.prog.mayEnter=true:=by kernel_rfl
end Go.Proofs.YtagkjnpggkmehaaGreatDoor
namespace Go.Proofs.YtagkjnpggkmehaaGreatDoor
open Sx Go.ChangeShapes Go.WideShapes Go.ChangeAt Go.RowKit
set_option maxRecDepth 100000 in
theorem textRests_contract (H:Type) (enc:TypeId × Value→H) (W:World) (base:Nat) (args:Array Value) (ds gs:List (DataW H)) (before:List MemPlace)
  (hval:∀ (j:Nat) t v,Tryz.f3.params[j]?=some t→args[j]?=some v→Value.okWide Tryz.prog W .any base t v)
  (hW:DataW.Whole enc Tryz.prog Tryz.f3.params.toList Rows.fnExactTextRestsSpec.vars false W args.toList ds gs before) (hL:laidMetH Tryz.prog Rows.fnExactTextRestsRow.laid W) (hsh:W.ShapedOpen Tryz.prog) :
  Calls Tryz.prog 3 args W fun e W'=>∃ v,e=.returned v∧Rows.fnExactTextRestsSpec.post enc Tryz.prog Tryz.f3 false true false false W args v W':=by
 have hW':=hW
 obtain⟨p,q,hA0,hV,rfl,hfz,hnd⟩:=hW
 have hA:DataW.TrodAll enc Tryz.prog W 0 (fun _=>true) true Tryz.f3.params.toList args.toList ds p:=hA0
 rw [Tryz.params3] at hA hval
 obtain⟨v0,d0,hargs,rfl,h0⟩:=trodAll_one hA
 obtain rfl:args=#[v0]:=by cases args; simp_all
 obtain⟨g0,t0,cs,fuel,d,p2,rfl,_⟩:=trodVars_one hV
 obtain⟨a0,rfl,rfl,rfl,_⟩:=Go.ChangeMaps.open_string Tryz.underlying9 (hval 0 9 v0 rfl rfl) h0
 have hL1:laidMet Tryz.prog Rows.fnExactTextRestsRow.laid W:=hL
 obtain⟨t,ht⟩:=table (W:=W) (hL1.tail.tail.tail.tail)
 have hTab:=hasTab_of (hL1.tail.tail)
 refine((law_TextRests ⟨⟨hasCur_of ht,hTab⟩,hasMax_of hsh⟩ a0).2 W (knowOf_on W)).mono ?_
 rintro e W' ⟨V',r,rfl,hfr,hon,hle,rfl⟩
 exact⟨_,rfl,post_law Tryz.laidOut (rowsOk_spec (by kernel_rfl)) (by kernel_rfl) hW' (below_of_fr hfr (knowOf_on W) hon hle) (tb:=4) rfl Tryz.underlying4 rfl rfl rfl⟩
theorem textRests_laid (os:Os):laidMet Tryz.prog Rows.fnExactTextRestsRow.laid ((laidWorld os).forCall (fun _ _=>0) ⟨#[],#[(.string ⟨#[]⟩:Value)],[]⟩).memory :=
 laidMet_of_run' 8 (by kernel_rfl) (by kernel_rfl)
theorem textRests_reads (os:Os) {H:Type} (enc:TypeId × Value→H):DataW.whole enc Tryz.prog ((laidWorld os).forCall (fun _ _=>0) ⟨#[],#[(.string ⟨#[]⟩:Value)],[]⟩).memory Tryz.f3.params.toList Rows.fnExactTextRestsSpec.vars false #[(.string ⟨#[]⟩:Value)].toList 8=some ([.lit (.string [])],[curData curI],MemPlace.row ⟨0,0,none⟩ 80):=by kernel_rfl
set_option maxRecDepth 100000 in
theorem textRests_lifted (os:Os) (started:os.Started) (H:Type) (enc:TypeId × Value→H) (F:Stop.Interp) :
  ReturnsInHanded {} Tryz.checked os 3 .any ((OpenSpec.ofChange Rows.fnExactTextRestsSpec).preRow enc Tryz.prog Tryz.f3 Rows.fnExactTextRestsRow.domain false Rows.fnExactTextRestsRow.laid) (((OpenSpec.ofChange Rows.fnExactTextRestsSpec).at F).post enc Tryz.prog Tryz.f3 false true false false):=by
 have hx:=textRests_reads os enc
 refine returnsInHanded_of_row (C:=Tryz.checked) (s:=OpenSpec.ofChange Rows.fnExactTextRestsSpec) Tryz.own started (by kernel_rfl) Tryz.func3
  (witness_row_at (enc:=enc) (C:=Tryz.checked) false (laidWorld os) #[(.string ⟨#[]⟩:Value)] rfl (by kernel_rfl) (by kernel_rfl) (by kernel_rfl)
   (OpenSpec.preRow_of_cond 8 hx rfl (fun k hk=>by cases hk) (by kernel_rfl) (textRests_laid os))) ?_
 intro W base args ds gs before hval hW _ _ _ hL hsh _
 exact textRests_contract H enc W base args ds gs before hval hW hL hsh
theorem textRests_c_inPlace:(Rows.fnExactTextRestsRow.inPlace == Tryz.prog.inPlace 3)=true:=by kernel_rfl
theorem textRests_c_unfollowed:(Rows.fnExactTextRestsRow.unfollowed == Tryz.prog.unfollowed 3)=true:=by kernel_rfl
theorem textRests_c_recurses:(Rows.fnExactTextRestsRow.recurses == Tryz.prog.recurses 3)=true:=by kernel_rfl
theorem textRests_c_named:(Rows.fnExactTextRestsRow.named == Tryz.prog.varsNamed 3)=true:=by kernel_rfl
theorem textRests_c_plainKeys:(Rows.fnExactTextRestsRow.plainKeys == Tryz.prog.plainKeys)=true:=by kernel_rfl
theorem textRests_c_lifted:(Rows.fnExactTextRestsRow.lifted == Tryz.prog.liftsFinal)=true:=by kernel_rfl
theorem textRests_c_make:(Tryz.prog.make == some Rows.fnExactTextRestsRow.make)=true:=by kernel_rfl
theorem textRests_closed:joinedFacts Tryz.prog 3 Tryz.f3 (OpenSpec.ofChange Rows.fnExactTextRestsSpec).bare Rows.fnExactTextRestsRow=true:=by
 unfold joinedFacts
 exact and_t (and_t (and_t (and_t (and_t (and_t (and_t (and_t (and_t (and_t (and_t (and_t (and_t (and_t (and_t (and_t (and_t (and_t (and_t (and_t (and_t (and_t (and_t (and_t (and_t (and_t (and_t (and_t (and_t (and_t (and_t ((by kernel_rfl)) pf_laid) pf_maps) (by kernel_rfl)) (by kernel_rfl)) (by kernel_rfl)) (by kernel_rfl)) (by kernel_rfl)) (by kernel_rfl)) textRests_c_inPlace) textRests_c_unfollowed) textRests_c_recurses) textRests_c_named) (by kernel_rfl)) (by kernel_rfl)) (by kernel_rfl)) (by kernel_rfl)) (by kernel_rfl)) (by kernel_rfl)) (by kernel_rfl)) (by kernel_rfl)) (by kernel_rfl)) textRests_c_plainKeys) (by kernel_rfl)) pf_heard) pf_enter) textRests_c_lifted) textRests_c_make) (by kernel_rfl)) (by kernel_rfl)) (by kernel_rfl)) (by kernel_rfl)
theorem textRests_said:Rows.FnExactTextRestsSaid :=
 OpenClaim.holds_of_cond 3 Tryz.f3 rfl rfl rfl rfl rfl rfl rfl ⟨rfl,rfl,rfl,rfl,rfl⟩ rfl rfl rfl rfl rfl (by kernel_rfl) Tryz.func3 textRests_closed
  (of_decide_eq_true (by kernel_rfl)) (by unfold Func.isWrapper; first | (rw [if_pos (by decide +kernel)]; kernel_rfl) | (rw [if_neg (by decide +kernel)]; exact⟨rfl,rfl⟩))
  (fun os started H enc _ F=>by rw [OpenClaim.pre_eq_preRow]; exact textRests_lifted os started H enc F)
theorem textRests_plain (f : FuncId) (fn : Func) (hf : Tryz.pinned.checked.prog.funcNamed "loop.example/g00793/laws.FnExactTextRests" = some f) (hfn : Tryz.pinned.checked.prog.funcs[f]? = some fn) :
  false=Tryz.pinned.checked.prog.looks []∧∀ (j:Nat) t,fn.params[j]?=some t→Tryz.pinned.checked.prog.wantsStandIn t=false:=by
 obtain rfl : f = 3 := Option.some.inj ((show Tryz.prog.funcNamed "loop.example/g00793/laws.FnExactTextRests" = some 3 by kernel_rfl).symm.trans hf) |>.symm
 obtain rfl:fn=Tryz.f3:=(Option.some.inj (Tryz.func3.symm.trans hfn)).symm
 refine⟨by kernel_rfl,fun j t ht=>?_⟩
 rw [Tryz.params3] at ht
 obtain rfl:t=9:=by simpa using Array.mem_of_getElem? ht
 exact(show Tryz.prog.wantsStandIn 9=false by kernel_rfl)
theorem textRests_card:Rows.FnExactTextRestsCardSaid :=
 Claim7.holds_tied_plain_at .later [] _ _ _ _ textRests_said (fun _ h=>by cases h) (by kernel_rfl) (fun _ h=>by cases h) fnExactTextRests_row_tie rfl ⟨rfl,rfl⟩ (by kernel_rfl) rfl textRests_plain (by kernel_rfl)
end Go.Proofs.YtagkjnpggkmehaaGreatDoor
