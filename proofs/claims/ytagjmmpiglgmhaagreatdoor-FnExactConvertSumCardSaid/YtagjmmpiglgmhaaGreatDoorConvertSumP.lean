/-
  The program's ConvertSum returns what the reference's returns, for all arguments.
  Condition: the table of currencies is as the program's text lays it (the card ties it to that text).
-/
import Derived.Test.YtagjmmpiglgmhaaGreatDoorLawConvertSum
import Derived.Test.YtagjmmpiglgmhaaGreatDoorArg
import Derived.Test.YtagjmmpiglgmhaaGreatDoorErrC
namespace Go.Proofs.YtagjmmpiglgmhaaGreatDoor
open Sx Go.ChangeShapes Go.WideShapes Go.ChangeAt Go.RowKit
set_option maxRecDepth 100000 in
theorem convertSum_contract (H:Type) (enc:TypeId × Value→H) (W:World) (base:Nat) (args:Array Value) (ds gs:List (DataW H)) (before:List MemPlace)
  (hval:∀ (j:Nat) t v,Tryz.f4.params[j]?=some t→args[j]?=some v→Value.okWide Tryz.prog W .any base t v)
  (hW:DataW.Whole enc Tryz.prog Tryz.f4.params.toList Rows.fnExactConvertSumSpec.vars false W args.toList ds gs before) (hL:laidMetH Tryz.prog Rows.fnExactConvertSumRow.laid W) :
  Calls Tryz.prog 4 args W fun e W'=>∃ v,e=.returned v∧Rows.fnExactConvertSumSpec.post enc Tryz.prog Tryz.f4 false true false false W args v W':=by
 have hW':=hW
 obtain⟨p,q,hA0,hV,rfl,hfz,hnd⟩:=hW
 have hA:DataW.TrodAll enc Tryz.prog W 0 (fun _=>true) true Tryz.f4.params.toList args.toList ds p:=hA0
 rw [Tryz.params4] at hA hval
 obtain⟨v0,v1,v2,v3,d0,d1,d2,d3,p0,p1,p2,p3,hargs,rfl,rfl,h0,h1,h2,h3⟩:=trodAll_four hA
 obtain rfl:args=#[v0,v1,v2,v3]:=by cases args; simp_all
 obtain⟨g0,t0,cs,fuel,d,p2,rfl,_⟩:=trodVars_one hV
 have ht0:Tryz.prog.underlying 24=some (.struct fsRates):=by kernel_rfl
 obtain⟨c0,x0,f0,rfl,hx0⟩:=arg_row (rd_Rates W) ht0 (hval 0 24 v0 rfl rfl) h0
 obtain⟨c1,x1,f1,rfl,hx1⟩:=arg_slice (rd_Money W) (show Tryz.prog.underlying 51=some (.slice 29) by kernel_rfl) (by kernel_rfl) (by decide) (hval 1 51 v1 rfl rfl) h1
 obtain⟨a2,rfl,rfl,rfl,_⟩:=Go.ChangeMaps.open_string Tryz.underlying9 (hval 2 9 v2 rfl rfl) h2
 obtain⟨a3,rfl,rfl,rfl,_⟩:=open_int Tryz.underlying3 (hval 3 3 v3 rfl rfl) h3
 have hL0 : laidMet Tryz.prog (Rows.fnExactConvertSumRow.laid.filter fun x => x.2.handleName?.isNone) W ∧ handlesMet Tryz.prog [("errors.errorType", Rows.laid_errors_errorType)] W := hL
 obtain⟨t,ht⟩:=table (W:=W) (hL0.1)
 refine((law_ConvertSum ⟨hasCur_of ht,hasErr_of hL0.2⟩ hx0 hx1 a2 a3).2 W (knowOf_on W)).mono ?_
 rintro e W' ⟨V',r,rfl,hfr,hon,hle,rfl⟩
 exact⟨_,rfl,post_law Tryz.laidOut (rowsOk_spec (by kernel_rfl)) (by kernel_rfl) hW' (below_of_fr hfr (knowOf_on W) hon hle) (tb:=4) rfl Tryz.underlying4 rfl rfl rfl⟩
theorem convertSum_laid (os:Os):laidMetH Tryz.prog Rows.fnExactConvertSumRow.laid ((laidWorld os).forCall (fun _ _=>0) ⟨#[],#[(.agg #[.string ⟨#[]⟩,.slice none 0 0]:Value),(.slice none 0 0:Value),(.string ⟨#[]⟩:Value),(.int .i64 0:Value)],[]⟩).memory :=
 laidMetH_of_parts (laidMet_of_run' 8 (by kernel_rfl) (by kernel_rfl)) (by kernel_rfl)
theorem convertSum_reads (os:Os) {H:Type} (enc:TypeId × Value→H):DataW.whole enc Tryz.prog ((laidWorld os).forCall (fun _ _=>0) ⟨#[],#[(.agg #[.string ⟨#[]⟩,.slice none 0 0]:Value),(.slice none 0 0:Value),(.string ⟨#[]⟩:Value),(.int .i64 0:Value)],[]⟩).memory Tryz.f4.params.toList Rows.fnExactConvertSumSpec.vars false #[(.agg #[.string ⟨#[]⟩,.slice none 0 0]:Value),(.slice none 0 0:Value),(.string ⟨#[]⟩:Value),(.int .i64 0:Value)].toList 8=some ([.agg [.lit (.string []),.nil],.nil,.lit (.string []),.lit (.int .i64 0)],[curData curI],MemPlace.row ⟨1,0,none⟩ 80):=by kernel_rfl
set_option maxRecDepth 100000 in
theorem convertSum_lifted (os:Os) (started:os.Started) (H:Type) (enc:TypeId × Value→H) (F:Stop.Interp) :
  ReturnsInHanded {} Tryz.checked os 4 .any ((OpenSpec.ofChange Rows.fnExactConvertSumSpec).preRow enc Tryz.prog Tryz.f4 Rows.fnExactConvertSumRow.domain false Rows.fnExactConvertSumRow.laid) (((OpenSpec.ofChange Rows.fnExactConvertSumSpec).at F).post enc Tryz.prog Tryz.f4 false true false false):=by
 have hx:=convertSum_reads os enc
 refine returnsInHanded_of_row (C:=Tryz.checked) (s:=OpenSpec.ofChange Rows.fnExactConvertSumSpec) Tryz.own started (by kernel_rfl) Tryz.func4
  (witness_row_at (enc:=enc) (C:=Tryz.checked) false (laidWorld os) #[(.agg #[.string ⟨#[]⟩,.slice none 0 0]:Value),(.slice none 0 0:Value),(.string ⟨#[]⟩:Value),(.int .i64 0:Value)] rfl (by kernel_rfl) (by kernel_rfl) (by kernel_rfl)
   (OpenSpec.preRow_of_cond 8 hx rfl (fun k hk=>by cases hk) (by kernel_rfl) (convertSum_laid os))) ?_
 intro W base args ds gs before hval hW _ _ _ hL _ _
 exact convertSum_contract H enc W base args ds gs before hval hW hL
theorem convertSum_said:Rows.FnExactConvertSumSaid :=
 OpenClaim.holds_of_cond 4 Tryz.f4 rfl rfl rfl rfl rfl rfl rfl ⟨rfl,rfl,rfl,rfl,rfl⟩ rfl rfl rfl rfl rfl (by kernel_rfl) Tryz.func4 (by kernel_rfl)
  (of_decide_eq_true (by kernel_rfl)) (by unfold Func.isWrapper; first | (rw [if_pos (by decide +kernel)]; kernel_rfl) | (rw [if_neg (by decide +kernel)]; exact⟨rfl,rfl⟩))
  (fun os started H enc _ F=>by rw [OpenClaim.pre_eq_preRow]; exact convertSum_lifted os started H enc F)
theorem convertSum_plain (f : FuncId) (fn : Func) (hf : Tryz.pinned.checked.prog.funcNamed "loop.example/g00793/laws.FnExactConvertSum" = some f) (hfn : Tryz.pinned.checked.prog.funcs[f]? = some fn) :
  true=Tryz.pinned.checked.prog.looks []∧∀ (j:Nat) t,fn.params[j]?=some t→Tryz.pinned.checked.prog.wantsStandIn t=false:=by
 obtain rfl : f = 4 := Option.some.inj ((show Tryz.prog.funcNamed "loop.example/g00793/laws.FnExactConvertSum" = some 4 by kernel_rfl).symm.trans hf) |>.symm
 obtain rfl:fn=Tryz.f4:=(Option.some.inj (Tryz.func4.symm.trans hfn)).symm
 refine⟨by kernel_rfl,fun j t ht=>?_⟩
 rw [Tryz.params4] at ht
 rcases(show t=24∨t=51∨t=9∨t=3 by simpa using Array.mem_of_getElem? ht) with rfl | rfl | rfl | rfl
 ·exact(show Tryz.prog.wantsStandIn 24=false by kernel_rfl)
 ·exact(show Tryz.prog.wantsStandIn 51=false by kernel_rfl)
 ·exact(show Tryz.prog.wantsStandIn 9=false by kernel_rfl)
 ·exact(show Tryz.prog.wantsStandIn 3=false by kernel_rfl)
theorem convertSum_card:Rows.FnExactConvertSumCardSaid :=
 Claim7.holds_tied_plain_at .later [] _ _ _ _ convertSum_said (fun _ h=>by cases h) (by kernel_rfl) (fun _ h=>by cases h) fnExactConvertSum_row_tie rfl ⟨rfl,rfl⟩ (by kernel_rfl) rfl convertSum_plain (by kernel_rfl)
end Go.Proofs.YtagjmmpiglgmhaaGreatDoor
