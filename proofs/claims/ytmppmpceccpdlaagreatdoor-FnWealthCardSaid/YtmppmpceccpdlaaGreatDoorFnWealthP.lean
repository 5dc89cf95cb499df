/-
  The wealth of a ledger is the sum of all amounts, converted and rounded once, for all inputs.
  Condition: the table of currencies is as the program's text lays it (the card ties it to that text).
-/
import Derived.Test.YtmppmpceccpdlaaGreatDoorRdBy
import Derived.Test.YtmppmpceccpdlaaGreatDoorFact
namespace Go.Proofs.YtmppmpceccpdlaaGreatDoor
open Sx Go.ChangeShapes Go.WideShapes Go.ChangeAt Go.RowKit
set_option maxRecDepth 100000 in
theorem fnWealth_contract (H:Type) (enc:TypeId × Value→H) (W:World) (base:Nat) (args:Array Value) (ds gs:List (DataW H)) (before:List MemPlace)
  (hval:∀ (j:Nat) t v,Tryz.f5.params[j]?=some t→args[j]?=some v→Value.okWide Tryz.prog W .any base t v)
  (hW:DataW.Whole enc Tryz.prog Tryz.f5.params.toList Rows.fnWealthSpec.vars false W args.toList ds gs before) (hL:laidMetH Tryz.prog Rows.fnWealthRow.laid W) :
  Calls Tryz.prog 5 args W fun e W'=>∃ v,e=.returned v∧Rows.fnWealthSpec.post enc Tryz.prog Tryz.f5 false true false false W args v W':=by
 have hW':=hW
 obtain⟨p,q,hA0,hV,rfl,hfz,hnd⟩:=hW
 have hA:DataW.TrodAll enc Tryz.prog W 0 (fun _=>true) true Tryz.f5.params.toList args.toList ds p:=hA0
 rw [Tryz.params5] at hA hval
 obtain⟨v0,d0,hargs,rfl,h0⟩:=trodAll_one hA
 obtain rfl:args=#[v0]:=by cases args; simp_all
 obtain⟨g0,t0,cs,fuel,d,p2,rfl,_⟩:=trodVars_one hV
 obtain⟨c0,x0,f0,rfl,hx0⟩:=arg_slice (rd_By W) (show Tryz.prog.underlying 22=some (.slice 5) by kernel_rfl) (by kernel_rfl) (by decide) (hval 0 22 v0 rfl rfl) h0
 have hL0 : laidMet Tryz.prog (Rows.fnWealthRow.laid.filter fun x => x.2.handleName?.isNone) W ∧ handlesMet Tryz.prog [("errors.errorType", Rows.laid_errors_errorType)] W := hL
 obtain⟨t,ht⟩:=table (W:=W) (hL0.1)
 refine((law_FnWealth ⟨hasCur_of ht,hasErr_of hL0.2⟩ hx0).2 W (knowOf_on W)).mono ?_
 rintro e W' ⟨V',r,rfl,hfr,hon,hle,rfl⟩
 exact⟨_,rfl,post_law Tryz.laidOut (rowsOk_spec (by kernel_rfl)) (by kernel_rfl) hW' (below_of_fr hfr (knowOf_on W) hon hle) (tb:=4) rfl Tryz.underlying4 rfl rfl rfl⟩
theorem fnWealth_laid (os:Os):laidMetH Tryz.prog Rows.fnWealthRow.laid ((laidWorld os).forCall (fun _ _=>0) ⟨#[],#[(.slice none 0 0:Value)],[]⟩).memory :=
 laidMetH_of_parts (laidMet_of_run' 8 (by kernel_rfl) (by kernel_rfl)) (by kernel_rfl)
theorem fnWealth_reads (os:Os) {H:Type} (enc:TypeId × Value→H):DataW.whole enc Tryz.prog ((laidWorld os).forCall (fun _ _=>0) ⟨#[],#[(.slice none 0 0:Value)],[]⟩).memory Tryz.f5.params.toList Rows.fnWealthSpec.vars false #[(.slice none 0 0:Value)].toList 8=some ([.nil],[curData curI],MemPlace.row ⟨0,0,none⟩ 80):=by kernel_rfl
set_option maxRecDepth 100000 in
theorem fnWealth_lifted (os:Os) (started:os.Started) (H:Type) (enc:TypeId × Value→H) (F:Stop.Interp) :
  ReturnsInHanded {} Tryz.checked os 5 .any ((OpenSpec.ofChange Rows.fnWealthSpec).preRow enc Tryz.prog Tryz.f5 Rows.fnWealthRow.domain false Rows.fnWealthRow.laid) (((OpenSpec.ofChange Rows.fnWealthSpec).at F).post enc Tryz.prog Tryz.f5 false true false false):=by
 have hx:=fnWealth_reads os enc
 refine returnsInHanded_of_row (C:=Tryz.checked) (s:=OpenSpec.ofChange Rows.fnWealthSpec) Tryz.own started (by kernel_rfl) Tryz.func5
  (witness_row_at (enc:=enc) (C:=Tryz.checked) false (laidWorld os) #[(.slice none 0 0:Value)] rfl (by kernel_rfl) (by kernel_rfl) (by kernel_rfl)
   (OpenSpec.preRow_of_cond 8 hx rfl (fun k hk=>by cases hk) (by kernel_rfl) (fnWealth_laid os))) ?_
 intro W base args ds gs before hval hW _ _ _ hL _ _
 exact fnWealth_contract H enc W base args ds gs before hval hW hL
theorem fnWealth_c_inPlace:(Rows.fnWealthRow.inPlace == Tryz.prog.inPlace 5)=true:=by kernel_rfl
theorem fnWealth_c_unfollowed:(Rows.fnWealthRow.unfollowed == Tryz.prog.unfollowed 5)=true:=by kernel_rfl
theorem fnWealth_c_recurses:(Rows.fnWealthRow.recurses == Tryz.prog.recurses 5)=true:=by kernel_rfl
theorem fnWealth_c_named:(Rows.fnWealthRow.named == Tryz.prog.varsNamed 5)=true:=by kernel_rfl
theorem fnWealth_c_plainKeys:(Rows.fnWealthRow.plainKeys == Tryz.prog.plainKeys)=true:=by kernel_rfl
theorem fnWealth_c_lifted:(Rows.fnWealthRow.lifted == Tryz.prog.liftsFinal)=true:=by kernel_rfl
theorem fnWealth_c_make:(Tryz.prog.make == some Rows.fnWealthRow.make)=true:=by kernel_rfl
theorem fnWealth_closed:joinedFacts Tryz.prog 5 Tryz.f5 (OpenSpec.ofChange Rows.fnWealthSpec).bare Rows.fnWealthRow=true:=by
 unfold joinedFacts
 exact and_t (and_t (and_t (and_t (and_t (and_t (and_t (and_t (and_t (and_t (and_t (and_t (and_t (and_t (and_t (and_t (and_t (and_t (and_t (and_t (and_t (and_t (and_t (and_t (and_t (and_t (and_t (and_t (and_t (and_t (and_t ((by kernel_rfl)) pf_laid) pf_maps) (by kernel_rfl)) (by kernel_rfl)) (by kernel_rfl)) (by kernel_rfl)) (by kernel_rfl)) (by kernel_rfl)) fnWealth_c_inPlace) fnWealth_c_unfollowed) fnWealth_c_recurses) fnWealth_c_named) (by kernel_rfl)) (by kernel_rfl)) (by kernel_rfl)) (by kernel_rfl)) (by kernel_rfl)) (by kernel_rfl)) (by kernel_rfl)) (by kernel_rfl)) (by kernel_rfl)) fnWealth_c_plainKeys) (by kernel_rfl)) pf_heard) pf_enter) fnWealth_c_lifted) fnWealth_c_make) (by kernel_rfl)) (by kernel_rfl)) (by kernel_rfl)) (by kernel_rfl)
theorem fnWealth_said:Rows.FnWealthSaid :=
 OpenClaim.holds_of_cond 5 Tryz.f5 rfl rfl rfl rfl rfl rfl rfl ⟨rfl,rfl,rfl,rfl,rfl⟩ rfl rfl rfl rfl rfl (by kernel_rfl) Tryz.func5 fnWealth_closed
  (of_decide_eq_true (by kernel_rfl)) (by unfold Func.isWrapper; first | (rw [if_pos (by decide +kernel)]; kernel_rfl) | (rw [if_neg (by decide +kernel)]; exact⟨rfl,rfl⟩))
  (fun os started H enc _ F=>by rw [OpenClaim.pre_eq_preRow]; exact fnWealth_lifted os started H enc F)
theorem fnWealth_plain (f : FuncId) (fn : Func) (hf : Tryz.pinned.checked.prog.funcNamed "loop.example/g00793/laws.FnWealth" = some f) (hfn : Tryz.pinned.checked.prog.funcs[f]? = some fn) :
  true=Tryz.pinned.checked.prog.looks []∧∀ (j:Nat) t,fn.params[j]?=some t→Tryz.pinned.checked.prog.wantsStandIn t=false:=by
 obtain rfl : f = 5 := Option.some.inj ((show Tryz.prog.funcNamed "loop.example/g00793/laws.FnWealth" = some 5 by kernel_rfl).symm.trans hf) |>.symm
 obtain rfl:fn=Tryz.f5:=(Option.some.inj (Tryz.func5.symm.trans hfn)).symm
 refine⟨by kernel_rfl,fun j t ht=>?_⟩
 rw [Tryz.params5] at ht
 obtain rfl:t=22:=by simpa using Array.mem_of_getElem? ht
 exact(show Tryz.prog.wantsStandIn 22=false by kernel_rfl)
theorem fnWealth_card:Rows.FnWealthCardSaid :=
 Claim7.holds_tied_plain_at .later [] _ _ _ _ fnWealth_said (fun _ h=>by cases h) (by kernel_rfl) (fun _ h=>by cases h) fnWealth_row_tie rfl ⟨rfl,rfl⟩ (by kernel_rfl) rfl fnWealth_plain (by kernel_rfl)
end Go.Proofs.YtmppmpceccpdlaaGreatDoor
