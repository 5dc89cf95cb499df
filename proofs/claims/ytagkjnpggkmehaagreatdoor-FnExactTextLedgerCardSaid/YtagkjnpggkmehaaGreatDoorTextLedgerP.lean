/-
  The program's TextLedger returns what the reference's returns, for all arguments.
  Condition: the table of currencies is as the program's text lays it (the card ties it to that text).
-/
import Derived.Test.YtagkjnpggkmehaaGreatDoorChecked
import Derived.JoinedCond
import Derived.Test.YtagkjnpggkmehaaGreatDoorRead
import Derived.Test.YtagkjnpggkmehaaGreatDoorMaxP
namespace Go.Proofs.YtagkjnpggkmehaaGreatDoor
theorem and_t {a b:Bool} (h:a=true) (k:b=true):(a && b)=true:=by rw [h,k]; rfl
theorem pf_laid:laidOutB Tryz.prog=true:=by kernel_rfl
theorem pf_maps:mapsRowed Tryz.prog=true:=by kernel_rfl
theorem pf_heard:Tryz.prog.stopsHeard=true:=by kernel_rfl
theorem pf_enter:Tryz.prog.mayEnter=true:=by kernel_rfl
end Go.Proofs.YtagkjnpggkmehaaGreatDoor
namespace Go.Proofs.YtagkjnpggkmehaaGreatDoor
open Sx Go.ChangeShapes Go.WideShapes Go.ChangeAt Go.RowKit
set_option maxRecDepth 100000 in
theorem textLedger_contract (H:Type) (enc:TypeId × Value→H) (W:World) (base:Nat) (args:Array Value) (ds gs:List (DataW H)) (before:List MemPlace)
  (hval:∀ (j:Nat) t v,Tryz.f5.params[j]?=some t→args[j]?=some v→Value.okWide Tryz.prog W .any base t v)
  (hW:DataW.Whole enc Tryz.prog Tryz.f5.params.toList Rows.fnExactTextLedgerSpec.vars false W args.toList ds gs before) (hL:laidMetH Tryz.prog Rows.fnExactTextLedgerRow.laid W) (hsh:W.ShapedOpen Tryz.prog) :
  Calls Tryz.prog 5 args W fun e W'=>∃ v,e=.returned v∧Rows.fnExactTextLedgerSpec.post enc Tryz.prog Tryz.f5 false true false false W args v W':=by
 have hW':=hW
 obtain⟨p,q,hA0,hV,rfl,hfz,hnd⟩:=hW
 have hA:DataW.TrodAll enc Tryz.prog W 0 (fun _=>true) true Tryz.f5.params.toList args.toList ds p:=hA0
 rw [Tryz.params5] at hA hval
 obtain⟨v0,d0,hargs,rfl,h0⟩:=trodAll_one hA
 obtain rfl:args=#[v0]:=by cases args; simp_all
 obtain⟨g0,t0,cs,fuel,d,p2,rfl,_⟩:=trodVars_one hV
 obtain⟨a0,rfl,rfl,rfl,_⟩:=Go.ChangeMaps.open_string Tryz.underlying9 (hval 0 9 v0 rfl rfl) h0
 have hL1:laidMet Tryz.prog Rows.fnExactTextLedgerRow.laid W:=hL
 obtain⟨t,ht⟩:=table (W:=W) (hL1.tail.tail.tail)
 have hTab:=hasTab_of (hL1.tail.tail)
 refine((law_TextLedger ⟨⟨hasCur_of ht,hTab⟩,hasMax_of hsh⟩ a0).2 W (knowOf_on W)).mono ?_
 rintro e W' ⟨V',r,rfl,hfr,hon,hle,rfl⟩
 exact⟨_,rfl,post_law Tryz.laidOut (rowsOk_spec (by kernel_rfl)) (by kernel_rfl) hW' (below_of_fr hfr (knowOf_on W) hon hle) (tb:=4) rfl Tryz.underlying4 rfl rfl rfl⟩
theorem textLedger_laid (os:Os):laidMet Tryz.prog Rows.fnExactTextLedgerRow.laid ((laidWorld os).forCall (fun _ _=>0) ⟨#[],#[(.string ⟨#[]⟩:Value)],[]⟩).memory :=
 laidMet_of_run' 8 (by kernel_rfl) (by kernel_rfl)
theorem textLedger_reads (os:Os) {H:Type} (enc:TypeId × Value→H):DataW.whole enc Tryz.prog ((laidWorld os).forCall (fun _ _=>0) ⟨#[],#[(.string ⟨#[]⟩:Value)],[]⟩).memory Tryz.f5.params.toList Rows.fnExactTextLedgerSpec.vars false #[(.string ⟨#[]⟩:Value)].toList 8=some ([.lit (.string [])],[curData curI],MemPlace.row ⟨0,0,none⟩ 80):=by kernel_rfl
set_option maxRecDepth 100000 in
theorem textLedger_lifted (os:Os) (started:os.Started) (H:Type) (enc:TypeId × Value→H) (F:Stop.Interp) :
  ReturnsInHanded {} Tryz.checked os 5 .any ((OpenSpec.ofChange Rows.fnExactTextLedgerSpec).preRow enc Tryz.prog Tryz.f5 Rows.fnExactTextLedgerRow.domain false Rows.fnExactTextLedgerRow.laid) (((OpenSpec.ofChange Rows.fnExactTextLedgerSpec).at F).post enc Tryz.prog Tryz.f5 false true false false):=by
 have hx:=textLedger_reads os enc
 refine returnsInHanded_of_row (C:=Tryz.checked) (s:=OpenSpec.ofChange Rows.fnExactTextLedgerSpec) Tryz.own started (by kernel_rfl) Tryz.func5
  (witness_row_at (enc:=enc) (C:=Tryz.checked) false (laidWorld os) #[(.string ⟨#[]⟩:Value)] rfl (by kernel_rfl) (by kernel_rfl) (by kernel_rfl)
   (OpenSpec.preRow_of_cond 8 hx rfl (fun k hk=>by cases hk) (by kernel_rfl) (textLedger_laid os))) ?_
 intro W base args ds gs before hval hW _ _ _ hL hsh _
 exact textLedger_contract H enc W base args ds gs before hval hW hL hsh
theorem textLedger_c_inPlace:(Rows.fnExactTextLedgerRow.inPlace == Tryz.prog.inPlace 5)=true:=by kernel_rfl
theorem textLedger_c_unfollowed:(Rows.fnExactTextLedgerRow.unfollowed == Tryz.prog.unfollowed 5)=true:=by kernel_rfl
theorem textLedger_c_recurses:(Rows.fnExactTextLedgerRow.recurses == Tryz.prog.recurses 5)=true:=by kernel_rfl
theorem textLedger_c_named:(Rows.fnExactTextLedgerRow.named == Tryz.prog.varsNamed 5)=true:=by kernel_rfl
theorem textLedger_c_plainKeys:(Rows.fnExactTextLedgerRow.plainKeys == Tryz.prog.plainKeys)=true:=by kernel_rfl
theorem textLedger_c_lifted:(Rows.fnExactTextLedgerRow.lifted == Tryz.prog.liftsFinal)=true:=by kernel_rfl
theorem textLedger_c_make:(Tryz.prog.make == some Rows.fnExactTextLedgerRow.make)=true:=by kernel_rfl
theorem textLedger_closed:joinedFacts Tryz.prog 5 Tryz.f5 (OpenSpec.ofChange Rows.fnExactTextLedgerSpec).bare Rows.fnExactTextLedgerRow=true:=by
 unfold joinedFacts
 exact and_t (and_t (and_t (and_t (and_t (and_t (and_t (and_t (and_t (and_t (and_t (and_t (and_t (and_t (and_t (and_t (and_t (and_t (and_t (and_t (and_t (and_t (and_t (and_t (and_t (and_t (and_t (and_t (and_t (and_t (and_t ((by kernel_rfl)) pf_laid) pf_maps) (by kernel_rfl)) (by kernel_rfl)) (by kernel_rfl)) (by kernel_rfl)) (by kernel_rfl)) (by kernel_rfl)) textLedger_c_inPlace) textLedger_c_unfollowed) textLedger_c_recurses) textLedger_c_named) (by kernel_rfl)) (by kernel_rfl)) (by kernel_rfl)) (by kernel_rfl)) (by kernel_rfl)) (by kernel_rfl)) (by kernel_rfl)) (by kernel_rfl)) (by kernel_rfl)) textLedger_c_plainKeys) (by kernel_rfl)) pf_heard) pf_enter) textLedger_c_lifted) textLedger_c_make) (by kernel_rfl)) (by kernel_rfl)) (by kernel_rfl)) (by kernel_rfl)
theorem textLedger_said:Rows.FnExactTextLedgerSaid :=
 OpenClaim.holds_of_cond 5 Tryz.f5 rfl rfl rfl rfl rfl rfl rfl ⟨rfl,rfl,rfl,rfl,rfl⟩ rfl rfl rfl rfl rfl (by kernel_rfl) Tryz.func5 textLedger_closed
  (of_decide_eq_true (by kernel_rfl)) (by unfold Func.isWrapper; first | (rw [if_pos (by decide +kernel)]; kernel_rfl) | (rw [if_neg (by decide +kernel)]; exact⟨rfl,rfl⟩))
  (fun os started H enc _ F=>by rw [OpenClaim.pre_eq_preRow]; exact textLedger_lifted os started H enc F)
theorem textLedger_plain (f : FuncId) (fn : Func) (hf : Tryz.pinned.checked.prog.funcNamed "loop.example/g00793/laws.FnExactTextLedger" = some f) (hfn : Tryz.pinned.checked.prog.funcs[f]? = some fn) :
  false=Tryz.pinned.checked.prog.looks []∧∀ (j:Nat) t,fn.params[j]?=some t→Tryz.pinned.checked.prog.wantsStandIn t=false:=by
 obtain rfl : f = 5 := Option.some.inj ((show Tryz.prog.funcNamed "loop.example/g00793/laws.FnExactTextLedger" = some 5 by kernel_rfl).symm.trans hf) |>.symm
 obtain rfl:fn=Tryz.f5:=(Option.some.inj (Tryz.func5.symm.trans hfn)).symm
 refine⟨by kernel_rfl,fun j t ht=>?_⟩
 rw [Tryz.params5] at ht
 obtain rfl:t=9:=by simpa using Array.mem_of_getElem? ht
 exact(show Tryz.prog.wantsStandIn 9=false by kernel_rfl)
theorem textLedger_card:Rows.FnExactTextLedgerCardSaid :=
 Claim7.holds_tied_plain_at .later [] _ _ _ _ textLedger_said (fun _ h=>by cases h) (by kernel_rfl) (fun _ h=>by cases h) fnExactTextLedger_row_tie rfl ⟨rfl,rfl⟩ (by kernel_rfl) rfl textLedger_plain (by kernel_rfl)
end Go.Proofs.YtagkjnpggkmehaaGreatDoor
