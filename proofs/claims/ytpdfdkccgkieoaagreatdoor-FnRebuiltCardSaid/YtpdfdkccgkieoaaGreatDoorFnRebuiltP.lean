/-
  A ledger is made anew by its own script, and all of its lines are accepted, for all inputs.
  Condition: the table of currencies is as the program's text lays it (the card ties it to that text).
-/
import Derived.Test.YtpdfdkccgkieoaaGreatDoorCmp
import Derived.Test.YtpdfdkccgkieoaaGreatDoorRbL
import Derived.Test.YtpdfdkccgkieoaaGreatDoorFact
namespace Go.Proofs.YtpdfdkccgkieoaaGreatDoor
open Sx Go.ChangeShapes Go.WideShapes Go.ChangeAt Go.RowKit
set_option maxRecDepth 100000 in
theorem fnRebuilt_contract (H:Type) (enc:TypeId × Value→H) (W:World) (base:Nat) (args:Array Value) (ds gs:List (DataW H)) (before:List MemPlace)
  (hval:∀ (j:Nat) t v,Tryz.f3.params[j]?=some t→args[j]?=some v→Value.okWide Tryz.prog W .any base t v)
  (hW:DataW.Whole enc Tryz.prog Tryz.f3.params.toList Rows.fnRebuiltSpec.vars false W args.toList ds gs before) (hL:laidMetH Tryz.prog Rows.fnRebuiltRow.laid W) :
  Calls Tryz.prog 3 args W fun e W'=>∃ v,e=.returned v∧Rows.fnRebuiltSpec.post enc Tryz.prog Tryz.f3 false true false false W args v W':=by
 have hW':=hW
 obtain⟨p,q,hA0,hV,rfl,hfz,hnd⟩:=hW
 have hA:DataW.TrodAll enc Tryz.prog W 0 (fun _=>true) true Tryz.f3.params.toList args.toList ds p:=hA0
 rw [Tryz.params3] at hA hval
 obtain⟨v0,d0,hargs,rfl,h0⟩:=trodAll_one hA
 obtain rfl:args=#[v0]:=by cases args; simp_all
 obtain⟨g0,t0,cs,fuel,d,p2,rfl,_⟩:=trodVars_one hV
 obtain⟨c0,x0,f0,rfl,hx0⟩:=arg_slice (rd_By W) (show Tryz.prog.underlying 22=some (.slice 5) by kernel_rfl) (by kernel_rfl) (by decide) (hval 0 22 v0 rfl rfl) h0
 have hL1:laidMet Tryz.prog Rows.fnRebuiltRow.laid W:=hL
 obtain⟨t,ht⟩:=table (W:=W) (hL1.tail.tail.tail.tail.tail)
 have hTab:=hasTab_of (hL1.tail.tail)
 refine((law_FnRebuilt ⟨hasCur_of ht,hTab⟩ hx0).2 W (knowOf_on W)).mono ?_
 rintro e W' ⟨V',r,rfl,hfr,hon,hle,rfl⟩
 exact⟨_,rfl,post_law Tryz.laidOut (rowsOk_spec (by kernel_rfl)) (by kernel_rfl) hW' (below_of_fr hfr (knowOf_on W) hon hle) (tb:=4) rfl Tryz.underlying4 rfl rfl rfl⟩
theorem fnRebuilt_laid (os:Os):laidMet Tryz.prog Rows.fnRebuiltRow.laid ((laidWorld os).forCall (fun _ _=>0) ⟨#[],#[(.slice none 0 0:Value)],[]⟩).memory :=
 laidMet_of_run' 8 (by kernel_rfl) (by kernel_rfl)
theorem fnRebuilt_reads (os:Os) {H:Type} (enc:TypeId × Value→H):DataW.whole enc Tryz.prog ((laidWorld os).forCall (fun _ _=>0) ⟨#[],#[(.slice none 0 0:Value)],[]⟩).memory Tryz.f3.params.toList Rows.fnRebuiltSpec.vars false #[(.slice none 0 0:Value)].toList 8=some ([.nil],[curData curI],MemPlace.row ⟨0,0,none⟩ 80):=by kernel_rfl
set_option maxRecDepth 100000 in
theorem fnRebuilt_lifted (os:Os) (started:os.Started) (H:Type) (enc:TypeId × Value→H) (F:Stop.Interp) :
  ReturnsInHanded {} Tryz.checked os 3 .any ((OpenSpec.ofChange Rows.fnRebuiltSpec).preRow enc Tryz.prog Tryz.f3 Rows.fnRebuiltRow.domain false Rows.fnRebuiltRow.laid) (((OpenSpec.ofChange Rows.fnRebuiltSpec).at F).post enc Tryz.prog Tryz.f3 false true false false):=by
 have hx:=fnRebuilt_reads os enc
 refine returnsInHanded_of_row (C:=Tryz.checked) (s:=OpenSpec.ofChange Rows.fnRebuiltSpec) Tryz.own started (by kernel_rfl) Tryz.func3
  (witness_row_at (enc:=enc) (C:=Tryz.checked) false (laidWorld os) #[(.slice none 0 0:Value)] rfl (by kernel_rfl) (by kernel_rfl) (by kernel_rfl)
   (OpenSpec.preRow_of_cond 8 hx rfl (fun k hk=>by cases hk) (by kernel_rfl) (fnRebuilt_laid os))) ?_
 intro W base args ds gs before hval hW _ _ _ hL _ _
 exact fnRebuilt_contract H enc W base args ds gs before hval hW hL
theorem fnRebuilt_c_inPlace:(Rows.fnRebuiltRow.inPlace == Tryz.prog.inPlace 3)=true:=by kernel_rfl
theorem fnRebuilt_c_unfollowed:(Rows.fnRebuiltRow.unfollowed == Tryz.prog.unfollowed 3)=true:=by kernel_rfl
theorem fnRebuilt_c_recurses:(Rows.fnRebuiltRow.recurses == Tryz.prog.recurses 3)=true:=by kernel_rfl
theorem fnRebuilt_c_named:(Rows.fnRebuiltRow.named == Tryz.prog.varsNamed 3)=true:=by kernel_rfl
theorem fnRebuilt_c_plainKeys:(Rows.fnRebuiltRow.plainKeys == Tryz.prog.plainKeys)=true:=by kernel_rfl
theorem fnRebuilt_c_lifted:(Rows.fnRebuiltRow.lifted == Tryz.prog.liftsFinal)=true:=by kernel_rfl
theorem fnRebuilt_c_make:(Tryz.prog.make == some Rows.fnRebuiltRow.make)=true:=by kernel_rfl
theorem fnRebuilt_closed:joinedFacts Tryz.prog 3 Tryz.f3 (OpenSpec.ofChange Rows.fnRebuiltSpec).bare Rows.fnRebuiltRow=true:=by
 unfold joinedFacts
 exact and_t (and_t (and_t (and_t (and_t (and_t (and_t (and_t (and_t (and_t (and_t (and_t (and_t (and_t (and_t (and_t (and_t (and_t (and_t (and_t (and_t (and_t (and_t (and_t (and_t (and_t (and_t (and_t (and_t (and_t (and_t ((by kernel_rfl)) pf_laid) pf_maps) (by kernel_rfl)) (by kernel_rfl)) (by kernel_rfl)) (by kernel_rfl)) (by kernel_rfl)) (by kernel_rfl)) fnRebuilt_c_inPlace) fnRebuilt_c_unfollowed) fnRebuilt_c_recurses) fnRebuilt_c_named) (by kernel_rfl)) (by kernel_rfl)) (by kernel_rfl)) (by kernel_rfl)) (by kernel_rfl)) (by kernel_rfl)) (by kernel_rfl)) (by kernel_rfl)) (by kernel_rfl)) fnRebuilt_c_plainKeys) (by kernel_rfl)) pf_heard) pf_enter) fnRebuilt_c_lifted) fnRebuilt_c_make) (by kernel_rfl)) (by kernel_rfl)) (by kernel_rfl)) (by kernel_rfl)
theorem fnRebuilt_said:Rows.FnRebuiltSaid :=
 OpenClaim.holds_of_cond 3 Tryz.f3 rfl rfl rfl rfl rfl rfl rfl ⟨rfl,rfl,rfl,rfl,rfl⟩ rfl rfl rfl rfl rfl (by kernel_rfl) Tryz.func3 fnRebuilt_closed
  (of_decide_eq_true (by kernel_rfl)) (by unfold Func.isWrapper; first | (rw [if_pos (by decide +kernel)]; kernel_rfl) | (rw [if_neg (by decide +kernel)]; exact⟨rfl,rfl⟩))
  (fun os started H enc _ F=>by rw [OpenClaim.pre_eq_preRow]; exact fnRebuilt_lifted os started H enc F)
theorem fnRebuilt_plain (f : FuncId) (fn : Func) (hf : Tryz.pinned.checked.prog.funcNamed "loop.example/g00793/laws.FnRebuilt" = some f) (hfn : Tryz.pinned.checked.prog.funcs[f]? = some fn) :
  true=Tryz.pinned.checked.prog.looks []∧∀ (j:Nat) t,fn.params[j]?=some t→Tryz.pinned.checked.prog.wantsStandIn t=false:=by
 obtain rfl : f = 3 := Option.some.inj ((show Tryz.prog.funcNamed "loop.example/g00793/laws.FnRebuilt" = some 3 by kernel_rfl).symm.trans hf) |>.symm
 obtain rfl:fn=Tryz.f3:=(Option.some.inj (Tryz.func3.symm.trans hfn)).symm
 refine⟨by kernel_rfl,fun j t ht=>?_⟩
 rw [Tryz.params3] at ht
 obtain rfl:t=22:=by simpa using Array.mem_of_getElem? ht
 exact(show Tryz.prog.wantsStandIn 22=false by kernel_rfl)
theorem fnRebuilt_card:Rows.FnRebuiltCardSaid :=
 Claim7.holds_tied_plain_at .later [] _ _ _ _ fnRebuilt_said (fun _ h=>by cases h) (by kernel_rfl) (fun _ h=>by cases h) fnRebuilt_row_tie rfl ⟨rfl,rfl⟩ (by kernel_rfl) rfl fnRebuilt_plain (by kernel_rfl)
end Go.Proofs.YtpdfdkccgkieoaaGreatDoor
