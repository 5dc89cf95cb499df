/-
  Remainders that are added and turned round are none, and they are read from their own text, for all inputs.
  Condition: the table of currencies is as the program's text lays it (the card ties it to that text).
-/
import Derived.Test.YtagkjnpggkmehaaGreatDoorBkM
import Derived.Test.YtagkjnpggkmehaaGreatDoorRow
import Derived.Test.YtagkjnpggkmehaaGreatDoorFact
namespace Go.Proofs.YtagkjnpggkmehaaGreatDoor
open Sx Go.ChangeShapes Go.WideShapes Go.ChangeAt Go.RowKit
set_option maxRecDepth 100000 in
theorem fnRests_contract (H:Type) (enc:TypeId × Value→H) (W:World) (base:Nat) (args:Array Value) (ds gs:List (DataW H)) (before:List MemPlace)
  (hval:∀ (j:Nat) t v,Tryz.f4.params[j]?=some t→args[j]?=some v→Value.okWide Tryz.prog W .any base t v)
  (hW:DataW.Whole enc Tryz.prog Tryz.f4.params.toList Rows.fnRestsSpec.vars false W args.toList ds gs before) (hL:laidMetH Tryz.prog Rows.fnRestsRow.laid W) (hsh:W.ShapedOpen Tryz.prog) :
  Calls Tryz.prog 4 args W fun e W'=>∃ v,e=.returned v∧Rows.fnRestsSpec.post enc Tryz.prog Tryz.f4 false true false false W args v W':=by
 have hW':=hW
 obtain⟨p,q,hA0,hV,rfl,hfz,hnd⟩:=hW
 have hA:DataW.TrodAll enc Tryz.prog W 0 (fun _=>true) true Tryz.f4.params.toList args.toList ds p:=hA0
 rw [Tryz.params4] at hA hval
 obtain⟨v0,d0,hargs,rfl,h0⟩:=trodAll_one hA
 obtain rfl:args=#[v0]:=by cases args; simp_all
 obtain⟨g0,t0,cs,fuel,d,p2,rfl,_⟩:=trodVars_one hV
 obtain⟨c0,x0,f0,rfl,hx0⟩:=arg_slice (rd_By W) (show Tryz.prog.underlying 28=some (.slice 5) by kernel_rfl) (by kernel_rfl) (by decide) (hval 0 28 v0 rfl rfl) h0
 have hL1:laidMet Tryz.prog Rows.fnRestsRow.laid W:=hL
 obtain⟨t,ht⟩:=table (W:=W) (hL1.tail.tail.tail.tail)
 have hTab:=hasTab_of (hL1.tail.tail)
 refine((law_FnRests ⟨⟨hasCur_of ht,hTab⟩,hasMax_of hsh⟩ hx0).2 W (knowOf_on W)).mono ?_
 rintro e W' ⟨V',r,rfl,hfr,hon,hle,rfl⟩
 exact⟨_,rfl,post_law Tryz.laidOut (rowsOk_spec (by kernel_rfl)) (by kernel_rfl) hW' (below_of_fr hfr (knowOf_on W) hon hle) (tb:=4) rfl Tryz.underlying4 rfl rfl rfl⟩
theorem fnRests_laid (os:Os):laidMet Tryz.prog Rows.fnRestsRow.laid ((laidWorld os).forCall (fun _ _=>0) ⟨#[],#[(.slice none 0 0:Value)],[]⟩).memory :=
 laidMet_of_run' 8 (by kernel_rfl) (by kernel_rfl)
theorem fnRests_reads (os:Os) {H:Type} (enc:TypeId × Value→H):DataW.whole enc Tryz.prog ((laidWorld os).forCall (fun _ _=>0) ⟨#[],#[(.slice none 0 0:Value)],[]⟩).memory Tryz.f4.params.toList Rows.fnRestsSpec.vars false #[(.slice none 0 0:Value)].toList 8=some ([.nil],[curData curI],MemPlace.row ⟨0,0,none⟩ 80):=by kernel_rfl
set_option maxRecDepth 100000 in
theorem fnRests_lifted (os:Os) (started:os.Started) (H:Type) (enc:TypeId × Value→H) (F:Stop.Interp) :
  ReturnsInHanded {} Tryz.checked os 4 .any ((OpenSpec.ofChange Rows.fnRestsSpec).preRow enc Tryz.prog Tryz.f4 Rows.fnRestsRow.domain false Rows.fnRestsRow.laid) (((OpenSpec.ofChange Rows.fnRestsSpec).at F).post enc Tryz.prog Tryz.f4 false true false false):=by
 have hx:=fnRests_reads os enc
 refine returnsInHanded_of_row (C:=Tryz.checked) (s:=OpenSpec.ofChange Rows.fnRestsSpec) Tryz.own started (by kernel_rfl) Tryz.func4
  (witness_row_at (enc:=enc) (C:=Tryz.checked) false (laidWorld os) #[(.slice none 0 0:Value)] rfl (by kernel_rfl) (by kernel_rfl) (by kernel_rfl)
   (OpenSpec.preRow_of_cond 8 hx rfl (fun k hk=>by cases hk) (by kernel_rfl) (fnRests_laid os))) ?_
 intro W base args ds gs before hval hW _ _ _ hL hsh _
 exact fnRests_contract H enc W base args ds gs before hval hW hL hsh
theorem fnRests_c_inPlace:(Rows.fnRestsRow.inPlace == Tryz.prog.inPlace 4)=true:=by kernel_rfl
theorem fnRests_c_unfollowed:(Rows.fnRestsRow.unfollowed == Tryz.prog.unfollowed 4)=true:=by kernel_rfl
theorem fnRests_c_recurses:(Rows.fnRestsRow.recurses == Tryz.prog.recurses 4)=true:=by kernel_rfl
theorem fnRests_c_named:(Rows.fnRestsRow.named == Tryz.prog.varsNamed 4)=true:=by kernel_rfl
theorem fnRests_c_plainKeys:(Rows.fnRestsRow.plainKeys == Tryz.prog.plainKeys)=true:=by kernel_rfl
theorem fnRests_c_lifted:(Rows.fnRestsRow.lifted == Tryz.prog.liftsFinal)=true:=by kernel_rfl
theorem fnRests_c_make:(Tryz.prog.make == some Rows.fnRestsRow.make)=true:=by kernel_rfl
theorem fnRests_closed:joinedFacts Tryz.prog 4 Tryz.f4 (OpenSpec.ofChange Rows.fnRestsSpec).bare Rows.fnRestsRow=true:=by
 unfold joinedFacts
 exact and_t (and_t (and_t (and_t (and_t (and_t (and_t (and_t (and_t (and_t (and_t (and_t (and_t (and_t (and_t (and_t (and_t (and_t (and_t (and_t (and_t (and_t (and_t (and_t (and_t (and_t (and_t (and_t (and_t (and_t (and_t ((by kernel_rfl)) pf_laid) pf_maps) (by kernel_rfl)) (by kernel_rfl)) (by kernel_rfl)) (by kernel_rfl)) (by kernel_rfl)) (by kernel_rfl)) fnRests_c_inPlace) fnRests_c_unfollowed) fnRests_c_recurses) fnRests_c_named) (by kernel_rfl)) (by kernel_rfl)) (by kernel_rfl)) (by kernel_rfl)) (by kernel_rfl)) (by kernel_rfl)) (by kernel_rfl)) (by kernel_rfl)) (by kernel_rfl)) fnRests_c_plainKeys) (by kernel_rfl)) pf_heard) pf_enter) fnRests_c_lifted) fnRests_c_make) (by kernel_rfl)) (by kernel_rfl)) (by kernel_rfl)) (by kernel_rfl)
theorem fnRests_said:Rows.FnRestsSaid :=
 OpenClaim.holds_of_cond 4 Tryz.f4 rfl rfl rfl rfl rfl rfl rfl ⟨rfl,rfl,rfl,rfl,rfl⟩ rfl rfl rfl rfl rfl (by kernel_rfl) Tryz.func4 fnRests_closed
  (of_decide_eq_true (by kernel_rfl)) (by unfold Func.isWrapper; first | (rw [if_pos (by decide +kernel)]; kernel_rfl) | (rw [if_neg (by decide +kernel)]; exact⟨rfl,rfl⟩))
  (fun os started H enc _ F=>by rw [OpenClaim.pre_eq_preRow]; exact fnRests_lifted os started H enc F)
theorem fnRests_plain (f : FuncId) (fn : Func) (hf : Tryz.pinned.checked.prog.funcNamed "loop.example/g00793/laws.FnRests" = some f) (hfn : Tryz.pinned.checked.prog.funcs[f]? = some fn) :
  false=Tryz.pinned.checked.prog.looks []∧∀ (j:Nat) t,fn.params[j]?=some t→Tryz.pinned.checked.prog.wantsStandIn t=false:=by
 obtain rfl : f = 4 := Option.some.inj ((show Tryz.prog.funcNamed "loop.example/g00793/laws.FnRests" = some 4 by kernel_rfl).symm.trans hf) |>.symm
 obtain rfl:fn=Tryz.f4:=(Option.some.inj (Tryz.func4.symm.trans hfn)).symm
 refine⟨by kernel_rfl,fun j t ht=>?_⟩
 rw [Tryz.params4] at ht
 obtain rfl:t=28:=by simpa using Array.mem_of_getElem? ht
 exact(show Tryz.prog.wantsStandIn 28=false by kernel_rfl)
theorem fnRests_card:Rows.FnRestsCardSaid :=
 Claim7.holds_tied_plain_at .later [] _ _ _ _ fnRests_said (fun _ h=>by cases h) (by kernel_rfl) (fun _ h=>by cases h) fnRests_row_tie rfl ⟨rfl,rfl⟩ (by kernel_rfl) rfl fnRests_plain (by kernel_rfl)
end Go.Proofs.YtagkjnpggkmehaaGreatDoor
