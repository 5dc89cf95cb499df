/-
  An exchange rounds once: what comes out and the rest are what went in times the rate, for all inputs.
  Condition: the table of currencies is as the program's text lays it (the card ties it to that text).
-/
import Derived.Test.YtmogkainbglpnaaGreatDoorValid
import Derived.Test.YtmogkainbglpnaaGreatDoorArg
import Derived.LaidHandle
import Derived.Test.YtmogkainbglpnaaGreatDoorChecked
import Derived.JoinedCond
import Derived.Test.YtmogkainbglpnaaGreatDoorLawFnSwap
namespace Go.Proofs.YtmogkainbglpnaaGreatDoor
open Sx Go.RowKit
set_option maxRecDepth 100000
theorem et.named : Tryz.prog.globalNamed "errors.errorType" = some 0 := by kernel_rfl
theorem et.rt : (Tryz.prog.cutTypes.find? (·.1 == "internal/reflectlite.rtype")).map (·.2) = some rT := by kernel_rfl
theorem et.size:Tryz.prog.types.size=252:=by kernel_rfl
theorem et.one:((List.range 252).filter fun t=>Tryz.prog.rowNamed t [101,114,114,111,114])=[eE]:=by kernel_rfl
theorem hasErr_of {W : World} (h : handlesMet Tryz.prog [("errors.errorType", Rows.laid_errors_errorType)] W) : hasErr (knowOf W) := by
 obtain⟨name,u,ty,e1,e2,e3,e4,e5⟩:=h _ (List.mem_singleton.2 rfl)
 have en:name=[101,114,114,111,114]:=(Option.some.inj e1).symm
 subst en
 obtain rfl:=Option.some.inj (et.rt.symm.trans e2)
 have hm:ty∈(List.range 252).filter fun t=>Tryz.prog.rowNamed t [101,114,114,111,114]:=List.mem_filter.2 ⟨List.mem_range.2 (by rw [← et.size]; exact e3),e4⟩
 rw [et.one] at hm
 obtain rfl:=List.mem_singleton.1 hm
 have hh:typeHandle Tryz.prog eE=.pointer (some ⟨hB,eE,none⟩):=by kernel_rfl
 rw [hh] at e5
 unfold World.var? at e5
 rw [et.named] at e5
 simp only [Option.bind_some] at e5
 cases hw:W.heap[0]? with
 | none=>rw [hw] at e5; cases e5
 | some o =>
  rw [hw] at e5
  cases o with
  | cells c t fr =>
   simp only [Option.some.injEq] at e5
   subst e5
   exact⟨_,knowOf_eq hw (fun es e=>by simp at e)⟩
  | _=>cases e5
end Go.Proofs.YtmogkainbglpnaaGreatDoor
namespace Go.Proofs.YtmogkainbglpnaaGreatDoor
theorem and_t {a b:Bool} (h:a=true) (k:b=true):(a && b)=true:=by rw [h,k]; rfl
theorem pf_laid:laidOutB Tryz.prog=true:=by kernel_rfl
theorem pf_maps:mapsRowed Tryz.prog=true:=by kernel_rfl
theorem pf_heard:Tryz.prog.stopsHeard=true:=by kernel_rfl
theorem pf_enter:Tryz.prog.mayEnter=true:=by kernel_rfl
end Go.Proofs.YtmogkainbglpnaaGreatDoor
namespace Go.Proofs.YtmogkainbglpnaaGreatDoor
open Sx Go.ChangeShapes Go.WideShapes Go.ChangeAt Go.RowKit
set_option maxRecDepth 100000 in
theorem fnSwap_contract (H:Type) (enc:TypeId × Value→H) (W:World) (base:Nat) (args:Array Value) (ds gs:List (DataW H)) (before:List MemPlace)
  (hval:∀ (j:Nat) t v,Tryz.f4.params[j]?=some t→args[j]?=some v→Value.okWide Tryz.prog W .any base t v)
  (hW:DataW.Whole enc Tryz.prog Tryz.f4.params.toList Rows.fnSwapSpec.vars false W args.toList ds gs before) (hL:laidMetH Tryz.prog Rows.fnSwapRow.laid W) :
  Calls Tryz.prog 4 args W fun e W'=>∃ v,e=.returned v∧Rows.fnSwapSpec.post enc Tryz.prog Tryz.f4 false true false false W args v W':=by
 have hW':=hW
 obtain⟨p,q,hA0,hV,rfl,hfz,hnd⟩:=hW
 have hA:DataW.TrodAll enc Tryz.prog W 0 (fun _=>true) true Tryz.f4.params.toList args.toList ds p:=hA0
 rw [Tryz.params4] at hA hval
 obtain⟨v0,d0,hargs,rfl,h0⟩:=trodAll_one hA
 obtain rfl:args=#[v0]:=by cases args; simp_all
 obtain⟨g0,t0,cs,fuel,d,p2,rfl,_⟩:=trodVars_one hV
 obtain⟨c0,x0,f0,rfl,hx0⟩:=arg_slice (rd_By W) (show Tryz.prog.underlying 22=some (.slice 5) by kernel_rfl) (by kernel_rfl) (by decide) (hval 0 22 v0 rfl rfl) h0
 have hL0 : laidMet Tryz.prog (Rows.fnSwapRow.laid.filter fun x => x.2.handleName?.isNone) W ∧ handlesMet Tryz.prog [("errors.errorType", Rows.laid_errors_errorType)] W := hL
 obtain⟨t,ht⟩:=table (W:=W) (hL0.1)
 refine((law_FnSwap ⟨hasCur_of ht,hasErr_of hL0.2⟩ hx0).2 W (knowOf_on W)).mono ?_
 rintro e W' ⟨V',r,rfl,hfr,hon,hle,rfl⟩
 exact⟨_,rfl,post_law Tryz.laidOut (rowsOk_spec (by kernel_rfl)) (by kernel_rfl) hW' (below_of_fr hfr (knowOf_on W) hon hle) (tb:=4) rfl Tryz.underlying4 rfl rfl rfl⟩
theorem fnSwap_laid (os:Os):laidMetH Tryz.prog Rows.fnSwapRow.laid ((laidWorld os).forCall (fun _ _=>0) ⟨#[],#[(.slice none 0 0:Value)],[]⟩).memory :=
 laidMetH_of_parts (laidMet_of_run' 8 (by kernel_rfl) (by kernel_rfl)) (by kernel_rfl)
theorem fnSwap_reads (os:Os) {H:Type} (enc:TypeId × Value→H):DataW.whole enc Tryz.prog ((laidWorld os).forCall (fun _ _=>0) ⟨#[],#[(.slice none 0 0:Value)],[]⟩).memory Tryz.f4.params.toList Rows.fnSwapSpec.vars false #[(.slice none 0 0:Value)].toList 8=some ([.nil],[curData curI],MemPlace.row ⟨1,0,none⟩ 80):=by kernel_rfl
set_option maxRecDepth 100000 in
theorem fnSwap_lifted (os:Os) (started:os.Started) (H:Type) (enc:TypeId × Value→H) (F:Stop.Interp) :
  ReturnsInHanded {} Tryz.checked os 4 .any ((OpenSpec.ofChange Rows.fnSwapSpec).preRow enc Tryz.prog Tryz.f4 Rows.fnSwapRow.domain false Rows.fnSwapRow.laid) (((OpenSpec.ofChange Rows.fnSwapSpec).at F).post enc Tryz.prog Tryz.f4 false true false false):=by
 have hx:=fnSwap_reads os enc
 refine returnsInHanded_of_row (C:=Tryz.checked) (s:=OpenSpec.ofChange Rows.fnSwapSpec) Tryz.own started (by kernel_rfl) Tryz.func4
  (witness_row_at (enc:=enc) (C:=Tryz.checked) false (laidWorld os) #[(.slice none 0 0:Value)] rfl (by kernel_rfl) (by kernel_rfl) (by kernel_rfl)
   (OpenSpec.preRow_of_cond 8 hx rfl (fun k hk=>by cases hk) (by kernel_rfl) (fnSwap_laid os))) ?_
 intro W base args ds gs before hval hW _ _ _ hL _ _
 exact fnSwap_contract H enc W base args ds gs before hval hW hL
theorem fnSwap_c_inPlace:(Rows.fnSwapRow.inPlace == Tryz.prog.inPlace 4)=true:=by kernel_rfl
theorem fnSwap_c_unfollowed:(Rows.fnSwapRow.unfollowed == Tryz.prog.unfollowed 4)=true:=by kernel_rfl
theorem fnSwap_c_recurses:(Rows.fnSwapRow.recurses == Tryz.prog.recurses 4)=true:=by kernel_rfl
theorem fnSwap_c_named:(Rows.fnSwapRow.named == Tryz.prog.varsNamed 4)=true:=by kernel_rfl
theorem fnSwap_c_plainKeys:(Rows.fnSwapRow.plainKeys == Tryz.prog.plainKeys)=true:=by kernel_rfl
theorem fnSwap_c_lifted:(Rows.fnSwapRow.lifted == Tryz.prog.liftsFinal)=true:=by kernel_rfl
theorem fnSwap_c_make:(Tryz.prog.make == some Rows.fnSwapRow.make)=true:=by kernel_rfl
theorem fnSwap_closed:joinedFacts Tryz.prog 4 Tryz.f4 (OpenSpec.ofChange Rows.fnSwapSpec).bare Rows.fnSwapRow=true:=by
 unfold joinedFacts
 exact and_t (and_t (and_t (and_t (and_t (and_t (and_t (and_t (and_t (and_t (and_t (and_t (and_t (and_t (and_t (and_t (and_t (and_t (and_t (and_t (and_t (and_t (and_t (and_t (and_t (and_t (and_t (and_t (and_t (and_t (and_t ((by kernel_rfl)) pf_laid) pf_maps) (by kernel_rfl)) (by kernel_rfl)) (by kernel_rfl)) (by kernel_rfl)) (by kernel_rfl)) (by kernel_rfl)) fnSwap_c_inPlace) fnSwap_c_unfollowed) fnSwap_c_recurses) fnSwap_c_named) (by kernel_rfl)) (by kernel_rfl)) (by kernel_rfl)) (by kernel_rfl)) (by kernel_rfl)) (by kernel_rfl)) (by kernel_rfl)) (by kernel_rfl)) (by kernel_rfl)) fnSwap_c_plainKeys) (by kernel_rfl)) pf_heard) pf_enter) fnSwap_c_lifted) fnSwap_c_make) (by kernel_rfl)) (by kernel_rfl)) (by kernel_rfl)) (by kernel_rfl)
theorem fnSwap_said:Rows.FnSwapSaid :=
 OpenClaim.holds_of_cond 4 Tryz.f4 rfl rfl rfl rfl rfl rfl rfl ⟨rfl,rfl,rfl,rfl,rfl⟩ rfl rfl rfl rfl rfl (by kernel_rfl) Tryz.func4 fnSwap_closed
  (of_decide_eq_true (by kernel_rfl)) (by unfold Func.isWrapper; first | (rw [if_pos (by decide +kernel)]; kernel_rfl) | (rw [if_neg (by decide +kernel)]; exact⟨rfl,rfl⟩))
  (fun os started H enc _ F=>by rw [OpenClaim.pre_eq_preRow]; exact fnSwap_lifted os started H enc F)
theorem fnSwap_plain (f : FuncId) (fn : Func) (hf : Tryz.pinned.checked.prog.funcNamed "loop.example/g00793/laws.FnSwap" = some f) (hfn : Tryz.pinned.checked.prog.funcs[f]? = some fn) :
  true=Tryz.pinned.checked.prog.looks []∧∀ (j:Nat) t,fn.params[j]?=some t→Tryz.pinned.checked.prog.wantsStandIn t=false:=by
 obtain rfl : f = 4 := Option.some.inj ((show Tryz.prog.funcNamed "loop.example/g00793/laws.FnSwap" = some 4 by kernel_rfl).symm.trans hf) |>.symm
 obtain rfl:fn=Tryz.f4:=(Option.some.inj (Tryz.func4.symm.trans hfn)).symm
 refine⟨by kernel_rfl,fun j t ht=>?_⟩
 rw [Tryz.params4] at ht
 obtain rfl:t=22:=by simpa using Array.mem_of_getElem? ht
 exact(show Tryz.prog.wantsStandIn 22=false by kernel_rfl)
theorem fnSwap_card:Rows.FnSwapCardSaid :=
 Claim7.holds_tied_plain_at .later [] _ _ _ _ fnSwap_said (fun _ h=>by cases h) (by kernel_rfl) (fun _ h=>by cases h) fnSwap_row_tie rfl ⟨rfl,rfl⟩ (by kernel_rfl) rfl fnSwap_plain (by kernel_rfl)
end Go.Proofs.YtmogkainbglpnaaGreatDoor
