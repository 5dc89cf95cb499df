/-
  The program's DoCash returns what the reference's returns, for all arguments.
  Condition: the table of currencies is as the program's text lays it (the card ties it to that text).
-/
import Derived.Test.YtceoihhldnnenaaGreatDoorRead
import Derived.Test.YtceoihhldnnenaaGreatDoorFact
namespace Go.Proofs.YtceoihhldnnenaaGreatDoor
open Sx Go.ChangeShapes Go.WideShapes Go.ChangeAt Go.RowKit
set_option maxRecDepth 100000 in
theorem doCash_contract (H:Type) (enc:TypeId × Value→H) (W:World) (base:Nat) (args:Array Value) (ds gs:List (DataW H)) (before:List MemPlace)
  (hval:∀ (j:Nat) t v,Tryz.f3.params[j]?=some t→args[j]?=some v→Value.okWide Tryz.prog W .any base t v)
  (hW:DataW.Whole enc Tryz.prog Tryz.f3.params.toList Rows.fnExactDoCashSpec.vars false W args.toList ds gs before) (hL:laidMetH Tryz.prog Rows.fnExactDoCashRow.laid W) :
  Calls Tryz.prog 3 args W fun e W'=>∃ v,e=.returned v∧Rows.fnExactDoCashSpec.post enc Tryz.prog Tryz.f3 false true false false W args v W':=by
 have hW':=hW
 obtain⟨p,q,hA0,hV,rfl,hfz,hnd⟩:=hW
 have hA:DataW.TrodAll enc Tryz.prog W 0 (fun _=>true) true Tryz.f3.params.toList args.toList ds p:=hA0
 rw [Tryz.params3] at hA hval
 obtain⟨v0,v1,v2,d0,d1,d2,p0,p1,p2,hargs,rfl,rfl,h0,h1,h2⟩:=trodAll_three hA
 obtain rfl:args=#[v0,v1,v2]:=by cases args; simp_all
 obtain⟨g0,t0,cs,fuel,d,p2,rfl,_⟩:=trodVars_one hV
 have ht0:Tryz.prog.underlying 30=some (.struct fsLedger):=by kernel_rfl
 obtain⟨c0,x0,f0,rfl,hx0⟩:=arg_row (rd_Ledger W) ht0 (hval 0 30 v0 rfl rfl) h0
 obtain⟨a1,rfl,rfl,rfl,_⟩:=Go.ChangeMaps.open_string Tryz.underlying9 (hval 1 9 v1 rfl rfl) h1
 obtain⟨a2,rfl,rfl,rfl,_⟩:=open_int Tryz.underlying3 (hval 2 3 v2 rfl rfl) h2
 obtain⟨t,ht⟩:=table (W:=W) hL
 refine((law_DoCash (hasCur_of ht) hx0 a1 a2).2 W (knowOf_on W)).mono ?_
 rintro e W' ⟨V',r,rfl,hfr,hon,hle,rfl⟩
 exact⟨_,rfl,post_law Tryz.laidOut (rowsOk_spec (by kernel_rfl)) (by kernel_rfl) hW' (below_of_fr hfr (knowOf_on W) hon hle) (tb:=4) rfl Tryz.underlying4 rfl rfl rfl⟩
theorem doCash_laid (os:Os):laidMet Tryz.prog Rows.fnExactDoCashRow.laid ((laidWorld os).forCall (fun _ _=>0) ⟨#[],#[(.agg #[.slice none 0 0,.slice none 0 0,.string ⟨#[]⟩,.slice none 0 0]:Value),(.string ⟨#[]⟩:Value),(.int .i64 0:Value)],[]⟩).memory :=
 laidMet_of_run' 8 (by kernel_rfl) (by kernel_rfl)
theorem doCash_reads (os:Os) {H:Type} (enc:TypeId × Value→H):DataW.whole enc Tryz.prog ((laidWorld os).forCall (fun _ _=>0) ⟨#[],#[(.agg #[.slice none 0 0,.slice none 0 0,.string ⟨#[]⟩,.slice none 0 0]:Value),(.string ⟨#[]⟩:Value),(.int .i64 0:Value)],[]⟩).memory Tryz.f3.params.toList Rows.fnExactDoCashSpec.vars false #[(.agg #[.slice none 0 0,.slice none 0 0,.string ⟨#[]⟩,.slice none 0 0]:Value),(.string ⟨#[]⟩:Value),(.int .i64 0:Value)].toList 8=some ([.agg [.agg [.nil],.nil,.agg [.lit (.string []),.nil]],.lit (.string []),.lit (.int .i64 0)],[curData curI],MemPlace.row ⟨0,0,none⟩ 80):=by kernel_rfl
set_option maxRecDepth 100000 in
theorem doCash_lifted (os:Os) (started:os.Started) (H:Type) (enc:TypeId × Value→H) (F:Stop.Interp) :
  ReturnsInHanded {} Tryz.checked os 3 .any ((OpenSpec.ofChange Rows.fnExactDoCashSpec).preRow enc Tryz.prog Tryz.f3 Rows.fnExactDoCashRow.domain false Rows.fnExactDoCashRow.laid) (((OpenSpec.ofChange Rows.fnExactDoCashSpec).at F).post enc Tryz.prog Tryz.f3 false true false false):=by
 have hx:=doCash_reads os enc
 refine returnsInHanded_of_row (C:=Tryz.checked) (s:=OpenSpec.ofChange Rows.fnExactDoCashSpec) Tryz.own started (by kernel_rfl) Tryz.func3
  (witness_row_at (enc:=enc) (C:=Tryz.checked) false (laidWorld os) #[(.agg #[.slice none 0 0,.slice none 0 0,.string ⟨#[]⟩,.slice none 0 0]:Value),(.string ⟨#[]⟩:Value),(.int .i64 0:Value)] rfl (by kernel_rfl) (by kernel_rfl) (by kernel_rfl)
   (OpenSpec.preRow_of_cond 8 hx rfl (fun k hk=>by cases hk) (by kernel_rfl) (doCash_laid os))) ?_
 intro W base args ds gs before hval hW _ _ _ hL _ _
 exact doCash_contract H enc W base args ds gs before hval hW hL
theorem doCash_c_inPlace:(Rows.fnExactDoCashRow.inPlace == Tryz.prog.inPlace 3)=true:=by kernel_rfl
theorem doCash_c_unfollowed:(Rows.fnExactDoCashRow.unfollowed == Tryz.prog.unfollowed 3)=true:=by kernel_rfl
theorem doCash_c_recurses:(Rows.fnExactDoCashRow.recurses == Tryz.prog.recurses 3)=true:=by kernel_rfl
theorem doCash_c_named:(Rows.fnExactDoCashRow.named == Tryz.prog.varsNamed 3)=true:=by kernel_rfl
theorem doCash_c_plainKeys:(Rows.fnExactDoCashRow.plainKeys == Tryz.prog.plainKeys)=true:=by kernel_rfl
theorem doCash_c_lifted:(Rows.fnExactDoCashRow.lifted == Tryz.prog.liftsFinal)=true:=by kernel_rfl
theorem doCash_c_make:(Tryz.prog.make == some Rows.fnExactDoCashRow.make)=true:=by kernel_rfl
theorem doCash_closed:joinedFacts Tryz.prog 3 Tryz.f3 (OpenSpec.ofChange Rows.fnExactDoCashSpec).bare Rows.fnExactDoCashRow=true:=by
 unfold joinedFacts
 exact and_t (and_t (and_t (and_t (and_t (and_t (and_t (and_t (and_t (and_t (and_t (and_t (and_t (and_t (and_t (and_t (and_t (and_t (and_t (and_t (and_t (and_t (and_t (and_t (and_t (and_t (and_t (and_t (and_t (and_t (and_t ((by kernel_rfl)) pf_laid) pf_maps) (by kernel_rfl)) (by kernel_rfl)) (by kernel_rfl)) (by kernel_rfl)) (by kernel_rfl)) (by kernel_rfl)) doCash_c_inPlace) doCash_c_unfollowed) doCash_c_recurses) doCash_c_named) (by kernel_rfl)) (by kernel_rfl)) (by kernel_rfl)) (by kernel_rfl)) (by kernel_rfl)) (by kernel_rfl)) (by kernel_rfl)) (by kernel_rfl)) (by kernel_rfl)) doCash_c_plainKeys) (by kernel_rfl)) pf_heard) pf_enter) doCash_c_lifted) doCash_c_make) (by kernel_rfl)) (by kernel_rfl)) (by kernel_rfl)) (by kernel_rfl)
theorem doCash_said:Rows.FnExactDoCashSaid :=
 OpenClaim.holds_of_cond 3 Tryz.f3 rfl rfl rfl rfl rfl rfl rfl ⟨rfl,rfl,rfl,rfl,rfl⟩ rfl rfl rfl rfl rfl (by kernel_rfl) Tryz.func3 doCash_closed
  (of_decide_eq_true (by kernel_rfl)) (by unfold Func.isWrapper; first | (rw [if_pos (by decide +kernel)]; kernel_rfl) | (rw [if_neg (by decide +kernel)]; exact⟨rfl,rfl⟩))
  (fun os started H enc _ F=>by rw [OpenClaim.pre_eq_preRow]; exact doCash_lifted os started H enc F)
theorem doCash_plain (f : FuncId) (fn : Func) (hf : Tryz.pinned.checked.prog.funcNamed "loop.example/g00793/laws.FnExactDoCash" = some f) (hfn : Tryz.pinned.checked.prog.funcs[f]? = some fn) :
  true=Tryz.pinned.checked.prog.looks []∧∀ (j:Nat) t,fn.params[j]?=some t→Tryz.pinned.checked.prog.wantsStandIn t=false:=by
 obtain rfl : f = 3 := Option.some.inj ((show Tryz.prog.funcNamed "loop.example/g00793/laws.FnExactDoCash" = some 3 by kernel_rfl).symm.trans hf) |>.symm
 obtain rfl:fn=Tryz.f3:=(Option.some.inj (Tryz.func3.symm.trans hfn)).symm
 refine⟨by kernel_rfl,fun j t ht=>?_⟩
 rw [Tryz.params3] at ht
 rcases(show t=30∨t=9∨t=3 by simpa using Array.mem_of_getElem? ht) with rfl | rfl | rfl
 ·exact(show Tryz.prog.wantsStandIn 30=false by kernel_rfl)
 ·exact(show Tryz.prog.wantsStandIn 9=false by kernel_rfl)
 ·exact(show Tryz.prog.wantsStandIn 3=false by kernel_rfl)
theorem doCash_card:Rows.FnExactDoCashCardSaid :=
 Claim7.holds_tied_plain_at .later [] _ _ _ _ doCash_said (fun _ h=>by cases h) (by kernel_rfl) (fun _ h=>by cases h) fnExactDoCash_row_tie rfl ⟨rfl,rfl⟩ (by kernel_rfl) rfl doCash_plain (by kernel_rfl)
end Go.Proofs.YtceoihhldnnenaaGreatDoor
