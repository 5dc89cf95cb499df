/-
  The program's DoTax returns what the reference's returns, for all arguments.
  Condition: the table of currencies is as the program's text lays it (the card ties it to that text).
-/
import Derived.Test.YtceoihhldnnenaaGreatDoorChecked
import Derived.JoinedCond
import Derived.Test.YtceoihhldnnenaaGreatDoorLawDoTax
import Derived.Test.YtceoihhldnnenaaGreatDoorArg
namespace Go.Proofs.YtceoihhldnnenaaGreatDoor
theorem and_t {a b:Bool} (h:a=true) (k:b=true):(a && b)=true:=by rw [h,k]; rfl
theorem pf_laid:laidOutB Tryz.prog=true:=by kernel_rfl
theorem pf_maps:mapsRowed Tryz.prog=true:=by kernel_rfl
theorem pf_heard:Tryz.prog.stopsHeard=true:=by kernel_rfl
theorem pf_enter:Tryz.prog.mayEnter=true:=by kernel_rfl
end Go.Proofs.YtceoihhldnnenaaGreatDoor
namespace Go.Proofs.YtceoihhldnnenaaGreatDoor
open Sx Go.ChangeShapes Go.WideShapes Go.ChangeAt Go.RowKit
set_option maxRecDepth 100000 in
theorem doTax_contract (H:Type) (enc:TypeId × Value→H) (W:World) (base:Nat) (args:Array Value) (ds gs:List (DataW H)) (before:List MemPlace)
  (hval:∀ (j:Nat) t v,Tryz.f4.params[j]?=some t→args[j]?=some v→Value.okWide Tryz.prog W .any base t v)
  (hW:DataW.Whole enc Tryz.prog Tryz.f4.params.toList Rows.fnExactDoTaxSpec.vars false W args.toList ds gs before) (hL:laidMetH Tryz.prog Rows.fnExactDoTaxRow.laid W) :
  Calls Tryz.prog 4 args W fun e W'=>∃ v,e=.returned v∧Rows.fnExactDoTaxSpec.post enc Tryz.prog Tryz.f4 false true false false W args v W':=by
 have hW':=hW
 obtain⟨p,q,hA0,hV,rfl,hfz,hnd⟩:=hW
 have hA:DataW.TrodAll enc Tryz.prog W 0 (fun _=>true) true Tryz.f4.params.toList args.toList ds p:=hA0
 rw [Tryz.params4] at hA hval
 obtain⟨v0,vs0,d0,ds0,p0,q0,hargs,rfl,rfl,h0,hr0⟩:=trodAll_cons hA
 obtain⟨v1,vs1,d1,ds1,p1,q1,rfl,rfl,rfl,h1,hr1⟩:=trodAll_cons hr0
 obtain⟨v2,vs2,d2,ds2,p2,q2,rfl,rfl,rfl,h2,hr2⟩:=trodAll_cons hr1
 obtain⟨v3,vs3,d3,ds3,p3,q3,rfl,rfl,rfl,h3,hr3⟩:=trodAll_cons hr2
 obtain⟨v4,vs4,d4,ds4,p4,q4,rfl,rfl,rfl,h4,hr4⟩:=trodAll_cons hr3
 obtain⟨v5,vs5,d5,ds5,p5,q5,rfl,rfl,rfl,h5,hr5⟩:=trodAll_cons hr4
 obtain⟨v6,vs6,d6,ds6,p6,q6,rfl,rfl,rfl,h6,hr6⟩:=trodAll_cons hr5
 obtain⟨rfl,rfl,rfl⟩:=trodAll_nil hr6
 obtain rfl:args=#[v0,v1,v2,v3,v4,v5,v6]:=by cases args; simp_all
 obtain⟨g0,t0,cs,fuel,d,p2,rfl,_⟩:=trodVars_one hV
 have ht0:Tryz.prog.underlying 30=some (.struct fsLedger):=by kernel_rfl
 obtain⟨c0,x0,f0,rfl,hx0⟩:=arg_row (rd_Ledger W) ht0 (hval 0 30 v0 rfl rfl) h0
 obtain⟨a1,rfl,rfl,rfl,_⟩:=Go.ChangeMaps.open_string Tryz.underlying9 (hval 1 9 v1 rfl rfl) h1
 obtain⟨a2,rfl,rfl,rfl,_⟩:=Go.ChangeMaps.open_string Tryz.underlying9 (hval 2 9 v2 rfl rfl) h2
 obtain⟨a3,rfl,rfl,rfl,_⟩:=Go.ChangeMaps.open_string Tryz.underlying9 (hval 3 9 v3 rfl rfl) h3
 have ht4:Tryz.prog.underlying 51=some (.struct fsMoney):=by kernel_rfl
 obtain⟨c4,x4,f4,rfl,hx4⟩:=arg_row (rd_Money W) ht4 (hval 4 51 v4 rfl rfl) h4
 have ht5:Tryz.prog.underlying 53=some (.struct fsDec):=by kernel_rfl
 obtain⟨c5,x5,f5,rfl,hx5⟩:=arg_row (rd_Dec W) ht5 (hval 5 53 v5 rfl rfl) h5
 obtain⟨a6,rfl,rfl,rfl,_⟩:=open_int Tryz.underlying3 (hval 6 3 v6 rfl rfl) h6
 obtain⟨t,ht⟩:=table (W:=W) hL
 refine((law_DoTax (hasCur_of ht) hx0 a1 a2 a3 hx4 hx5 a6).2 W (knowOf_on W)).mono ?_
 rintro e W' ⟨V',r,rfl,hfr,hon,hle,rfl⟩
 exact⟨_,rfl,post_law Tryz.laidOut (rowsOk_spec (by kernel_rfl)) (by kernel_rfl) hW' (below_of_fr hfr (knowOf_on W) hon hle) (tb:=4) rfl Tryz.underlying4 rfl rfl rfl⟩
theorem doTax_laid (os:Os):laidMet Tryz.prog Rows.fnExactDoTaxRow.laid ((laidWorld os).forCall (fun _ _=>0) ⟨#[],#[(.agg #[.slice none 0 0,.slice none 0 0,.string ⟨#[]⟩,.slice none 0 0]:Value),(.string ⟨#[]⟩:Value),(.string ⟨#[]⟩:Value),(.string ⟨#[]⟩:Value),(.agg #[.string ⟨#[]⟩,.bool false,.slice none 0 0]:Value),(.agg #[.bool false,.slice none 0 0,.int .i64 0]:Value),(.int .i64 0:Value)],[]⟩).memory :=
 laidMet_of_run' 8 (by kernel_rfl) (by kernel_rfl)
theorem doTax_reads (os:Os) {H:Type} (enc:TypeId × Value→H):DataW.whole enc Tryz.prog ((laidWorld os).forCall (fun _ _=>0) ⟨#[],#[(.agg #[.slice none 0 0,.slice none 0 0,.string ⟨#[]⟩,.slice none 0 0]:Value),(.string ⟨#[]⟩:Value),(.string ⟨#[]⟩:Value),(.string ⟨#[]⟩:Value),(.agg #[.string ⟨#[]⟩,.bool false,.slice none 0 0]:Value),(.agg #[.bool false,.slice none 0 0,.int .i64 0]:Value),(.int .i64 0:Value)],[]⟩).memory Tryz.f4.params.toList Rows.fnExactDoTaxSpec.vars false #[(.agg #[.slice none 0 0,.slice none 0 0,.string ⟨#[]⟩,.slice none 0 0]:Value),(.string ⟨#[]⟩:Value),(.string ⟨#[]⟩:Value),(.string ⟨#[]⟩:Value),(.agg #[.string ⟨#[]⟩,.bool false,.slice none 0 0]:Value),(.agg #[.bool false,.slice none 0 0,.int .i64 0]:Value),(.int .i64 0:Value)].toList 8=some ([.agg [.agg [.nil],.nil,.agg [.lit (.string []),.nil]],.lit (.string []),.lit (.string []),.lit (.string []),.agg [.lit (.string []),.agg [.lit (.bool false),.nil]],.agg [.agg [.lit (.bool false),.nil],.lit (.int .i64 0)],.lit (.int .i64 0)],[curData curI],MemPlace.row ⟨0,0,none⟩ 80):=by kernel_rfl
set_option maxRecDepth 100000 in
theorem doTax_lifted (os:Os) (started:os.Started) (H:Type) (enc:TypeId × Value→H) (F:Stop.Interp) :
  ReturnsInHanded {} Tryz.checked os 4 .any ((OpenSpec.ofChange Rows.fnExactDoTaxSpec).preRow enc Tryz.prog Tryz.f4 Rows.fnExactDoTaxRow.domain false Rows.fnExactDoTaxRow.laid) (((OpenSpec.ofChange Rows.fnExactDoTaxSpec).at F).post enc Tryz.prog Tryz.f4 false true false false):=by
 have hx:=doTax_reads os enc
 refine returnsInHanded_of_row (C:=Tryz.checked) (s:=OpenSpec.ofChange Rows.fnExactDoTaxSpec) Tryz.own started (by kernel_rfl) Tryz.func4
  (witness_row_at (enc:=enc) (C:=Tryz.checked) false (laidWorld os) #[(.agg #[.slice none 0 0,.slice none 0 0,.string ⟨#[]⟩,.slice none 0 0]:Value),(.string ⟨#[]⟩:Value),(.string ⟨#[]⟩:Value),(.string ⟨#[]⟩:Value),(.agg #[.string ⟨#[]⟩,.bool false,.slice none 0 0]:Value),(.agg #[.bool false,.slice none 0 0,.int .i64 0]:Value),(.int .i64 0:Value)] rfl (by kernel_rfl) (by kernel_rfl) (by kernel_rfl)
   (OpenSpec.preRow_of_cond 8 hx rfl (fun k hk=>by cases hk) (by kernel_rfl) (doTax_laid os))) ?_
 intro W base args ds gs before hval hW _ _ _ hL _ _
 exact doTax_contract H enc W base args ds gs before hval hW hL
theorem doTax_c_inPlace:(Rows.fnExactDoTaxRow.inPlace == Tryz.prog.inPlace 4)=true:=by kernel_rfl
theorem doTax_c_unfollowed:(Rows.fnExactDoTaxRow.unfollowed == Tryz.prog.unfollowed 4)=true:=by kernel_rfl
theorem doTax_c_recurses:(Rows.fnExactDoTaxRow.recurses == Tryz.prog.recurses 4)=true:=by kernel_rfl
theorem doTax_c_named:(Rows.fnExactDoTaxRow.named == Tryz.prog.varsNamed 4)=true:=by kernel_rfl
theorem doTax_c_plainKeys:(Rows.fnExactDoTaxRow.plainKeys == Tryz.prog.plainKeys)=true:=by kernel_rfl
theorem doTax_c_lifted:(Rows.fnExactDoTaxRow.lifted == Tryz.prog.liftsFinal)=true:=by kernel_rfl
theorem doTax_c_make:(Tryz.prog.make == some Rows.fnExactDoTaxRow.make)=true:=by kernel_rfl
theorem doTax_closed:joinedFacts Tryz.prog 4 Tryz.f4 (OpenSpec.ofChange Rows.fnExactDoTaxSpec).bare Rows.fnExactDoTaxRow=true:=by
 unfold joinedFacts
 exact and_t (and_t (and_t (and_t (and_t (and_t (and_t (and_t (and_t (and_t (and_t (and_t (and_t (and_t (and_t (and_t (and_t (and_t (and_t (and_t (and_t (and_t (and_t (and_t (and_t (and_t (and_t (and_t (and_t (and_t (and_t ((by kernel_rfl)) pf_laid) pf_maps) (by kernel_rfl)) (by kernel_rfl)) (by kernel_rfl)) (by kernel_rfl)) (by kernel_rfl)) (by kernel_rfl)) doTax_c_inPlace) doTax_c_unfollowed) doTax_c_recurses) doTax_c_named) (by kernel_rfl)) (by kernel_rfl)) (by kernel_rfl)) (by kernel_rfl)) (by kernel_rfl)) (by kernel_rfl)) (by kernel_rfl)) (by kernel_rfl)) (by kernel_rfl)) doTax_c_plainKeys) (by kernel_rfl)) pf_heard) pf_enter) doTax_c_lifted) doTax_c_make) (by kernel_rfl)) (by kernel_rfl)) (by kernel_rfl)) (by kernel_rfl)
theorem doTax_said:Rows.FnExactDoTaxSaid :=
 OpenClaim.holds_of_cond 4 Tryz.f4 rfl rfl rfl rfl rfl rfl rfl ⟨rfl,rfl,rfl,rfl,rfl⟩ rfl rfl rfl rfl rfl (by kernel_rfl) Tryz.func4 doTax_closed
  (of_decide_eq_true (by kernel_rfl)) (by unfold Func.isWrapper; first | (rw [if_pos (by decide +kernel)]; kernel_rfl) | (rw [if_neg (by decide +kernel)]; exact⟨rfl,rfl⟩))
  (fun os started H enc _ F=>by rw [OpenClaim.pre_eq_preRow]; exact doTax_lifted os started H enc F)
theorem doTax_plain (f : FuncId) (fn : Func) (hf : Tryz.pinned.checked.prog.funcNamed "loop.example/g00793/laws.FnExactDoTax" = some f) (hfn : Tryz.pinned.checked.prog.funcs[f]? = some fn) :
  true=Tryz.pinned.checked.prog.looks []∧∀ (j:Nat) t,fn.params[j]?=some t→Tryz.pinned.checked.prog.wantsStandIn t=false:=by
 obtain rfl : f = 4 := Option.some.inj ((show Tryz.prog.funcNamed "loop.example/g00793/laws.FnExactDoTax" = some 4 by kernel_rfl).symm.trans hf) |>.symm
 obtain rfl:fn=Tryz.f4:=(Option.some.inj (Tryz.func4.symm.trans hfn)).symm
 refine⟨by kernel_rfl,fun j t ht=>?_⟩
 rw [Tryz.params4] at ht
 rcases(show t=30∨t=9∨t=9∨t=9∨t=51∨t=53∨t=3 by simpa using Array.mem_of_getElem? ht) with rfl | rfl | rfl | rfl | rfl | rfl | rfl
 ·exact(show Tryz.prog.wantsStandIn 30=false by kernel_rfl)
 ·exact(show Tryz.prog.wantsStandIn 9=false by kernel_rfl)
 ·exact(show Tryz.prog.wantsStandIn 9=false by kernel_rfl)
 ·exact(show Tryz.prog.wantsStandIn 9=false by kernel_rfl)
 ·exact(show Tryz.prog.wantsStandIn 51=false by kernel_rfl)
 ·exact(show Tryz.prog.wantsStandIn 53=false by kernel_rfl)
 ·exact(show Tryz.prog.wantsStandIn 3=false by kernel_rfl)
theorem doTax_card:Rows.FnExactDoTaxCardSaid :=
 Claim7.holds_tied_plain_at .later [] _ _ _ _ doTax_said (fun _ h=>by cases h) (by kernel_rfl) (fun _ h=>by cases h) fnExactDoTax_row_tie rfl ⟨rfl,rfl⟩ (by kernel_rfl) rfl doTax_plain (by kernel_rfl)
end Go.Proofs.YtceoihhldnnenaaGreatDoor
