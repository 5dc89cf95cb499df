/-
  The program's DoMove returns what the reference's returns, for all arguments.
  Condition: the table of currencies is as the program's text lays it (the card ties it to that text).
-/
import Derived.Test.YtccnjccabllcaaaGreatDoorLawDoMove
import Derived.Test.YtccnjccabllcaaaGreatDoorArg
namespace Go.Proofs.YtccnjccabllcaaaGreatDoor
open Sx Go.ChangeShapes Go.WideShapes Go.ChangeAt Go.RowKit
set_option maxRecDepth 100000 in
theorem doMove_contract (H:Type) (enc:TypeId × Value→H) (W:World) (base:Nat) (args:Array Value) (ds gs:List (DataW H)) (before:List MemPlace)
  (hval:∀ (j:Nat) t v,Tryz.f6.params[j]?=some t→args[j]?=some v→Value.okWide Tryz.prog W .any base t v)
  (hW:DataW.Whole enc Tryz.prog Tryz.f6.params.toList Rows.fnExactDoMoveSpec.vars false W args.toList ds gs before) (hL:laidMetH Tryz.prog Rows.fnExactDoMoveRow.laid W) :
  Calls Tryz.prog 6 args W fun e W'=>∃ v,e=.returned v∧Rows.fnExactDoMoveSpec.post enc Tryz.prog Tryz.f6 false true false false W args v W':=by
 have hW':=hW
 obtain⟨p,q,hA0,hV,rfl,hfz,hnd⟩:=hW
 have hA:DataW.TrodAll enc Tryz.prog W 0 (fun _=>true) true Tryz.f6.params.toList args.toList ds p:=hA0
 rw [Tryz.params6] at hA hval
 obtain⟨v0,v1,v2,v3,d0,d1,d2,d3,p0,p1,p2,p3,hargs,rfl,rfl,h0,h1,h2,h3⟩:=trodAll_four hA
 obtain rfl:args=#[v0,v1,v2,v3]:=by cases args; simp_all
 obtain⟨g0,t0,cs,fuel,d,p2,rfl,_⟩:=trodVars_one hV
 have ht0:Tryz.prog.underlying 30=some (.struct fsLedger):=by kernel_rfl
 obtain⟨c0,x0,f0,rfl,hx0⟩:=arg_row (rd_Ledger W) ht0 (hval 0 30 v0 rfl rfl) h0
 obtain⟨a1,rfl,rfl,rfl,_⟩:=Go.ChangeMaps.open_string Tryz.underlying9 (hval 1 9 v1 rfl rfl) h1
 obtain⟨a2,rfl,rfl,rfl,_⟩:=Go.ChangeMaps.open_string Tryz.underlying9 (hval 2 9 v2 rfl rfl) h2
 have ht3:Tryz.prog.underlying 66=some (.struct fsMoney):=by kernel_rfl
 obtain⟨c3,x3,f3,rfl,hx3⟩:=arg_row (rd_Money W) ht3 (hval 3 66 v3 rfl rfl) h3
 obtain⟨t,ht⟩:=table (W:=W) hL
 refine((law_DoMove (hasCur_of ht) hx0 a1 a2 hx3).2 W (knowOf_on W)).mono ?_
 rintro e W' ⟨V',r,rfl,hfr,hon,hle,rfl⟩
 exact⟨_,rfl,post_law Tryz.laidOut (rowsOk_spec (by kernel_rfl)) (by kernel_rfl) hW' (below_of_fr hfr (knowOf_on W) hon hle) (tb:=4) rfl Tryz.underlying4 rfl rfl rfl⟩
theorem doMove_laid (os:Os):laidMet Tryz.prog Rows.fnExactDoMoveRow.laid ((laidWorld os).forCall (fun _ _=>0) ⟨#[],#[(.agg #[.slice none 0 0,.slice none 0 0,.string ⟨#[]⟩,.slice none 0 0]:Value),(.string ⟨#[]⟩:Value),(.string ⟨#[]⟩:Value),(.agg #[.string ⟨#[]⟩,.bool false,.slice none 0 0]:Value)],[]⟩).memory :=
 laidMet_of_run' 8 (by kernel_rfl) (by kernel_rfl)
theorem doMove_reads (os:Os) {H:Type} (enc:TypeId × Value→H):DataW.whole enc Tryz.prog ((laidWorld os).forCall (fun _ _=>0) ⟨#[],#[(.agg #[.slice none 0 0,.slice none 0 0,.string ⟨#[]⟩,.slice none 0 0]:Value),(.string ⟨#[]⟩:Value),(.string ⟨#[]⟩:Value),(.agg #[.string ⟨#[]⟩,.bool false,.slice none 0 0]:Value)],[]⟩).memory Tryz.f6.params.toList Rows.fnExactDoMoveSpec.vars false #[(.agg #[.slice none 0 0,.slice none 0 0,.string ⟨#[]⟩,.slice none 0 0]:Value),(.string ⟨#[]⟩:Value),(.string ⟨#[]⟩:Value),(.agg #[.string ⟨#[]⟩,.bool false,.slice none 0 0]:Value)].toList 8=some ([.agg [.agg [.nil],.nil,.agg [.lit (.string []),.nil]],.lit (.string []),.lit (.string []),.agg [.lit (.string []),.agg [.lit (.bool false),.nil]]],[curData curI],MemPlace.row ⟨0,0,none⟩ 80):=by kernel_rfl
set_option maxRecDepth 100000 in
theorem doMove_lifted (os:Os) (started:os.Started) (H:Type) (enc:TypeId × Value→H) (F:Stop.Interp) :
  ReturnsInHanded {} Tryz.checked os 6 .any ((OpenSpec.ofChange Rows.fnExactDoMoveSpec).preRow enc Tryz.prog Tryz.f6 Rows.fnExactDoMoveRow.domain false Rows.fnExactDoMoveRow.laid) (((OpenSpec.ofChange Rows.fnExactDoMoveSpec).at F).post enc Tryz.prog Tryz.f6 false true false false):=by
 have hx:=doMove_reads os enc
 refine returnsInHanded_of_row (C:=Tryz.checked) (s:=OpenSpec.ofChange Rows.fnExactDoMoveSpec) Tryz.own started (by kernel_rfl) Tryz.func6
  (witness_row_at (enc:=enc) (C:=Tryz.checked) false (laidWorld os) #[(.agg #[.slice none 0 0,.slice none 0 0,.string ⟨#[]⟩,.slice none 0 0]:Value),(.string ⟨#[]⟩:Value),(.string ⟨#[]⟩:Value),(.agg #[.string ⟨#[]⟩,.bool false,.slice none 0 0]:Value)] rfl (by kernel_rfl) (by kernel_rfl) (by kernel_rfl)
   (OpenSpec.preRow_of_cond 8 hx rfl (fun k hk=>by cases hk) (by kernel_rfl) (doMove_laid os))) ?_
 intro W base args ds gs before hval hW _ _ _ hL _ _
 exact doMove_contract H enc W base args ds gs before hval hW hL
theorem doMove_said:Rows.FnExactDoMoveSaid :=
 OpenClaim.holds_of_cond 6 Tryz.f6 rfl rfl rfl rfl rfl rfl rfl ⟨rfl,rfl,rfl,rfl,rfl⟩ rfl rfl rfl rfl rfl (by kernel_rfl) Tryz.func6 (by kernel_rfl)
  (of_decide_eq_true (by kernel_rfl)) (by unfold Func.isWrapper; first | (rw [if_pos (by decide +kernel)]; kernel_rfl) | (rw [if_neg (by decide +kernel)]; exact⟨rfl,rfl⟩))
  (fun os started H enc _ F=>by rw [OpenClaim.pre_eq_preRow]; exact doMove_lifted os started H enc F)
theorem doMove_plain (f : FuncId) (fn : Func) (hf : Tryz.pinned.checked.prog.funcNamed "loop.example/g00793/laws.FnExactDoMove" = some f) (hfn : Tryz.pinned.checked.prog.funcs[f]? = some fn) :
  false=Tryz.pinned.checked.prog.looks []∧∀ (j:Nat) t,fn.params[j]?=some t→Tryz.pinned.checked.prog.wantsStandIn t=false:=by
 obtain rfl : f = 6 := Option.some.inj ((show Tryz.prog.funcNamed "loop.example/g00793/laws.FnExactDoMove" = some 6 by kernel_rfl).symm.trans hf) |>.symm
 obtain rfl:fn=Tryz.f6:=(Option.some.inj (Tryz.func6.symm.trans hfn)).symm
 refine⟨by kernel_rfl,fun j t ht=>?_⟩
 rw [Tryz.params6] at ht
 rcases(show t=30∨t=9∨t=9∨t=66 by simpa using Array.mem_of_getElem? ht) with rfl | rfl | rfl | rfl
 ·exact(show Tryz.prog.wantsStandIn 30=false by kernel_rfl)
 ·exact(show Tryz.prog.wantsStandIn 9=false by kernel_rfl)
 ·exact(show Tryz.prog.wantsStandIn 9=false by kernel_rfl)
 ·exact(show Tryz.prog.wantsStandIn 66=false by kernel_rfl)
theorem doMove_card:Rows.FnExactDoMoveCardSaid :=
 Claim7.holds_tied_plain_at .later [] _ _ _ _ doMove_said (fun _ h=>by cases h) (by kernel_rfl) (fun _ h=>by cases h) fnExactDoMove_row_tie rfl ⟨rfl,rfl⟩ (by kernel_rfl) rfl doMove_plain (by kernel_rfl)
end Go.Proofs.YtccnjccabllcaaaGreatDoor
