/-
  The program's Rebuilt returns what the reference's returns, for all arguments.
  Condition: the table of currencies is as the program's text lays it (the card ties it to that text).
-/
import Derived.Test.YtahmmgiiojjhgaaGreatDoorLawRebuilt
import Derived.Test.YtahmmgiiojjhgaaGreatDoorTab
import Derived.Test.YtahmmgiiojjhgaaGreatDoorFact
import Derived.Test.YtahmmgiiojjhgaaGreatDoorPfA
import Derived.Test.YtahmmgiiojjhgaaGreatDoorPfB
import Derived.Test.YtahmmgiiojjhgaaGreatDoorPfC
namespace Go.Proofs.YtahmmgiiojjhgaaGreatDoor
open Go.Proofs.Tryz (prog)
open Sx Go.ChangeShapes Go.WideShapes Go.ChangeAt Go.RowKit
set_option maxRecDepth 100000 in
theorem wP (H:Type) (enc:TypeId × Value->H) (W:World) (base:Nat) (args:Array Value) (ds gs:List (DataW H)) (before:List MemPlace)
  (kI:∀ (j:Nat) t v,Tryz.f3.params[j]?=some t->args[j]?=some v->Value.okWide prog W .any base t v)
  (hW:DataW.Whole enc prog Tryz.f3.params.toList Rows.fnExactRebuiltSpec.vars false W args.toList ds gs before) (hL:laidMetH prog Rows.fnExactRebuiltRow.laid W) :
  Calls prog 3 args W fun e W'=>∃ v,e=.returned v/\Rows.fnExactRebuiltSpec.post enc prog Tryz.f3 false true false false W args v W':=by
 have hW':=hW;obtain⟨p,q,hA0,hV,rfl,hfz,vy⟩:=hW;have hA:DataW.TrodAll enc prog W 0 (fun _=>true) true Tryz.f3.params.toList args.toList ds p:=hA0;rw [Tryz.params3] at hA kI;obtain⟨v0,d0,fY,rfl,h0⟩:=trodAll_one hA;obtain rfl:args=#[v0]:=by cases args; simp_all
 obtain⟨g0,t0,cs,fuel,d,p2,rfl,_⟩:=trodVars_one hV;have JQ:prog.underlying 30=some (.struct qg):=by kernel_rfl
 obtain⟨c0,x0,f0,rfl,hx0⟩:=arg_row (Wz W) JQ (kI 0 30 v0 rfl rfl) h0;have RD:laidMet prog Rows.fnExactRebuiltRow.laid W:=hL;obtain⟨t,ht⟩:=table (W:=W) (RD);have hTab:=WE (RD.tail);refine((LQ ⟨WA ht,hTab⟩ hx0).2 W (ED W)).mono ?_
 rintro e W' ⟨V',r,rfl,MQ,sM,hle,rfl⟩;exact⟨_,rfl,post_law Tryz.laidOut (mi (by kernel_rfl)) (by kernel_rfl) hW' (LS MQ (ED W) sM hle) (tb:=4) rfl Tryz.underlying4 rfl rfl rfl⟩
theorem Hj (os:Os):laidMet prog Rows.fnExactRebuiltRow.laid ((wN os).forCall (fun _ _=>0) ⟨#[],#[(.agg #[.slice none 0 0,.slice none 0 0,.string ⟨#[]⟩,.slice none 0 0]:Value)],[]⟩).memory :=
 laidMet_of_run' 8 (by kernel_rfl) (by kernel_rfl)
theorem Cz (os:Os) {H:Type} (enc:TypeId × Value->H):DataW.whole enc prog ((wN os).forCall (fun _ _=>0) ⟨#[],#[(.agg #[.slice none 0 0,.slice none 0 0,.string ⟨#[]⟩,.slice none 0 0]:Value)],[]⟩).memory Tryz.f3.params.toList Rows.fnExactRebuiltSpec.vars false #[(.agg #[.slice none 0 0,.slice none 0 0,.string ⟨#[]⟩,.slice none 0 0]:Value)].toList 8=some ([.agg [.agg [.nil],.nil,.agg [.lit (.string []),.nil]]],[yN eX],MemPlace.row ⟨0,0,none⟩ 80):=by kernel_rfl
set_option maxRecDepth 100000 in
theorem BU (os:Os) (started:os.Started) (H:Type) (enc:TypeId × Value->H) (F:Stop.Interp) :
  ReturnsInHanded {} Tryz.checked os 3 .any ((OpenSpec.ofChange Rows.fnExactRebuiltSpec).preRow enc prog Tryz.f3 Rows.fnExactRebuiltRow.domain false Rows.fnExactRebuiltRow.laid) (((OpenSpec.ofChange Rows.fnExactRebuiltSpec).at F).post enc prog Tryz.f3 false true false false):=by
 have hx:=Cz os enc;refine returnsInHanded_of_row (C:=Tryz.checked) (s:=OpenSpec.ofChange Rows.fnExactRebuiltSpec) Tryz.own started (by kernel_rfl) Tryz.func3
  (witness_row_at (enc:=enc) (C:=Tryz.checked) false (wN os) #[(.agg #[.slice none 0 0,.slice none 0 0,.string ⟨#[]⟩,.slice none 0 0]:Value)] rfl (by kernel_rfl) (by kernel_rfl) (by kernel_rfl)
   (OpenSpec.preRow_of_cond 8 hx rfl (fun k hk=>by cases hk) (by kernel_rfl) (Hj os))) ?_
 intro W base args ds gs before kI hW _ _ _ hL _ _;exact wP H enc W base args ds gs before kI hW hL
theorem BV:joinedFacts prog 3 Tryz.f3 (OpenSpec.ofChange Rows.fnExactRebuiltSpec).bare Rows.fnExactRebuiltRow=true:=by
 unfold joinedFacts;exact dX (dX (dX (dX (dX (dX (dX (dX (dX (dX (dX (dX (dX (dX (dX (dX (dX (dX (dX (dX (dX (dX (dX (dX (dX (dX (dX (dX (dX (dX (dX ((by kernel_rfl)) pf_laid) pf_maps) (by kernel_rfl)) (by kernel_rfl)) (by kernel_rfl)) (by kernel_rfl)) (by kernel_rfl)) (by kernel_rfl)) vm) qi) sI) yn) (by kernel_rfl)) (by kernel_rfl)) (by kernel_rfl)) (by kernel_rfl)) (by kernel_rfl)) (by kernel_rfl)) (by kernel_rfl)) (by kernel_rfl)) (by kernel_rfl)) qS) (by kernel_rfl)) pf_heard) pf_enter) wO) BT) (by kernel_rfl)) (by kernel_rfl)) (by kernel_rfl)) (by kernel_rfl)
theorem Hk:Rows.FnExactRebuiltSaid :=
 OpenClaim.holds_of_cond 3 Tryz.f3 rfl rfl rfl rfl rfl rfl rfl ⟨rfl,rfl,rfl,rfl,rfl⟩ rfl rfl rfl rfl rfl (by kernel_rfl) Tryz.func3 BV
  (bq (by kernel_rfl)) (by unfold Func.isWrapper; first | (rw [if_pos (by decide +kernel)]; kernel_rfl) | (rw [if_neg (by decide +kernel)]; exact⟨rfl,rfl⟩))
  (fun os started H enc _ F=>by rw [OpenClaim.pre_eq_preRow]; exact BU os started H enc F)
theorem CA (f : FuncId) (fn : Func) (hf : Tryz.pinned.checked.prog.funcNamed "loop.example/g00793/laws.FnExactRebuilt" = some f) (hfn : Tryz.pinned.checked.prog.funcs[f]? = some fn) :
  true=Tryz.pinned.checked.prog.looks []/\∀ (j:Nat) t,fn.params[j]?=some t->Tryz.pinned.checked.prog.wantsStandIn t=false:=by
 obtain rfl : f = 3 := Option.some.inj ((show prog.funcNamed "loop.example/g00793/laws.FnExactRebuilt" = some 3 by kernel_rfl).symm.trans hf) |>.symm
 obtain rfl:fn=Tryz.f3:=(Option.some.inj (Tryz.func3.symm.trans hfn)).symm;refine⟨by kernel_rfl,fun j t ht=>?_⟩
 rw [Tryz.params3] at ht;obtain rfl:t=30:=by simpa using Array.mem_of_getElem? ht
 exact(show prog.wantsStandIn 30=false by kernel_rfl)
theorem rebuilt_card:Rows.FnExactRebuiltCardSaid :=
 Claim7.holds_tied_plain_at .later [] _ _ _ _ Hk (fun _ h=>by cases h) QP (fun _ h=>by cases h) oT rfl ⟨rfl,rfl⟩ Hh rfl CA Hi
end Go.Proofs.YtahmmgiiojjhgaaGreatDoor
