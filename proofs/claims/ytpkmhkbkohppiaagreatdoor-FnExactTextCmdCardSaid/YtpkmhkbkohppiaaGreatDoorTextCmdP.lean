/-
  The program's TextCmd returns what the reference's returns, for all arguments.
  Condition: the table of currencies is as the program's text lays it (the card ties it to that text).
-/
import Derived.Test.YtpkmhkbkohppiaaGreatDoorMkA
import Derived.Test.YtpkmhkbkohppiaaGreatDoorTab
import Derived.Stop.LaidErr
import Derived.Test.YtpkmhkbkohppiaaGreatDoorChecked
import Derived.JoinedCond
import Derived.Test.YtpkmhkbkohppiaaGreatDoorLawTextCmd
namespace Go.Proofs.YtpkmhkbkohppiaaGreatDoor
open Sx Go.ChangeShapes Go.WideShapes Go.ChangeAt Go.RowKit
set_option maxRecDepth 100000
theorem sr_star : "*" ++ "errors.errorString" = "*errors.errorString" := by decide
theorem sr_row (u : TypeId) (h : Tryz.prog.typeName? 3 u = some "*errors.errorString") : u = 187 :=
 typeName_ptr_named (nm := "errors.errorString") (by rw [sr_star]; kernel_rfl) (by kernel_rfl) (by decide) u (by rw [sr_star]; exact h)
theorem sr_under:∃ ms,Tryz.prog.underlying 112=some (.interface ms):=by
 refine⟨(match Tryz.prog.underlying 112 with | some (.interface ms)=>ms | _=>#[]),?_⟩
 kernel_rfl
theorem sr_struct:∃ f:Field,Tryz.prog.underlying 189=some (.struct #[f])∧f.type=9∧f.offset=0:=by
 refine⟨(match Tryz.prog.underlying 189 with | some (.struct fs)=>fs[0]! | _=>default),?_,?_,?_⟩ <;> kernel_rfl
theorem sr_known {W:World} {n:String} {g:Nat} {v:Value} (hv:W.var? Tryz.prog n=some #[v]) (hg:Tryz.prog.globalNamed n=some g) (hm:∀ es:Array Value,([v]:List Value)≠[.tuple es]):∃ t,knowOf W g=some ([v],t):=by
 unfold World.var? at hv
 rw [hg] at hv
 simp only [Option.bind_some] at hv
 cases hw:W.heap[g]? with
 | none=>rw [hw] at hv; cases hv
 | some o =>
  rw [hw] at hv
  cases o with
  | cells c t fr =>
   simp only [Option.some.injEq] at hv
   subst hv
   exact⟨_,knowOf_eq hw (fun es e=>hm es e)⟩
  | _=>cases hv
theorem sr_one {W : World} {n : String} {g : Nat} {text : List UInt8} {rest : List (String × DataW Unit)} (h : laidMet Tryz.prog ((n, .iface "*errors.errorString" (.ptr (.agg [.lit (.string text)]))) :: rest) W)
  (hg:Tryz.prog.globalNamed n=some g) (ht:(Tryz.prog.globals[g]?).map (·.type)=some 112):∃ tp p t,knowOf W g=some ([.iface tp p],t):=by
 obtain⟨ms,hi⟩:=sr_under
 obtain⟨f,hs,hft,hfo⟩:=sr_struct
 obtain⟨a,s,hv,_⟩:=laid_sentinel h hg ht hi sr_row (show Tryz.prog.underlying 187=some (.pointer 189) by kernel_rfl) hs hft hfo Tryz.underlying9 (by kernel_rfl) (by kernel_rfl)
 obtain⟨t,ht⟩:=sr_known hv hg (fun es e=>by simp at e)
 exact⟨_,_,t,ht⟩
theorem hasSR_of {W : World} {r1 r2 : List (String × DataW Unit)} {t1 t2 : List UInt8} (h1 : laidMet Tryz.prog (("strconv.ErrRange", .iface "*errors.errorString" (.ptr (.agg [.lit (.string t1)]))) :: r1) W)
  (h2 : laidMet Tryz.prog (("strconv.ErrSyntax", .iface "*errors.errorString" (.ptr (.agg [.lit (.string t2)]))) :: r2) W) : hasSR (knowOf W) :=
 ⟨sr_one (g:=2) h2 (by kernel_rfl) (by kernel_rfl),sr_one (g:=3) h1 (by kernel_rfl) (by kernel_rfl)⟩
end Go.Proofs.YtpkmhkbkohppiaaGreatDoor
namespace Go.Proofs.YtpkmhkbkohppiaaGreatDoor
theorem and_t {a b:Bool} (h:a=true) (k:b=true):(a && b)=true:=by rw [h,k]; rfl
theorem pf_laid:laidOutB Tryz.prog=true:=by kernel_rfl
theorem pf_maps:mapsRowed Tryz.prog=true:=by kernel_rfl
theorem pf_heard:Tryz.prog.stopsHeard=true:=by kernel_rfl
theorem pf_enter:Tryz.prog.mayEnter=true:=by kernel_rfl
end Go.Proofs.YtpkmhkbkohppiaaGreatDoor
namespace Go.Proofs.YtpkmhkbkohppiaaGreatDoor
open Sx Go.ChangeShapes Go.WideShapes Go.ChangeAt Go.RowKit
set_option maxRecDepth 100000 in
theorem textCmd_contract (H:Type) (enc:TypeId × Value→H) (W:World) (base:Nat) (args:Array Value) (ds gs:List (DataW H)) (before:List MemPlace)
  (hval:∀ (j:Nat) t v,Tryz.f3.params[j]?=some t→args[j]?=some v→Value.okWide Tryz.prog W .any base t v)
  (hW:DataW.Whole enc Tryz.prog Tryz.f3.params.toList Rows.fnExactTextCmdSpec.vars false W args.toList ds gs before) (hL:laidMetH Tryz.prog Rows.fnExactTextCmdRow.laid W) :
  Calls Tryz.prog 3 args W fun e W'=>∃ v,e=.returned v∧Rows.fnExactTextCmdSpec.post enc Tryz.prog Tryz.f3 false true false false W args v W':=by
 have hW':=hW
 obtain⟨p,q,hA0,hV,rfl,hfz,hnd⟩:=hW
 have hA:DataW.TrodAll enc Tryz.prog W 0 (fun _=>true) true Tryz.f3.params.toList args.toList ds p:=hA0
 rw [Tryz.params3] at hA hval
 obtain⟨v0,d0,hargs,rfl,h0⟩:=trodAll_one hA
 obtain rfl:args=#[v0]:=by cases args; simp_all
 obtain⟨g0,t0,cs,fuel,d,p2,rfl,_⟩:=trodVars_one hV
 obtain⟨a0,rfl,rfl,rfl,_⟩:=Go.ChangeMaps.open_string Tryz.underlying9 (hval 0 9 v0 rfl rfl) h0
 have hL1:laidMet Tryz.prog Rows.fnExactTextCmdRow.laid W:=hL
 obtain⟨t,ht⟩:=table (W:=W) (hL1.tail.tail.tail.tail.tail)
 have hTab:=hasTab_of (hL1.tail.tail)
 refine((law_TextCmd ⟨⟨hasCur_of ht,hTab⟩,hasSR_of (hL1.tail.tail.tail) (hL1.tail.tail.tail.tail)⟩ a0).2 W (knowOf_on W)).mono ?_
 rintro e W' ⟨V',r,rfl,hfr,hon,hle,rfl⟩
 exact⟨_,rfl,post_law Tryz.laidOut (rowsOk_spec (by kernel_rfl)) (by kernel_rfl) hW' (below_of_fr hfr (knowOf_on W) hon hle) (tb:=4) rfl Tryz.underlying4 rfl rfl rfl⟩
theorem textCmd_laid (os:Os):laidMet Tryz.prog Rows.fnExactTextCmdRow.laid ((laidWorld os).forCall (fun _ _=>0) ⟨#[],#[(.string ⟨#[]⟩:Value)],[]⟩).memory :=
 laidMet_of_run' 8 (by kernel_rfl) (by kernel_rfl)
theorem textCmd_reads (os:Os) {H:Type} (enc:TypeId × Value→H):DataW.whole enc Tryz.prog ((laidWorld os).forCall (fun _ _=>0) ⟨#[],#[(.string ⟨#[]⟩:Value)],[]⟩).memory Tryz.f3.params.toList Rows.fnExactTextCmdSpec.vars false #[(.string ⟨#[]⟩:Value)].toList 8=some ([.lit (.string [])],[curData curI],MemPlace.row ⟨1,0,none⟩ 80):=by kernel_rfl
set_option maxRecDepth 100000 in
theorem textCmd_lifted (os:Os) (started:os.Started) (H:Type) (enc:TypeId × Value→H) (F:Stop.Interp) :
  ReturnsInHanded {} Tryz.checked os 3 .any ((OpenSpec.ofChange Rows.fnExactTextCmdSpec).preRow enc Tryz.prog Tryz.f3 Rows.fnExactTextCmdRow.domain false Rows.fnExactTextCmdRow.laid) (((OpenSpec.ofChange Rows.fnExactTextCmdSpec).at F).post enc Tryz.prog Tryz.f3 false true false false):=by
 have hx:=textCmd_reads os enc
 refine returnsInHanded_of_row (C:=Tryz.checked) (s:=OpenSpec.ofChange Rows.fnExactTextCmdSpec) Tryz.own started (by kernel_rfl) Tryz.func3
  (witness_row_at (enc:=enc) (C:=Tryz.checked) false (laidWorld os) #[(.string ⟨#[]⟩:Value)] rfl (by kernel_rfl) (by kernel_rfl) (by kernel_rfl)
   (OpenSpec.preRow_of_cond 8 hx rfl (fun k hk=>by cases hk) (by kernel_rfl) (textCmd_laid os))) ?_
 intro W base args ds gs before hval hW _ _ _ hL _ _
 exact textCmd_contract H enc W base args ds gs before hval hW hL
theorem textCmd_c_inPlace:(Rows.fnExactTextCmdRow.inPlace == Tryz.prog.inPlace 3)=true:=by kernel_rfl
theorem textCmd_c_unfollowed:(Rows.fnExactTextCmdRow.unfollowed == Tryz.prog.unfollowed 3)=true:=by kernel_rfl
theorem textCmd_c_recurses:(Rows.fnExactTextCmdRow.recurses == Tryz.prog.recurses 3)=true:=by kernel_rfl
theorem textCmd_c_named:(Rows.fnExactTextCmdRow.named == Tryz.prog.varsNamed 3)=true:=by kernel_rfl
theorem textCmd_c_plainKeys:(Rows.fnExactTextCmdRow.plainKeys == Tryz.prog.plainKeys)=true:=by kernel_rfl
theorem textCmd_c_lifted:(Rows.fnExactTextCmdRow.lifted == Tryz.prog.liftsFinal)=true:=by kernel_rfl
theorem textCmd_c_make:(Tryz.prog.make == some Rows.fnExactTextCmdRow.make)=true:=by kernel_rfl
theorem textCmd_closed:joinedFacts Tryz.prog 3 Tryz.f3 (OpenSpec.ofChange Rows.fnExactTextCmdSpec).bare Rows.fnExactTextCmdRow=true:=by
 unfold joinedFacts
 exact and_t (and_t (and_t (and_t (and_t (and_t (and_t (and_t (and_t (and_t (and_t (and_t (and_t (and_t (and_t (and_t (and_t (and_t (and_t (and_t (and_t (and_t (and_t (and_t (and_t (and_t (and_t (and_t (and_t (and_t (and_t ((by kernel_rfl)) pf_laid) pf_maps) (by kernel_rfl)) (by kernel_rfl)) (by kernel_rfl)) (by kernel_rfl)) (by kernel_rfl)) (by kernel_rfl)) textCmd_c_inPlace) textCmd_c_unfollowed) textCmd_c_recurses) textCmd_c_named) (by kernel_rfl)) (by kernel_rfl)) (by kernel_rfl)) (by kernel_rfl)) (by kernel_rfl)) (by kernel_rfl)) (by kernel_rfl)) (by kernel_rfl)) (by kernel_rfl)) textCmd_c_plainKeys) (by kernel_rfl)) pf_heard) pf_enter) textCmd_c_lifted) textCmd_c_make) (by kernel_rfl)) (by kernel_rfl)) (by kernel_rfl)) (by kernel_rfl)
theorem textCmd_said:Rows.FnExactTextCmdSaid :=
 OpenClaim.holds_of_cond 3 Tryz.f3 rfl rfl rfl rfl rfl rfl rfl ⟨rfl,rfl,rfl,rfl,rfl⟩ rfl rfl rfl rfl rfl (by kernel_rfl) Tryz.func3 textCmd_closed
  (of_decide_eq_true (by kernel_rfl)) (by unfold Func.isWrapper; first | (rw [if_pos (by decide +kernel)]; kernel_rfl) | (rw [if_neg (by decide +kernel)]; exact⟨rfl,rfl⟩))
  (fun os started H enc _ F=>by rw [OpenClaim.pre_eq_preRow]; exact textCmd_lifted os started H enc F)
theorem textCmd_plain (f : FuncId) (fn : Func) (hf : Tryz.pinned.checked.prog.funcNamed "loop.example/g00793/laws.FnExactTextCmd" = some f) (hfn : Tryz.pinned.checked.prog.funcs[f]? = some fn) :
  true=Tryz.pinned.checked.prog.looks []∧∀ (j:Nat) t,fn.params[j]?=some t→Tryz.pinned.checked.prog.wantsStandIn t=false:=by
 obtain rfl : f = 3 := Option.some.inj ((show Tryz.prog.funcNamed "loop.example/g00793/laws.FnExactTextCmd" = some 3 by kernel_rfl).symm.trans hf) |>.symm
 obtain rfl:fn=Tryz.f3:=(Option.some.inj (Tryz.func3.symm.trans hfn)).symm
 refine⟨by kernel_rfl,fun j t ht=>?_⟩
 rw [Tryz.params3] at ht
 obtain rfl:t=9:=by simpa using Array.mem_of_getElem? ht
 exact(show Tryz.prog.wantsStandIn 9=false by kernel_rfl)
theorem textCmd_card:Rows.FnExactTextCmdCardSaid :=
 Claim7.holds_tied_plain_at .later [] _ _ _ _ textCmd_said (fun _ h=>by cases h) (by kernel_rfl) (fun _ h=>by cases h) fnExactTextCmd_row_tie rfl ⟨rfl,rfl⟩ (by kernel_rfl) rfl textCmd_plain (by kernel_rfl)
end Go.Proofs.YtpkmhkbkohppiaaGreatDoor
