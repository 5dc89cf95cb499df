/-
  What is closed about the program, fact by fact.
-/
import Derived.Test.YtpdfdkccgkieoaaGreatDoorStr
import Derived.Test.YtpdfdkccgkieoaaGreatDoorRead
import Derived.Test.YtpdfdkccgkieoaaGreatDoorRows
import Derived.ProofKit
import Derived.Carry
import Derived.ChangeOld
import Derived.ChangeMaps5
import Derived.Lib.LaidTab
import Derived.KernelRfl
import Derived.Test.YtpdfdkccgkieoaaGreatDoorCards
import Derived.Test.YtpdfdkccgkieoaaGreatDoorTie
import Derived.OpenShut
import Derived.Deep.DeepHandedRow
import Derived.Test.YtpdfdkccgkieoaaGreatDoorCmdC
import Derived.Stop.LaidErr
import Derived.Test.YtpdfdkccgkieoaaGreatDoorChecked
import Derived.JoinedCond
namespace Go.Proofs.YtpdfdkccgkieoaaGreatDoor
open Sx Go.ChangeShapes Go.WideShapes Go.ChangeAt Go.RowKit
theorem below_of_fr {V V':Know} {w w':World} (h:Fr V V' w w') (hV:V.on w) (hV':V'.on w') (hle:V.le V'):Below w.heap.size w w':=by
 refine⟨h.os,h.tape,h.output,h.size,fun k hk=>?_⟩
 cases hk2:V k with
 | none=>exact h.keep k hk hk2
 | some x =>
  obtain⟨c,t⟩:=x
  rw [hV k c t hk2,hV' k c t (hle k _ hk2)]
section
variable {H:Type} {enc:TypeId × Value→H} {P:Program}
theorem trodAll_stays (hl:laidOutB P=true) {W W':World} (hb:Below W.heap.size W W'):∀ {ts:List TypeId} {vs:List Value} {ds:List (DataW H)} {p:List MemPlace},
  (∀ t∈ts,P.readableRec t=true∧t<P.types.size)→DataW.TrodAll enc P W 0 (fun _=>true) true ts vs ds p→(∀ x∈p,x.block<W.heap.size)→DataW.TrodAll enc P W' 0 (fun b=>decide (b<W.heap.size)) true ts vs ds p
 | [],_,_,_,_,h,_=>by
  obtain⟨rfl,rfl,rfl⟩:=trodAll_nil h
  exact h
 | t :: _,_,_,_,ht,h,hp=>by
  obtain⟨v,vs1,d,ds1,a,b,rfl,rfl,rfl,h1,h2⟩:=trodAll_cons h
  obtain⟨g1,g2⟩:=ht t (List.mem_cons_self ..)
  exact⟨a,b,Below.trod hl g1 g2 h1 hb (fun x hx=>hp x (by simp [hx])),trodAll_stays hl hb (fun t ht'=>ht t (List.mem_cons_of_mem _ ht')) h2 (fun x hx=>hp x (by simp [hx])),rfl⟩
def varsOk (P:Program) (ns:List String):Bool:=ns.all fun n=>((P.globalNamed n).bind (P.globals[·]?)).all fun gl=>P.readableRec gl.type && decide (gl.type<P.types.size)
theorem trodVars_stays (hl:laidOutB P=true) {W W':World} (hb:Below W.heap.size W W') :
  ∀ {ns:List String} {gs:List (DataW H)} {ps:List MemPlace},varsOk P ns=true→DataW.TrodVars enc P W (fun _=>true) ns gs ps→DataW.TrodVars enc P W' (fun b=>decide (b<W.heap.size)) ns gs ps
 | [],[],_,_,h=>h
 | [],_ :: _,_,_,h=>h.elim
 | _ :: _,[],_,_,h=>h.elim
 | n :: ns,d :: ds,ps,hv,h=>by
  have hlt:=h.lt
  obtain⟨g,t,cs,fuel,p,q,h1,h2,h3,h4,hs,e⟩:=h
  simp only [varsOk,List.all_cons,Bool.and_eq_true] at hv
  have ht:P.readableRec t=true∧t<P.types.size:=by
   have:=hv.1
   rw [h1] at this
   cases hg:P.globals[g]? with
   | none=>rw [hg] at h2; cases h2
   | some gl =>
    rw [hg] at h2
    obtain rfl:gl.type=t:=Option.some.inj h2
    simpa [hg] using this
  have hp:∀ x∈p,x.block<W.heap.size:=fun x hx=>hlt x (by rw [e]; simp [hx])
  have h3':W'.var? P n=some cs:=by
   unfold World.var? at h3 ⊢
   rw [h1] at h3 ⊢
   simp only [Option.bind_some] at h3 ⊢
   have hg:g<W.heap.size:=by
    cases hh:W.heap[g]? with
    | none=>rw [hh] at h3; cases h3
    | some o=>exact(Array.getElem?_eq_some_iff.1 hh).1
   rw [hb.block g hg]; exact h3
  obtain⟨f2,h4'⟩:∃ f2,DataW.trod enc P W' 0 (fun b=>decide (b<W.heap.size)) true f2 t cs.toList=some (d,p):=by
   have hT:DataW.Trod enc P W 0 (fun _=>true) true t (.agg cs) d p:=⟨fuel,h4⟩
   exact Below.trod hl ht.1 ht.2 hT hb hp
  exact⟨g,t,cs,f2,p,q,h1,h2,h3',h4',trodVars_stays hl hb (by simpa [varsOk] using hv.2) hs,e⟩
theorem post_law (hl:laidOutB P=true) {f:Func} {s:ChangeSpec} {W W':World} {args:Array Value} {ds gs:List (DataW H)} {before:List MemPlace} {tb:TypeId}
  (hp:∀ t∈f.params.toList,P.readableRec t=true∧t<P.types.size) (hv:varsOk P s.vars=true) (hW:DataW.Whole enc P f.params.toList s.vars false W args.toList ds gs before) (hb:Below W.heap.size W W')
  (hr:f.resultTypes=#[tb]) (hu:P.underlying tb=some .bool) (h1:(s.fn H (ds++gs)).results=[.lit (.bool true)]) (h2:(s.fn H (ds++gs)).args=ds) (h3:(s.fn H (ds++gs)).vars=gs) :
  s.post enc P f false true false false W args (.bool true) W':=by
 have hlt:=hW.lt
 have hW2:=hW
 obtain⟨p,q,hA,hV,rfl,hz,hn⟩:=hW
 refine⟨ds,gs,p++q,[],p,q,hW2,?_,?_,?_,hb.frame _,nofun⟩
 ·rw [hr,h1]
  exact trodAll_mk1 (shut_bool hu true)
 ·rw [h2]
  exact trodAll_stays hl hb hp hA (fun x hx=>hlt x (by simp [hx]))
 ·rw [h3]
  exact trodVars_stays hl hb hv hV
end
def rowsOk (P:Program) (l:List TypeId):Bool:=l.all fun t=>P.readableRec t && decide (t<P.types.size)
theorem rowsOk_spec {P:Program} {l:List TypeId} (h:rowsOk P l=true):∀ t∈l,P.readableRec t=true∧t<P.types.size:=by
 intro t ht
 have:=List.all_eq_true.1 h t ht
 simpa using this
def rowData {H:Type} (r:CurRow):DataW H:=.agg [.lit (.string r.1.data.toList),.lit (.string r.2.1.data.toList),.lit (.int .i64 r.2.2.1),.lit (.int .i64 r.2.2.2.1)]
def curData {H:Type} (l:List CurRow):DataW H:=.agg (l.map rowData)
theorem cells_of_rows:∀ {l:List CurRow} {cs:List Value},cs.length=l.length*4→(∀ (i:Nat) (h:i<l.length),(cs.drop (i*4)).take 4=rowC l[i])→cs=curCells l
 | [],cs,hl,_=>by simp at hl; simp [hl,curCells]
 | a :: l,cs,hl,h=>by
  have h0:=h 0 (by simp)
  simp only [Nat.zero_mul,List.drop_zero,List.getElem_cons_zero] at h0
  have ih:=cells_of_rows (l:=l) (cs:=cs.drop 4) (by simp at hl ⊢; omega) (fun i hi=>by
   have:=h (i+1) (by simpa using hi)
   rw [List.drop_drop]
   rw [show 4+i*4=(i+1)*4 by omega]
   simpa using this)
  rw [← List.take_append_drop 4 cs,h0,ih]
  rfl
theorem str_of {s:ByteArray} {b:ByteArray} (h:s.data.toList=b.data.toList):s=b:=by
 obtain⟨⟨l⟩⟩:=s
 obtain⟨⟨m⟩⟩:=b
 simp at h
 subst h; rfl
section
variable {H:Type} {enc:TypeId × Value→H} {P:Program} {w:World} {base:Nat} {sp:Nat→Bool} {held:Bool}
theorem row_of_trod {fuel:Nat} {e:TypeId} {f0 f1 f2 f3:Field} {cs:List Value} {r:CurRow} {p:List MemPlace} (he:P.underlying e=some (.struct #[f0,f1,f2,f3]))
  (h0:P.underlying f0.type=some .string∧f0.offset=0∧P.cellsOf f0.type=1) (h1:P.underlying f1.type=some .string∧f1.offset=1∧P.cellsOf f1.type=1)
  (h2:P.underlying f2.type=some (.int .i64)∧f2.offset=2∧P.cellsOf f2.type=1) (h3:P.underlying f3.type=some (.int .i64)∧f3.offset=3∧P.cellsOf f3.type=1) (hc:P.cellsOf e=4)
  (h:DataW.trod enc P w base sp held fuel e cs=some (rowData r,p)):cs=rowC r:=by
 obtain⟨xs,n,_,hx,hl,hlen,hf⟩:=DataW.trod_struct he h
 match xs,hlen with
 | [y0,y1,y2,y3],_ =>
  have g0:=hf 0 f0 rfl
  have g1:=hf 1 f1 rfl
  have g2:=hf 2 f2 rfl
  have g3:=hf 3 f3 rfl
  rw [hc] at hl
  match cs,hl with
  | [c0,c1,c2,c3],_ =>
   simp only [h0.2.1,h0.2.2,h1.2.1,h1.2.2,h2.2.1,h2.2.2,h3.2.1,h3.2.2] at g0 g1 g2 g3
   obtain⟨s0,e0,x0,_⟩:=DataW.trod_string h0.1 g0
   obtain⟨s1,e1,x1,_⟩:=DataW.trod_string h1.1 g1
   obtain⟨n2,e2,x2,_⟩:=DataW.trod_int h2.1 g2
   obtain⟨n3,e3,x3,_⟩:=DataW.trod_int h3.1 g3
   simp at e0 e1 e2 e3
   subst e0 e1 e2 e3
   have hx1:=congrArg Prod.fst hx
   simp only [rowData,x0,x1,x2,x3,List.map_cons,List.map_nil,DataW.agg.injEq,List.cons.injEq,DataW.lit.injEq,Lit.string.injEq,Lit.int.injEq,and_true,true_and] at hx1
   obtain⟨q0,q1,q2,q3⟩:=hx1
   show _=[Value.string r.1,.string r.2.1,.int .i64 r.2.2.1,.int .i64 r.2.2.2.1]
   rw [str_of q0,str_of q1,q2,q3]
theorem cells_of_trod {fuel:Nat} {t e:TypeId} {f0 f1 f2 f3:Field} {cs:List Value} {l:List CurRow} {p:List MemPlace} (ht:P.underlying t=some (.array l.length e)) (he:P.underlying e=some (.struct #[f0,f1,f2,f3]))
  (h0:P.underlying f0.type=some .string∧f0.offset=0∧P.cellsOf f0.type=1) (h1:P.underlying f1.type=some .string∧f1.offset=1∧P.cellsOf f1.type=1)
  (h2:P.underlying f2.type=some (.int .i64)∧f2.offset=2∧P.cellsOf f2.type=1) (h3:P.underlying f3.type=some (.int .i64)∧f3.offset=3∧P.cellsOf f3.type=1) (hc:P.cellsOf e=4) (hct:P.cellsOf t=l.length*4)
  (h:DataW.trod enc P w base sp held fuel t cs=some (curData l,p)):cs=curCells l:=by
 cases fuel with
 | zero=>simp [DataW.trod] at h
 | succ fuel =>
  simp only [DataW.trod,ht,hc,hct] at h
  split at h
  ·rename_i hl
   obtain⟨xs,hm,hx⟩:=Option.map_eq_some_iff.1 h
   have hxs:xs.map (·.1)=l.map rowData:=by
    have:=congrArg Prod.fst hx
    simpa [curData] using this
   refine cells_of_rows hl fun i hi=>?_
   obtain⟨b,hb,hf⟩:=Go.Lib.mapM_at hm i i (by simp [hi])
   have hb1:b.1=rowData l[i]:=by
    have h2:(xs.map (·.1))[i]?=some b.1:=by simp [hb]
    rw [hxs] at h2
    simpa [hi] using h2.symm
   obtain⟨b1,b2⟩:=b
   simp only at hb1
   subst hb1
   exact row_of_trod he h0 h1 h2 h3 hc hf
  ·cases h
end
noncomputable def fieldsC:Array Field:=match Tryz.prog.underlying 97 with | some (.struct fs)=>fs | _=>#[]
theorem table {W : World} {rest : List (String × DataW Unit)} (h : laidMet Tryz.prog (("loop.example/g00793/impl.currencies", curData curI) :: rest) W) : ∃ t, W.heap[0]? = some (.cells (curCells curI).toArray t (0, 0)) := by
 obtain⟨ps,⟨g',t',cs,fuel,p,q,hg',ht',hvar,hd,hq,hps⟩,_,hb⟩:=h
 obtain rfl := Option.some.inj ((show Tryz.prog.globalNamed "loop.example/g00793/impl.currencies" = some 0 by kernel_rfl).symm.trans hg')
 obtain rfl:=Option.some.inj ((show(Tryz.prog.globals[0]?).map (·.type)=some 151 by kernel_rfl).symm.trans ht')
 have hcs:=cells_of_trod (e:=97) (f0:=fieldsC[0]!) (f1:=fieldsC[1]!) (f2:=fieldsC[2]!) (f3:=fieldsC[3]!) (by kernel_rfl) (by kernel_rfl) ⟨by kernel_rfl,by kernel_rfl,by kernel_rfl⟩ ⟨by kernel_rfl,by kernel_rfl,by kernel_rfl⟩
  ⟨by kernel_rfl,by kernel_rfl,by kernel_rfl⟩ ⟨by kernel_rfl,by kernel_rfl,by kernel_rfl⟩ (by kernel_rfl) (by kernel_rfl) hd
 have hsz:0<cs.size:=by
  have:=congrArg List.length hcs
  simp at this
  rw [this]; decide +kernel
 obtain⟨⟨c,t,hc⟩,_⟩:=hb 0 0 (by
  rw [hps]
  refine List.mem_append_left _ (List.mem_append_left _ ?_)
  simp [MemPlace.row]
  exact hsz)
 unfold World.var? at hvar
 rw [hg'] at hvar
 simp only [Option.bind_some,hc,Option.some.injEq] at hvar
 refine⟨t,?_⟩
 rw [hc,← hcs,hvar]
theorem hasCur_of {W:World} {t:TypeId} (h:W.heap[0]?=some (.cells (curCells curI).toArray t (0,0))):hasCur (knowOf W) :=
 ⟨(t,(0,0)),knowOf_eq h fun es e=>by
  have h80:(curCells curI).toArray.toList.length=80:=by decide +kernel
  have h1:=h80.symm.trans (congrArg List.length e)
  exact absurd (show(80:Nat)=1 from h1) (by omega)⟩
end Go.Proofs.YtpdfdkccgkieoaaGreatDoor
namespace Go.Proofs.YtpdfdkccgkieoaaGreatDoor
open Sx Go.ChangeShapes Go.WideShapes Go.ChangeAt Go.RowKit
theorem Tryz.own:ownKnob Tryz.prog.godebug=none:=by kernel_rfl
theorem Tryz.laidOut:laidOutB Tryz.prog=true:=by kernel_rfl
noncomputable def errText:DataW Unit→ByteArray
 | .iface _ (.ptr (.agg [.lit (.string s)]))=>⟨⟨s⟩⟩
 | _=>⟨#[]⟩
noncomputable def tabCells:DataW Unit→Array Value
 | .agg l=>(l.flatMap fun
  | .lit (.int k z)=>[Value.int k z]
  | .agg m=>m.map fun
   | .lit (.int k z)=>Value.int k z
   | _=>.nilFunc
  | _=>[]).toArray
 | _=>#[]
noncomputable def setC (cs:Array Value):Obj→Obj
 | .cells _ t frozen=>.cells cs t frozen
 | o=>o
noncomputable def laidWorld (os:Os):World :=
 { World.holding Tryz.prog os ⟨#[],#[],[]⟩ with heap:=(((((((((World.holding Tryz.prog os ⟨#[],#[],[]⟩).heap.modify 5 (setC (tabCells Rows.laid_math_bits_deBruijn32tab))).modify 6 (setC (tabCells Rows.laid_math_bits_deBruijn64tab))).modify 2 (setC (tabCells Rows.laid_internal_strconv_uint64pow10))).modify 4 (setC #[.iface 304 (.pointer (some ⟨(World.holding Tryz.prog os ⟨#[],#[],[]⟩).heap.size+0,0,none⟩))])).modify 3 (setC #[.iface 304 (.pointer (some ⟨(World.holding Tryz.prog os ⟨#[],#[],[]⟩).heap.size+1,0,none⟩))])).modify 0 (setC (curCells curI).toArray)).push (.cells #[.string (errText Rows.laid_strconv_ErrRange)] 306 (0,0))).push (.cells #[.string (errText Rows.laid_strconv_ErrSyntax)] 306 (0,0))) }
theorem arg_slice {sh:List Sc} {α:Type} {r:Rp sh α} {P:Program} {W:World} {t e:TypeId} {v:Value} {base:Nat} {H:Type} {enc:TypeId × Value→H} {sp:Nat→Bool} {held:Bool} {d:DataW H} {p:List MemPlace} (hr:Rd P W e r) (ht:P.underlying t=some (.slice e))
  (hm:P.cellsOf e=sh.length) (hpos:0<sh.length) (hv:Value.okWide P W .any base t v) (h:DataW.Trod enc P W 0 sp held t v d p):∃ s l f,v=Sc.val .l s∧LR r (knowOf W) s l f:=by
 obtain⟨fuel,hf⟩:=h
 obtain⟨s,l,f,e',hL⟩:=rd_slice hr ht hm hpos hf
 refine⟨s,l,f,?_,hL⟩
 unfold Value.okWide at hv
 rw [ht] at hv
 simp only at hv
 unfold Cell.okWide at hv
 rw [ht] at hv
 cases v with
 | slice a n c =>
  simp only [Value.cells] at e'
  simpa [Sc.val] using e'
 | _=>simp [Cell.ok,ht] at hv
end Go.Proofs.YtpdfdkccgkieoaaGreatDoor
namespace Go.Proofs.YtpdfdkccgkieoaaGreatDoor
open Sx Go.ChangeShapes Go.WideShapes Go.ChangeAt Go.RowKit
set_option maxRecDepth 100000
theorem hasTab_of {W : World} {rest : List (String × DataW Unit)} (h : laidMet Tryz.prog (("internal/strconv.uint64pow10", Go.Lib.tabData .u64 Go.Lib.pow10Tab) :: rest) W) : hasTab (knowOf W) := by
 have ht:=Go.Lib.tabIs_of_head (g:=2) (t:=293) (e:=231) (n:=20) (by kernel_rfl) (by kernel_rfl) (by kernel_rfl) (by kernel_rfl) (by kernel_rfl) (by kernel_rfl) h
 unfold Go.Lib.TabIs World.var? at ht
 rw [show Tryz.prog.globalNamed "internal/strconv.uint64pow10" = some 2 by kernel_rfl] at ht
 simp only [Option.bind_some] at ht
 split at ht
 ·rename_i cs t fr hc
  refine⟨(t,fr),?_⟩
  have e:cs.toList=Go.Lib.pow10Tab.map fun z=>Value.int .u64 z:=by
   have:=Option.some.inj ht
   rw [this]
  rw [← e]
  refine knowOf_eq hc fun es he=>?_
  rw [e] at he
  cases he
 ·cases ht
end Go.Proofs.YtpdfdkccgkieoaaGreatDoor
namespace Go.Proofs.YtpdfdkccgkieoaaGreatDoor
theorem and_t {a b:Bool} (h:a=true) (k:b=true):(a && b)=true:=by rw [h,k]; rfl
theorem pf_laid:laidOutB Tryz.prog=true:=by kernel_rfl
theorem pf_maps:mapsRowed Tryz.prog=true:=by kernel_rfl
theorem pf_heard:Tryz.prog.stopsHeard=true:=by kernel_rfl
theorem pf_enter:Tryz.prog.mayEnter=true:=by kernel_rfl
end Go.Proofs.YtpdfdkccgkieoaaGreatDoor
