/-
  The program's DoDeal returns what the reference's returns, for all arguments.
  Condition: the table of currencies is as the program's text lays it (the card ties it to that text).
-/
import Derived.Test.YtfiakghfncempaaGreatDoorCur
import Derived.Test.YtfiakghfncempaaGreatDoorRdT
import Derived.Test.YtfiakghfncempaaGreatDoorRows
import Derived.ProofKit
import Derived.Carry
import Derived.ChangeOld
import Derived.ChangeMaps5
import Derived.Lib.LaidTab
import Derived.KernelRfl
import Derived.Test.YtfiakghfncempaaGreatDoorCards
import Derived.Test.YtfiakghfncempaaGreatDoorTie
import Derived.OpenShut
import Derived.Deep.DeepHandedRow
import Derived.Test.YtfiakghfncempaaGreatDoorChecked
import Derived.JoinedCond
namespace Go.Proofs.YtfiakghfncempaaGreatDoor
open Sx Go.ChangeShapes Go.WideShapes Go.ChangeAt Go.RowKit
theorem below_of_fr {V V':Know} {w w':World} (h:Fr V V' w w') (hV:V.on w) (hV':V'.on w') (hle:V.le V'):Below w.heap.size w w':=by
 refine⟨h.os,h.tape,h.output,h.size,fun k hk=>?_⟩
 cases hk2:V k with
 | none=>exact h.keep k hk hk2
 | some x =>
  obtain⟨c,t⟩:=x
  rw [hV k c t hk2,hV' k c t (hle k _ hk2)]
section
variable {H:Type} {enc:TypeId × Value→H} {P:Program}
theorem trodAll_stays (hl:laidOutB P=true) {W W':World} (hb:Below W.heap.size W W'):∀ {ts:List TypeId} {vs:List Value} {ds:List (DataW H)} {p:List MemPlace},
  (∀ t∈ts,P.readableRec t=true∧t<P.types.size)→DataW.TrodAll enc P W 0 (fun _=>true) true ts vs ds p→(∀ x∈p,x.block<W.heap.size)→DataW.TrodAll enc P W' 0 (fun b=>decide (b<W.heap.size)) true ts vs ds p
 | [],_,_,_,_,h,_=>by
  obtain⟨rfl,rfl,rfl⟩:=trodAll_nil h
  exact h
 | t :: _,_,_,_,ht,h,hp=>by
  obtain⟨v,vs1,d,ds1,a,b,rfl,rfl,rfl,h1,h2⟩:=trodAll_cons h
  obtain⟨g1,g2⟩:=ht t (List.mem_cons_self ..)
  exact⟨a,b,Below.trod hl g1 g2 h1 hb (fun x hx=>hp x (by simp [hx])),trodAll_stays hl hb (fun t ht'=>ht t (List.mem_cons_of_mem _ ht')) h2 (fun x hx=>hp x (by simp [hx])),rfl⟩
def varsOk (P:Program) (ns:List String):Bool:=ns.all fun n=>((P.globalNamed n).bind (P.globals[·]?)).all fun gl=>P.readableRec gl.type && decide (gl.type<P.types.size)
theorem trodVars_stays (hl:laidOutB P=true) {W W':World} (hb:Below W.heap.size W W') :
  ∀ {ns:List String} {gs:List (DataW H)} {ps:List MemPlace},varsOk P ns=true→DataW.TrodVars enc P W (fun _=>true) ns gs ps→DataW.TrodVars enc P W' (fun b=>decide (b<W.heap.size)) ns gs ps
 | [],[],_,_,h=>h
 | [],_ :: _,_,_,h=>h.elim
 | _ :: _,[],_,_,h=>h.elim
 | n :: ns,d :: ds,ps,hv,h=>by
  have hlt:=h.lt
  obtain⟨g,t,cs,fuel,p,q,h1,h2,h3,h4,hs,e⟩:=h
  simp only [varsOk,List.all_cons,Bool.and_eq_true] at hv
  have ht:P.readableRec t=true∧t<P.types.size:=by
   have:=hv.1
   rw [h1] at this
   cases hg:P.globals[g]? with
   | none=>rw [hg] at h2; cases h2
   | some gl =>
    rw [hg] at h2
    obtain rfl:gl.type=t:=Option.some.inj h2
    simpa [hg] using this
  have hp:∀ x∈p,x.block<W.heap.size:=fun x hx=>hlt x (by rw [e]; simp [hx])
  have h3':W'.var? P n=some cs:=by
   unfold World.var? at h3 ⊢
   rw [h1] at h3 ⊢
   simp only [Option.bind_some] at h3 ⊢
   have hg:g<W.heap.size:=by
    cases hh:W.heap[g]? with
    | none=>rw [hh] at h3; cases h3
    | some o=>exact(Array.getElem?_eq_some_iff.1 hh).1
   rw [hb.block g hg]; exact h3
  obtain⟨f2,h4'⟩:∃ f2,DataW.trod enc P W' 0 (fun b=>decide (b<W.heap.size)) true f2 t cs.toList=some (d,p):=by
   have hT:DataW.Trod enc P W 0 (fun _=>true) true t (.agg cs) d p:=⟨fuel,h4⟩
   exact Below.trod hl ht.1 ht.2 hT hb hp
  exact⟨g,t,cs,f2,p,q,h1,h2,h3',h4',trodVars_stays hl hb (by simpa [varsOk] using hv.2) hs,e⟩
theorem post_law (hl:laidOutB P=true) {f:Func} {s:ChangeSpec} {W W':World} {args:Array Value} {ds gs:List (DataW H)} {before:List MemPlace} {tb:TypeId}
  (hp:∀ t∈f.params.toList,P.readableRec t=true∧t<P.types.size) (hv:varsOk P s.vars=true) (hW:DataW.Whole enc P f.params.toList s.vars false W args.toList ds gs before) (hb:Below W.heap.size W W')
  (hr:f.resultTypes=#[tb]) (hu:P.underlying tb=some .bool) (h1:(s.fn H (ds++gs)).results=[.lit (.bool true)]) (h2:(s.fn H (ds++gs)).args=ds) (h3:(s.fn H (ds++gs)).vars=gs) :
  s.post enc P f false true false false W args (.bool true) W':=by
 have hlt:=hW.lt
 have hW2:=hW
 obtain⟨p,q,hA,hV,rfl,hz,hn⟩:=hW
 refine⟨ds,gs,p++q,[],p,q,hW2,?_,?_,?_,hb.frame _,nofun⟩
 ·rw [hr,h1]
  exact trodAll_mk1 (shut_bool hu true)
 ·rw [h2]
  exact trodAll_stays hl hb hp hA (fun x hx=>hlt x (by simp [hx]))
 ·rw [h3]
  exact trodVars_stays hl hb hv hV
end
def rowsOk (P:Program) (l:List TypeId):Bool:=l.all fun t=>P.readableRec t && decide (t<P.types.size)
theorem rowsOk_spec {P:Program} {l:List TypeId} (h:rowsOk P l=true):∀ t∈l,P.readableRec t=true∧t<P.types.size:=by
 intro t ht
 have:=List.all_eq_true.1 h t ht
 simpa using this
def rowData {H:Type} (r:CurRow):DataW H:=.agg [.lit (.string r.1.data.toList),.lit (.string r.2.1.data.toList),.lit (.int .i64 r.2.2.1),.lit (.int .i64 r.2.2.2.1)]
def curData {H:Type} (l:List CurRow):DataW H:=.agg (l.map rowData)
theorem cells_of_rows:∀ {l:List CurRow} {cs:List Value},cs.length=l.length*4→(∀ (i:Nat) (h:i<l.length),(cs.drop (i*4)).take 4=rowC l[i])→cs=curCells l
 | [],cs,hl,_=>by simp at hl; simp [hl,curCells]
 | a :: l,cs,hl,h=>by
  have h0:=h 0 (by simp)
  simp only [Nat.zero_mul,List.drop_zero,List.getElem_cons_zero] at h0
  have ih:=cells_of_rows (l:=l) (cs:=cs.drop 4) (by simp at hl ⊢; omega) (fun i hi=>by
   have:=h (i+1) (by simpa using hi)
   rw [List.drop_drop]
   rw [show 4+i*4=(i+1)*4 by omega]
   simpa using this)
  rw [← List.take_append_drop 4 cs,h0,ih]
  rfl
theorem str_of {s:ByteArray} {b:ByteArray} (h:s.data.toList=b.data.toList):s=b:=by
 obtain⟨⟨l⟩⟩:=s
 obtain⟨⟨m⟩⟩:=b
 simp at h
 subst h; rfl
section
variable {H:Type} {enc:TypeId × Value→H} {P:Program} {w:World} {base:Nat} {sp:Nat→Bool} {held:Bool}
theorem row_of_trod {fuel:Nat} {e:TypeId} {f0 f1 f2 f3:Field} {cs:List Value} {r:CurRow} {p:List MemPlace} (he:P.underlying e=some (.struct #[f0,f1,f2,f3]))
  (h0:P.underlying f0.type=some .string∧f0.offset=0∧P.cellsOf f0.type=1) (h1:P.underlying f1.type=some .string∧f1.offset=1∧P.cellsOf f1.type=1)
  (h2:P.underlying f2.type=some (.int .i64)∧f2.offset=2∧P.cellsOf f2.type=1) (h3:P.underlying f3.type=some (.int .i64)∧f3.offset=3∧P.cellsOf f3.type=1) (hc:P.cellsOf e=4)
  (h:DataW.trod enc P w base sp held fuel e cs=some (rowData r,p)):cs=rowC r:=by
 obtain⟨xs,n,_,hx,hl,hlen,hf⟩:=DataW.trod_struct he h
 match xs,hlen with
 | [y0,y1,y2,y3],_ =>
  have g0:=hf 0 f0 rfl
  have g1:=hf 1 f1 rfl
  have g2:=hf 2 f2 rfl
  have g3:=hf 3 f3 rfl
  rw [hc] at hl
  match cs,hl with
  | [c0,c1,c2,c3],_ =>
   simp only [h0.2.1,h0.2.2,h1.2.1,h1.2.2,h2.2.1,h2.2.2,h3.2.1,h3.2.2] at g0 g1 g2 g3
   obtain⟨s0,e0,x0,_⟩:=DataW.trod_string h0.1 g0
   obtain⟨s1,e1,x1,_⟩:=DataW.trod_string h1.1 g1
   obtain⟨n2,e2,x2,_⟩:=DataW.trod_int h2.1 g2
   obtain⟨n3,e3,x3,_⟩:=DataW.trod_int h3.1 g3
   simp at e0 e1 e2 e3
   subst e0 e1 e2 e3
   have hx1:=congrArg Prod.fst hx
   simp only [rowData,x0,x1,x2,x3,List.map_cons,List.map_nil,DataW.agg.injEq,List.cons.injEq,DataW.lit.injEq,Lit.string.injEq,Lit.int.injEq,and_true,true_and] at hx1
   obtain⟨q0,q1,q2,q3⟩:=hx1
   show _=[Value.string r.1,.string r.2.1,.int .i64 r.2.2.1,.int .i64 r.2.2.2.1]
   rw [str_of q0,str_of q1,q2,q3]
theorem cells_of_trod {fuel:Nat} {t e:TypeId} {f0 f1 f2 f3:Field} {cs:List Value} {l:List CurRow} {p:List MemPlace} (ht:P.underlying t=some (.array l.length e)) (he:P.underlying e=some (.struct #[f0,f1,f2,f3]))
  (h0:P.underlying f0.type=some .string∧f0.offset=0∧P.cellsOf f0.type=1) (h1:P.underlying f1.type=some .string∧f1.offset=1∧P.cellsOf f1.type=1)
  (h2:P.underlying f2.type=some (.int .i64)∧f2.offset=2∧P.cellsOf f2.type=1) (h3:P.underlying f3.type=some (.int .i64)∧f3.offset=3∧P.cellsOf f3.type=1) (hc:P.cellsOf e=4) (hct:P.cellsOf t=l.length*4)
  (h:DataW.trod enc P w base sp held fuel t cs=some (curData l,p)):cs=curCells l:=by
 cases fuel with
 | zero=>simp [DataW.trod] at h
 | succ fuel =>
  simp only [DataW.trod,ht,hc,hct] at h
  split at h
  ·rename_i hl
   obtain⟨xs,hm,hx⟩:=Option.map_eq_some_iff.1 h
   have hxs:xs.map (·.1)=l.map rowData:=by
    have:=congrArg Prod.fst hx
    simpa [curData] using this
   refine cells_of_rows hl fun i hi=>?_
   obtain⟨b,hb,hf⟩:=Go.Lib.mapM_at hm i i (by simp [hi])
   have hb1:b.1=rowData l[i]:=by
    have h2:(xs.map (·.1))[i]?=some b.1:=by simp [hb]
    rw [hxs] at h2
    simpa [hi] using h2.symm
   obtain⟨b1,b2⟩:=b
   simp only at hb1
   subst hb1
   exact row_of_trod he h0 h1 h2 h3 hc hf
  ·cases h
end
noncomputable def fieldsC:Array Field:=match Tryz.prog.underlying 106 with | some (.struct fs)=>fs | _=>#[]
theorem table {W : World} {rest : List (String × DataW Unit)} (h : laidMet Tryz.prog (("loop.example/g00793/impl.currencies", curData curI) :: rest) W) : ∃ t, W.heap[0]? = some (.cells (curCells curI).toArray t (0, 0)) := by
 obtain⟨ps,⟨g',t',cs,fuel,p,q,hg',ht',hvar,hd,hq,hps⟩,_,hb⟩:=h
 obtain rfl := Option.some.inj ((show Tryz.prog.globalNamed "loop.example/g00793/impl.currencies" = some 0 by kernel_rfl).symm.trans hg')
 obtain rfl:=Option.some.inj ((show(Tryz.prog.globals[0]?).map (·.type)=some 164 by kernel_rfl).symm.trans ht')
 have hcs:=cells_of_trod (e:=106) (f0:=fieldsC[0]!) (f1:=fieldsC[1]!) (f2:=fieldsC[2]!) (f3:=fieldsC[3]!) (by kernel_rfl) (by kernel_rfl) ⟨by kernel_rfl,by kernel_rfl,by kernel_rfl⟩ ⟨by kernel_rfl,by kernel_rfl,by kernel_rfl⟩
  ⟨by kernel_rfl,by kernel_rfl,by kernel_rfl⟩ ⟨by kernel_rfl,by kernel_rfl,by kernel_rfl⟩ (by kernel_rfl) (by kernel_rfl) hd
 have hsz:0<cs.size:=by
  have:=congrArg List.length hcs
  simp at this
  rw [this]; decide +kernel
 obtain⟨⟨c,t,hc⟩,_⟩:=hb 0 0 (by
  rw [hps]
  refine List.mem_append_left _ (List.mem_append_left _ ?_)
  simp [MemPlace.row]
  exact hsz)
 unfold World.var? at hvar
 rw [hg'] at hvar
 simp only [Option.bind_some,hc,Option.some.injEq] at hvar
 refine⟨t,?_⟩
 rw [hc,← hcs,hvar]
theorem hasCur_of {W:World} {t:TypeId} (h:W.heap[0]?=some (.cells (curCells curI).toArray t (0,0))):hasCur (knowOf W) :=
 ⟨(t,(0,0)),knowOf_eq h fun es e=>by
  have h80:(curCells curI).toArray.toList.length=80:=by decide +kernel
  have h1:=h80.symm.trans (congrArg List.length e)
  exact absurd (show(80:Nat)=1 from h1) (by omega)⟩
end Go.Proofs.YtfiakghfncempaaGreatDoor
namespace Go.Proofs.YtfiakghfncempaaGreatDoor
open Sx Go.ChangeShapes Go.WideShapes Go.ChangeAt Go.RowKit
theorem Tryz.own:ownKnob Tryz.prog.godebug=none:=by kernel_rfl
theorem Tryz.laidOut:laidOutB Tryz.prog=true:=by kernel_rfl
noncomputable def setC (cs:Array Value):Obj→Obj
 | .cells _ t frozen=>.cells cs t frozen
 | o=>o
noncomputable def laidWorld (os:Os):World :=
 { World.holding Tryz.prog os ⟨#[],#[],[]⟩ with heap:=((World.holding Tryz.prog os ⟨#[],#[],[]⟩).heap.modify 0 (setC (curCells curI).toArray)) }
theorem arg_slice {sh:List Sc} {α:Type} {r:Rp sh α} {P:Program} {W:World} {t e:TypeId} {v:Value} {base:Nat} {H:Type} {enc:TypeId × Value→H} {sp:Nat→Bool} {held:Bool} {d:DataW H} {p:List MemPlace} (hr:Rd P W e r) (ht:P.underlying t=some (.slice e))
  (hm:P.cellsOf e=sh.length) (hpos:0<sh.length) (hv:Value.okWide P W .any base t v) (h:DataW.Trod enc P W 0 sp held t v d p):∃ s l f,v=Sc.val .l s∧LR r (knowOf W) s l f:=by
 obtain⟨fuel,hf⟩:=h
 obtain⟨s,l,f,e',hL⟩:=rd_slice hr ht hm hpos hf
 refine⟨s,l,f,?_,hL⟩
 unfold Value.okWide at hv
 rw [ht] at hv
 simp only at hv
 unfold Cell.okWide at hv
 rw [ht] at hv
 cases v with
 | slice a n c =>
  simp only [Value.cells] at e'
  simpa [Sc.val] using e'
 | _=>simp [Cell.ok,ht] at hv
theorem arg_row {sh:List Sc} {α:Type} {r:Rp sh α} {P:Program} {W:World} {t:TypeId} {fs:Array Field} {v:Value} {base:Nat} {H:Type} {enc:TypeId × Value→H} {sp:Nat→Bool} {held:Bool} {d:DataW H} {p:List MemPlace} (hr:Rd P W t r) (ht:P.underlying t=some (.struct fs))
  (hv:Value.okWide P W .any base t v) (h:DataW.Trod enc P W 0 sp held t v d p):∃ c a fp,v=Sh1.val (.g sh) c∧r.R (knowOf W) c a fp:=by
 unfold Value.okWide at hv
 rw [ht] at hv
 obtain⟨cs,rfl,_⟩:=hv
 obtain⟨fuel,hf⟩:=h
 obtain⟨c,a,fp,e,hR⟩:=hr hf
 refine⟨c,a,fp,?_,hR⟩
 have e':cs.toList=Scs.vals sh c:=e
 show Value.agg cs=Value.agg (Scs.vals sh c).toArray
 rw [← e']
end Go.Proofs.YtfiakghfncempaaGreatDoor
namespace Go.Proofs.YtfiakghfncempaaGreatDoor
theorem and_t {a b:Bool} (h:a=true) (k:b=true):(a && b)=true:=by rw [h,k]; rfl
theorem pf_laid:laidOutB Tryz.prog=true:=by kernel_rfl
theorem pf_maps:mapsRowed Tryz.prog=true:=by kernel_rfl
theorem pf_heard:Tryz.prog.stopsHeard=true:=by kernel_rfl
theorem pf_enter:Tryz.prog.mayEnter=true:=by kernel_rfl
end Go.Proofs.YtfiakghfncempaaGreatDoor
namespace Go.Proofs.YtfiakghfncempaaGreatDoor
open Sx Go.ChangeShapes Go.WideShapes Go.ChangeAt Go.RowKit
set_option maxRecDepth 100000 in
theorem doDeal_contract (H:Type) (enc:TypeId × Value→H) (W:World) (base:Nat) (args:Array Value) (ds gs:List (DataW H)) (before:List MemPlace)
  (hval:∀ (j:Nat) t v,Tryz.f4.params[j]?=some t→args[j]?=some v→Value.okWide Tryz.prog W .any base t v)
  (hW:DataW.Whole enc Tryz.prog Tryz.f4.params.toList Rows.fnExactDoDealSpec.vars false W args.toList ds gs before) (hL:laidMetH Tryz.prog Rows.fnExactDoDealRow.laid W) :
  Calls Tryz.prog 4 args W fun e W'=>∃ v,e=.returned v∧Rows.fnExactDoDealSpec.post enc Tryz.prog Tryz.f4 false true false false W args v W':=by
 have hW':=hW
 obtain⟨p,q,hA0,hV,rfl,hfz,hnd⟩:=hW
 have hA:DataW.TrodAll enc Tryz.prog W 0 (fun _=>true) true Tryz.f4.params.toList args.toList ds p:=hA0
 rw [Tryz.params4] at hA hval
 obtain⟨v0,vs0,d0,ds0,p0,q0,hargs,rfl,rfl,h0,hr0⟩:=trodAll_cons hA
 obtain⟨v1,vs1,d1,ds1,p1,q1,rfl,rfl,rfl,h1,hr1⟩:=trodAll_cons hr0
 obtain⟨v2,vs2,d2,ds2,p2,q2,rfl,rfl,rfl,h2,hr2⟩:=trodAll_cons hr1
 obtain⟨v3,vs3,d3,ds3,p3,q3,rfl,rfl,rfl,h3,hr3⟩:=trodAll_cons hr2
 obtain⟨v4,vs4,d4,ds4,p4,q4,rfl,rfl,rfl,h4,hr4⟩:=trodAll_cons hr3
 obtain⟨rfl,rfl,rfl⟩:=trodAll_nil hr4
 obtain rfl:args=#[v0,v1,v2,v3,v4]:=by cases args; simp_all
 obtain⟨g0,t0,cs,fuel,d,p2,rfl,_⟩:=trodVars_one hV
 have ht0:Tryz.prog.underlying 69=some (.struct fsLedger):=by kernel_rfl
 obtain⟨c0,x0,f0,rfl,hx0⟩:=arg_row (rd_Ledger W) ht0 (hval 0 69 v0 rfl rfl) h0
 obtain⟨a1,rfl,rfl,rfl,_⟩:=Go.ChangeMaps.open_string Tryz.underlying9 (hval 1 9 v1 rfl rfl) h1
 obtain⟨c2,x2,f2,rfl,hx2⟩:=arg_slice (rd_string (show Tryz.prog.underlying 9=some .string by kernel_rfl)) (show Tryz.prog.underlying 70=some (.slice 9) by kernel_rfl) (by kernel_rfl) (by decide) (hval 2 70 v2 rfl rfl) h2
 obtain⟨c3,x3,f3,rfl,hx3⟩:=arg_slice (rd_int (show Tryz.prog.underlying 3=some (.int .i64) by kernel_rfl)) (show Tryz.prog.underlying 34=some (.slice 3) by kernel_rfl) (by kernel_rfl) (by decide) (hval 3 34 v3 rfl rfl) h3
 have ht4:Tryz.prog.underlying 73=some (.struct fsMoney):=by kernel_rfl
 obtain⟨c4,x4,f4,rfl,hx4⟩:=arg_row (rd_Money W) ht4 (hval 4 73 v4 rfl rfl) h4
 obtain⟨t,ht⟩:=table (W:=W) hL
 refine((law_DoDeal (hasCur_of ht) hx0 a1 hx2 hx3 hx4).2 W (knowOf_on W)).mono ?_
 rintro e W' ⟨V',r,rfl,hfr,hon,hle,rfl⟩
 exact⟨_,rfl,post_law Tryz.laidOut (rowsOk_spec (by kernel_rfl)) (by kernel_rfl) hW' (below_of_fr hfr (knowOf_on W) hon hle) (tb:=4) rfl Tryz.underlying4 rfl rfl rfl⟩
theorem doDeal_laid (os:Os):laidMet Tryz.prog Rows.fnExactDoDealRow.laid ((laidWorld os).forCall (fun _ _=>0) ⟨#[],#[(.agg #[.slice none 0 0,.slice none 0 0,.string ⟨#[]⟩,.slice none 0 0]:Value),(.string ⟨#[]⟩:Value),(.slice none 0 0:Value),(.slice none 0 0:Value),(.agg #[.string ⟨#[]⟩,.bool false,.slice none 0 0]:Value)],[]⟩).memory :=
 laidMet_of_run' 8 (by kernel_rfl) (by kernel_rfl)
theorem doDeal_reads (os:Os) {H:Type} (enc:TypeId × Value→H):DataW.whole enc Tryz.prog ((laidWorld os).forCall (fun _ _=>0) ⟨#[],#[(.agg #[.slice none 0 0,.slice none 0 0,.string ⟨#[]⟩,.slice none 0 0]:Value),(.string ⟨#[]⟩:Value),(.slice none 0 0:Value),(.slice none 0 0:Value),(.agg #[.string ⟨#[]⟩,.bool false,.slice none 0 0]:Value)],[]⟩).memory Tryz.f4.params.toList Rows.fnExactDoDealSpec.vars false #[(.agg #[.slice none 0 0,.slice none 0 0,.string ⟨#[]⟩,.slice none 0 0]:Value),(.string ⟨#[]⟩:Value),(.slice none 0 0:Value),(.slice none 0 0:Value),(.agg #[.string ⟨#[]⟩,.bool false,.slice none 0 0]:Value)].toList 8=some ([.agg [.agg [.nil],.nil,.agg [.lit (.string []),.nil]],.lit (.string []),.nil,.nil,.agg [.lit (.string []),.agg [.lit (.bool false),.nil]]],[curData curI],MemPlace.row ⟨0,0,none⟩ 80):=by kernel_rfl
set_option maxRecDepth 100000 in
theorem doDeal_lifted (os:Os) (started:os.Started) (H:Type) (enc:TypeId × Value→H) (F:Stop.Interp) :
  ReturnsInHanded {} Tryz.checked os 4 .any ((OpenSpec.ofChange Rows.fnExactDoDealSpec).preRow enc Tryz.prog Tryz.f4 Rows.fnExactDoDealRow.domain false Rows.fnExactDoDealRow.laid) (((OpenSpec.ofChange Rows.fnExactDoDealSpec).at F).post enc Tryz.prog Tryz.f4 false true false false):=by
 have hx:=doDeal_reads os enc
 refine returnsInHanded_of_row (C:=Tryz.checked) (s:=OpenSpec.ofChange Rows.fnExactDoDealSpec) Tryz.own started (by kernel_rfl) Tryz.func4
  (witness_row_at (enc:=enc) (C:=Tryz.checked) false (laidWorld os) #[(.agg #[.slice none 0 0,.slice none 0 0,.string ⟨#[]⟩,.slice none 0 0]:Value),(.string ⟨#[]⟩:Value),(.slice none 0 0:Value),(.slice none 0 0:Value),(.agg #[.string ⟨#[]⟩,.bool false,.slice none 0 0]:Value)] rfl (by kernel_rfl) (by kernel_rfl) (by kernel_rfl)
   (OpenSpec.preRow_of_cond 8 hx rfl (fun k hk=>by cases hk) (by kernel_rfl) (doDeal_laid os))) ?_
 intro W base args ds gs before hval hW _ _ _ hL _ _
 exact doDeal_contract H enc W base args ds gs before hval hW hL
theorem doDeal_c_inPlace:(Rows.fnExactDoDealRow.inPlace == Tryz.prog.inPlace 4)=true:=by kernel_rfl
theorem doDeal_c_unfollowed:(Rows.fnExactDoDealRow.unfollowed == Tryz.prog.unfollowed 4)=true:=by kernel_rfl
theorem doDeal_c_recurses:(Rows.fnExactDoDealRow.recurses == Tryz.prog.recurses 4)=true:=by kernel_rfl
theorem doDeal_c_named:(Rows.fnExactDoDealRow.named == Tryz.prog.varsNamed 4)=true:=by kernel_rfl
theorem doDeal_c_plainKeys:(Rows.fnExactDoDealRow.plainKeys == Tryz.prog.plainKeys)=true:=by kernel_rfl
theorem doDeal_c_lifted:(Rows.fnExactDoDealRow.lifted == Tryz.prog.liftsFinal)=true:=by kernel_rfl
theorem doDeal_c_make:(Tryz.prog.make == some Rows.fnExactDoDealRow.make)=true:=by kernel_rfl
theorem doDeal_closed:joinedFacts Tryz.prog 4 Tryz.f4 (OpenSpec.ofChange Rows.fnExactDoDealSpec).bare Rows.fnExactDoDealRow=true:=by
 unfold joinedFacts
 exact and_t (and_t (and_t (and_t (and_t (and_t (and_t (and_t (and_t (and_t (and_t (and_t (and_t (and_t (and_t (and_t (and_t (and_t (and_t (and_t (and_t (and_t (and_t (and_t (and_t (and_t (and_t (and_t (and_t (and_t (and_t ((by kernel_rfl)) pf_laid) pf_maps) (by kernel_rfl)) (by kernel_rfl)) (by kernel_rfl)) (by kernel_rfl)) (by kernel_rfl)) (by kernel_rfl)) doDeal_c_inPlace) doDeal_c_unfollowed) doDeal_c_recurses) doDeal_c_named) (by kernel_rfl)) (by kernel_rfl)) (by kernel_rfl)) (by kernel_rfl)) (by kernel_rfl)) (by kernel_rfl)) (by kernel_rfl)) (by kernel_rfl)) (by kernel_rfl)) doDeal_c_plainKeys) (by kernel_rfl)) pf_heard) pf_enter) doDeal_c_lifted) doDeal_c_make) (by kernel_rfl)) (by kernel_rfl)) (by kernel_rfl)) (by kernel_rfl)
theorem doDeal_said:Rows.FnExactDoDealSaid :=
 OpenClaim.holds_of_cond 4 Tryz.f4 rfl rfl rfl rfl rfl rfl rfl ⟨rfl,rfl,rfl,rfl,rfl⟩ rfl rfl rfl rfl rfl (by kernel_rfl) Tryz.func4 doDeal_closed
  (of_decide_eq_true (by kernel_rfl)) (by unfold Func.isWrapper; first | (rw [if_pos (by decide +kernel)]; kernel_rfl) | (rw [if_neg (by decide +kernel)]; exact⟨rfl,rfl⟩))
  (fun os started H enc _ F=>by rw [OpenClaim.pre_eq_preRow]; exact doDeal_lifted os started H enc F)
theorem doDeal_plain (f : FuncId) (fn : Func) (hf : Tryz.pinned.checked.prog.funcNamed "loop.example/g00793/laws.FnExactDoDeal" = some f) (hfn : Tryz.pinned.checked.prog.funcs[f]? = some fn) :
  false=Tryz.pinned.checked.prog.looks []∧∀ (j:Nat) t,fn.params[j]?=some t→Tryz.pinned.checked.prog.wantsStandIn t=false:=by
 obtain rfl : f = 4 := Option.some.inj ((show Tryz.prog.funcNamed "loop.example/g00793/laws.FnExactDoDeal" = some 4 by kernel_rfl).symm.trans hf) |>.symm
 obtain rfl:fn=Tryz.f4:=(Option.some.inj (Tryz.func4.symm.trans hfn)).symm
 refine⟨by kernel_rfl,fun j t ht=>?_⟩
 rw [Tryz.params4] at ht
 rcases(show t=69∨t=9∨t=70∨t=34∨t=73 by simpa using Array.mem_of_getElem? ht) with rfl | rfl | rfl | rfl | rfl
 ·exact(show Tryz.prog.wantsStandIn 69=false by kernel_rfl)
 ·exact(show Tryz.prog.wantsStandIn 9=false by kernel_rfl)
 ·exact(show Tryz.prog.wantsStandIn 70=false by kernel_rfl)
 ·exact(show Tryz.prog.wantsStandIn 34=false by kernel_rfl)
 ·exact(show Tryz.prog.wantsStandIn 73=false by kernel_rfl)
theorem doDeal_card:Rows.FnExactDoDealCardSaid :=
 Claim7.holds_tied_plain_at .later [] _ _ _ _ doDeal_said (fun _ h=>by cases h) (by kernel_rfl) (fun _ h=>by cases h) fnExactDoDeal_row_tie rfl ⟨rfl,rfl⟩ (by kernel_rfl) rfl doDeal_plain (by kernel_rfl)
end Go.Proofs.YtfiakghfncempaaGreatDoor
