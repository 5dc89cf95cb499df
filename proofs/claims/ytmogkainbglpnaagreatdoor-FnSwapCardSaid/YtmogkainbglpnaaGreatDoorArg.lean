/-
  Arguments of the laws as rows and lists; a world whose table of currencies is laid.
-/
import Derived.Test.YtmogkainbglpnaaGreatDoorMath
import Derived.Test.YtmogkainbglpnaaGreatDoorChecked
import Derived.ChangeArms
import Derived.Lib.LaidTab
import Derived.Test.YtmogkainbglpnaaGreatDoorLawFnSwap
import Derived.KernelRfl
import Derived.Test.YtmogkainbglpnaaGreatDoorCur
import Derived.Test.YtmogkainbglpnaaGreatDoorRows
import Derived.ProofKit
import Derived.Carry
import Derived.ChangeOld
import Derived.ChangeMaps5
import Derived.Test.YtmogkainbglpnaaGreatDoorValid
import Derived.Test.YtmogkainbglpnaaGreatDoorCards
import Derived.Test.YtmogkainbglpnaaGreatDoorTie
import Derived.OpenShut
import Derived.Deep.DeepHandedRow
namespace Go.Proofs.YtmogkainbglpnaaGreatDoor
open Sx
def knowOf (W:World):Know:=fun b=>match W.heap[b]? with
 | some (.cells c t fr)=>(match c.toList with | [.tuple _]=>none | l=>some (l,(t,fr)))
 | _=>none
theorem knowOf_on (W:World):(knowOf W).on W:=by
 intro b c t h
 unfold knowOf at h
 split at h
 ·rename_i c' t' fr hh
  split at h
  ·cases h
  ·rename_i hne
   simp only [Option.some.injEq,Prod.mk.injEq] at h
   obtain⟨rfl,rfl⟩:=h
   rw [hh]
   unfold objOf
   split
   ·rename_i es he
    exact(hne es he).elim
   ·rfl
 ·cases h
theorem knowOf_eq {W:World} {b:Nat} {c:Array Value} {t:TypeId} {fr:Nat × Nat} (h:W.heap[b]?=some (.cells c t fr)) (hn:∀ es,c.toList≠[.tuple es]):knowOf W b=some (c.toList,(t,fr)):=by
 unfold knowOf
 rw [h]
 simp only
theorem cut_tuple {l l':List Value} {off n:Nat} (h:cutv l off n=some l') (hn:0<n) (ht:noTup l'=true):∀ es,l≠[.tuple es]:=by
 intro es e
 subst e
 unfold cutv at h
 split at h
 ·rename_i hle
  have h1:off=0∧n=1:=by simp at hle; omega
  obtain⟨rfl,rfl⟩:=h1
  simp at h
  subst h
  simp [noTup] at ht
 ·cases h
def Rd {sh:List Sc} {α:Type} (P:Program) (W:World) (t:TypeId) (r:Rp sh α):Prop :=
 ∀ {H:Type} {enc:TypeId × Value→H} {sp:Nat→Bool} {held:Bool} {fuel:Nat} {cs:List Value} {x:DataW H × List MemPlace},DataW.trod enc P W 0 sp held fuel t cs=some x →
  ∃ c a fp,cs=Scs.vals sh c∧r.R (knowOf W) c a fp
section
variable {H:Type} {enc:TypeId × Value→H} {P:Program} {W:World} {sp:Nat→Bool} {held:Bool} {fuel:Nat} {cs:List Value} {x:DataW H × List MemPlace}
theorem cells_cut {b o m:Nat} {c:Array Value} {t:TypeId} {fr:Nat × Nat} {row:List Value} (hm:0<m) (hb:W.heap[b]?=some (.cells c t fr)) (h:W.cells? 0 ⟨b,o,none⟩ m=some row):cutv c.toList o m=some row:=by
 unfold World.cells? at h
 rw [if_pos (Nat.zero_le _)] at h
 have hl:=Go.Lib.mapM_length h
 simp at hl
 have hat:∀ j,j<m→c[o+j]?=row[j]?:=by
  intro j hj
  obtain⟨v,hv,hc⟩:=Go.Lib.mapM_at h j j (by simp [hj])
  rw [addr_add_eq] at hc
  simp only [World.cell?,hb,Option.isSome_none,Bool.false_eq_true,if_false] at hc
  rw [hc,hv]
 unfold cutv
 have hlast:=hat (m-1) (by omega)
 have hlt:o+(m-1)<c.size:=by
  have:(row[m-1]?).isSome=true:=by simp [hl]; omega
  rw [← hlast] at this
  simpa using this
 rw [if_pos (by simp; omega)]
 congr 1
 apply List.ext_getElem?
 intro j
 by_cases hj:j<m
 ·rw [List.getElem?_take_of_lt hj,List.getElem?_drop,Array.getElem?_toList,hat j hj]
 ·rw [List.getElem?_eq_none (by simp; omega),List.getElem?_eq_none (by omega)]
theorem rows_flat {α β:Type} {f:α→List β} {m:Nat} (hf:∀ a,(f a).length=m):∀ {l:List α} {L:List β},(∀ (i:Nat) (h:i<l.length),cutv L (i*m) m=some (f l[i]))→∃ post,L=l.flatMap f++post
 | [],L,_=>⟨L,rfl⟩
 | a :: l,L,h=>by
  have h0:=h 0 (by simp)
  simp only [Nat.zero_mul,List.getElem_cons_zero] at h0
  unfold cutv at h0
  split at h0
  ·rename_i hm
   simp only [List.drop_zero,Option.some.injEq] at h0
   have e:L=f a++L.drop m:=by rw [← h0,List.take_append_drop]
   obtain⟨post,hp⟩:=rows_flat hf (l:=l) (L:=L.drop m) (fun i hi=>by
    have:=h (i+1) (by simpa using hi)
    simp only [List.getElem_cons_succ] at this
    have e2:(i+1)*m=(f a).length+i*m:=by rw [hf,Nat.add_mul,Nat.one_mul,Nat.add_comm]
    rw [e,e2,cutv_skip] at this
    rw [← this])
   exact⟨post,by rw [List.flatMap_cons,List.append_assoc,← hp]; exact e⟩
  ·cases h0
theorem els_of {sh:List Sc} {α:Type} {r:Rp sh α} {V:Know} {Q:Nat→Scs sh→Prop}:∀ (n:Nat),(∀ i,i<n→∃ c a f,Q i c∧r.R V c a f)→∃ cs l fps,List.length l=n∧Els r V cs l fps∧∀ (i:Nat) (h:i<cs.length),Q i cs[i]
 | 0,_=>⟨[],[],[],rfl,rfl,fun i h=>by simp at h⟩
 | n+1,h=>by
  obtain⟨cs,l,fps,h1,h2,h3⟩:=els_of n (fun i hi=>h i (by omega))
  obtain⟨c,a,f,hq,hr⟩:=h n (by omega)
  refine⟨cs++[c],l++[a],fps++f,by simp [h1],h2.snoc hr,fun i hi=>?_⟩
  have hcl:=h2.len
  by_cases hc:i<cs.length
  ·rw [List.getElem_append_left hc]; exact h3 i hc
  ·have:i=n:=by simp at hi; omega
   subst this
   rw [List.getElem_append_right (by omega)]
   simpa using hq
theorem rd_slice {sh:List Sc} {α:Type} {r:Rp sh α} {t e:TypeId} (hr:Rd P W e r) (ht:P.underlying t=some (.slice e)) (hm:P.cellsOf e=sh.length) (hpos:0<sh.length) (h:DataW.trod enc P W 0 sp held fuel t cs=some x) :
  ∃ s l f,cs=[.slice s.a s.n s.c]∧LR r (knowOf W) s l f:=by
 rcases DataW.trod_slice ht h with ⟨rfl,_⟩ | ⟨a,len,cap,elems,rest,n,_,rfl,_,_,hlc,hcap,hel,hall,_⟩
 ·exact⟨⟨none,0,0⟩,[],[],rfl,rfl,Nat.le_refl _,Nat.zero_le _,.inl ⟨rfl,fun _=>rfl,rfl⟩⟩
 ·have hmax:cap≤9223372036854775807:=hcap
  by_cases h0:len=0
  ·subst h0
   exact⟨⟨some a,0,cap⟩,[],[],rfl,rfl,Nat.zero_le _,Nat.zero_le _,.inl ⟨rfl,(fun h=>by cases h),rfl⟩⟩
  rw [hm] at hall
  -- the block
  have hrow:∀ i,i<len→∃ row y,W.cells? 0 (a.add (i*sh.length)) sh.length=some row∧DataW.trod enc P W 0 sp held n e row=some y:=by
   intro i hi
   have:=hall i hi
   have he:elems[i]?=some elems[i]:=by simp [hel,hi]
   rw [he,Option.bind_eq_some_iff] at this
   obtain⟨row,h1,h2⟩:=this
   exact⟨row,_,h1,h2⟩
  obtain⟨row0,y0,hc0,_⟩:=hrow 0 (by omega)
  obtain⟨bk,off,spot⟩:=a
  have hcell:∃ v,W.cell? ⟨bk,off,spot⟩=some v:=by
   unfold World.cells? at hc0
   rw [if_pos (Nat.zero_le _)] at hc0
   obtain⟨v,_,hv⟩:=Go.Lib.mapM_at hc0 0 0 (by simp [hpos])
   refine⟨v,?_⟩
   simpa [Addr.add] using hv
  obtain⟨v,hv⟩:=hcell
  unfold World.cell? at hv
  split at hv
  ·rename_i c ty fr hb
   split at hv
   ·cases hv
   ·rename_i hs
    have hspot:spot=none:=by simpa using hs
    subst hspot
    have hq:∀ i,i<len→∃ (c':Scs sh) (a':α) (f':List Nat),cutv c.toList (off+i*sh.length) sh.length=some (Scs.vals sh c')∧r.R (knowOf W) c' a' f':=by
     intro i hi
     obtain⟨row,y,h1,h2⟩:=hrow i hi
     rw [addr_add_eq] at h1
     obtain⟨c',a',f',rfl,hR⟩:=hr h2
     exact⟨c',a',f',cells_cut hpos hb h1,hR⟩
    obtain⟨cs,l,fps,k1,k2,k3⟩:=els_of (Q:=fun i c'=>cutv c.toList (off+i*sh.length) sh.length=some (Scs.vals sh c')) len hq
    have hoff:off≤c.toList.length:=by
     obtain⟨c',_,_,hc',_⟩:=hq 0 (by omega)
     unfold cutv at hc'
     split at hc'
     ·omega
     ·cases hc'
    have hpre:(c.toList.take off).length=off:=by rw [List.length_take]; omega
    have hflat:∃ post,c.toList.drop off=cs.flatMap (Scs.vals sh)++post:=by
     refine rows_flat (vals_len sh) fun i hi=>?_
     have:=k3 i hi
     rw [← List.take_append_drop off c.toList] at this
     have e2:off+i*sh.length=(c.toList.take off).length+i*sh.length:=by rw [hpre]
     rw [e2,cutv_skip] at this
     exact this
    obtain⟨post,hpost⟩:=hflat
    refine⟨⟨some ⟨bk,off,none⟩,len,cap⟩,l,bk :: fps,rfl,k1.symm,hlc,Nat.le_trans hlc hmax,.inr ⟨bk,c.toList.take off,post,(ty,fr),fps,cs,by rw [hpre],?_,k2,rfl⟩⟩
    obtain⟨c0,_,_,hc0',_⟩:=hq 0 (by omega)
    rw [knowOf_eq hb (cut_tuple hc0' hpos (vals_noTup sh c0)),← hpost,List.take_append_drop]
  ·cases hv
end
end Go.Proofs.YtmogkainbglpnaaGreatDoor
namespace Go.Proofs.YtmogkainbglpnaaGreatDoor
open Sx
theorem rd_By (W:World):Rd Tryz.prog W 5 rBy:=by
 intro H enc sp held fuel cs x h
 obtain⟨n,rfl,_,_⟩:=DataW.trod_int (show Tryz.prog.underlying 5=some (.int .u8) by kernel_rfl) h
 exact⟨(n,()),(n,()),[],rfl,rfl,rfl⟩
end Go.Proofs.YtmogkainbglpnaaGreatDoor
namespace Go.Proofs.YtmogkainbglpnaaGreatDoor
open Sx Go.ChangeShapes Go.WideShapes Go.ChangeAt Go.RowKit
theorem below_of_fr {V V':Know} {w w':World} (h:Fr V V' w w') (hV:V.on w) (hV':V'.on w') (hle:V.le V'):Below w.heap.size w w':=by
 refine⟨h.os,h.tape,h.output,h.size,fun k hk=>?_⟩
 cases hk2:V k with
 | none=>exact h.keep k hk hk2
 | some x =>
  obtain⟨c,t⟩:=x
  rw [hV k c t hk2,hV' k c t (hle k _ hk2)]
section
variable {H:Type} {enc:TypeId × Value→H} {P:Program}
theorem trodAll_stays (hl:laidOutB P=true) {W W':World} (hb:Below W.heap.size W W'):∀ {ts:List TypeId} {vs:List Value} {ds:List (DataW H)} {p:List MemPlace},
  (∀ t∈ts,P.readableRec t=true∧t<P.types.size)→DataW.TrodAll enc P W 0 (fun _=>true) true ts vs ds p→(∀ x∈p,x.block<W.heap.size)→DataW.TrodAll enc P W' 0 (fun b=>decide (b<W.heap.size)) true ts vs ds p
 | [],_,_,_,_,h,_=>by
  obtain⟨rfl,rfl,rfl⟩:=trodAll_nil h
  exact h
 | t :: _,_,_,_,ht,h,hp=>by
  obtain⟨v,vs1,d,ds1,a,b,rfl,rfl,rfl,h1,h2⟩:=trodAll_cons h
  obtain⟨g1,g2⟩:=ht t (List.mem_cons_self ..)
  exact⟨a,b,Below.trod hl g1 g2 h1 hb (fun x hx=>hp x (by simp [hx])),trodAll_stays hl hb (fun t ht'=>ht t (List.mem_cons_of_mem _ ht')) h2 (fun x hx=>hp x (by simp [hx])),rfl⟩
def varsOk (P:Program) (ns:List String):Bool:=ns.all fun n=>((P.globalNamed n).bind (P.globals[·]?)).all fun gl=>P.readableRec gl.type && decide (gl.type<P.types.size)
theorem trodVars_stays (hl:laidOutB P=true) {W W':World} (hb:Below W.heap.size W W') :
  ∀ {ns:List String} {gs:List (DataW H)} {ps:List MemPlace},varsOk P ns=true→DataW.TrodVars enc P W (fun _=>true) ns gs ps→DataW.TrodVars enc P W' (fun b=>decide (b<W.heap.size)) ns gs ps
 | [],[],_,_,h=>h
 | [],_ :: _,_,_,h=>h.elim
 | _ :: _,[],_,_,h=>h.elim
 | n :: ns,d :: ds,ps,hv,h=>by
  have hlt:=h.lt
  obtain⟨g,t,cs,fuel,p,q,h1,h2,h3,h4,hs,e⟩:=h
  simp only [varsOk,List.all_cons,Bool.and_eq_true] at hv
  have ht:P.readableRec t=true∧t<P.types.size:=by
   have:=hv.1
   rw [h1] at this
   cases hg:P.globals[g]? with
   | none=>rw [hg] at h2; cases h2
   | some gl =>
    rw [hg] at h2
    obtain rfl:gl.type=t:=Option.some.inj h2
    simpa [hg] using this
  have hp:∀ x∈p,x.block<W.heap.size:=fun x hx=>hlt x (by rw [e]; simp [hx])
  have h3':W'.var? P n=some cs:=by
   unfold World.var? at h3 ⊢
   rw [h1] at h3 ⊢
   simp only [Option.bind_some] at h3 ⊢
   have hg:g<W.heap.size:=by
    cases hh:W.heap[g]? with
    | none=>rw [hh] at h3; cases h3
    | some o=>exact(Array.getElem?_eq_some_iff.1 hh).1
   rw [hb.block g hg]; exact h3
  obtain⟨f2,h4'⟩:∃ f2,DataW.trod enc P W' 0 (fun b=>decide (b<W.heap.size)) true f2 t cs.toList=some (d,p):=by
   have hT:DataW.Trod enc P W 0 (fun _=>true) true t (.agg cs) d p:=⟨fuel,h4⟩
   exact Below.trod hl ht.1 ht.2 hT hb hp
  exact⟨g,t,cs,f2,p,q,h1,h2,h3',h4',trodVars_stays hl hb (by simpa [varsOk] using hv.2) hs,e⟩
theorem post_law (hl:laidOutB P=true) {f:Func} {s:ChangeSpec} {W W':World} {args:Array Value} {ds gs:List (DataW H)} {before:List MemPlace} {tb:TypeId}
  (hp:∀ t∈f.params.toList,P.readableRec t=true∧t<P.types.size) (hv:varsOk P s.vars=true) (hW:DataW.Whole enc P f.params.toList s.vars false W args.toList ds gs before) (hb:Below W.heap.size W W')
  (hr:f.resultTypes=#[tb]) (hu:P.underlying tb=some .bool) (h1:(s.fn H (ds++gs)).results=[.lit (.bool true)]) (h2:(s.fn H (ds++gs)).args=ds) (h3:(s.fn H (ds++gs)).vars=gs) :
  s.post enc P f false true false false W args (.bool true) W':=by
 have hlt:=hW.lt
 have hW2:=hW
 obtain⟨p,q,hA,hV,rfl,hz,hn⟩:=hW
 refine⟨ds,gs,p++q,[],p,q,hW2,?_,?_,?_,hb.frame _,nofun⟩
 ·rw [hr,h1]
  exact trodAll_mk1 (shut_bool hu true)
 ·rw [h2]
  exact trodAll_stays hl hb hp hA (fun x hx=>hlt x (by simp [hx]))
 ·rw [h3]
  exact trodVars_stays hl hb hv hV
end
def rowsOk (P:Program) (l:List TypeId):Bool:=l.all fun t=>P.readableRec t && decide (t<P.types.size)
theorem rowsOk_spec {P:Program} {l:List TypeId} (h:rowsOk P l=true):∀ t∈l,P.readableRec t=true∧t<P.types.size:=by
 intro t ht
 have:=List.all_eq_true.1 h t ht
 simpa using this
def rowData {H:Type} (r:CurRow):DataW H:=.agg [.lit (.string r.1.data.toList),.lit (.string r.2.1.data.toList),.lit (.int .i64 r.2.2.1),.lit (.int .i64 r.2.2.2.1)]
def curData {H:Type} (l:List CurRow):DataW H:=.agg (l.map rowData)
theorem cells_of_rows:∀ {l:List CurRow} {cs:List Value},cs.length=l.length*4→(∀ (i:Nat) (h:i<l.length),(cs.drop (i*4)).take 4=rowC l[i])→cs=curCells l
 | [],cs,hl,_=>by simp at hl; simp [hl,curCells]
 | a :: l,cs,hl,h=>by
  have h0:=h 0 (by simp)
  simp only [Nat.zero_mul,List.drop_zero,List.getElem_cons_zero] at h0
  have ih:=cells_of_rows (l:=l) (cs:=cs.drop 4) (by simp at hl ⊢; omega) (fun i hi=>by
   have:=h (i+1) (by simpa using hi)
   rw [List.drop_drop]
   rw [show 4+i*4=(i+1)*4 by omega]
   simpa using this)
  rw [← List.take_append_drop 4 cs,h0,ih]
  rfl
theorem str_of {s:ByteArray} {b:ByteArray} (h:s.data.toList=b.data.toList):s=b:=by
 obtain⟨⟨l⟩⟩:=s
 obtain⟨⟨m⟩⟩:=b
 simp at h
 subst h; rfl
section
variable {H:Type} {enc:TypeId × Value→H} {P:Program} {w:World} {base:Nat} {sp:Nat→Bool} {held:Bool}
theorem row_of_trod {fuel:Nat} {e:TypeId} {f0 f1 f2 f3:Field} {cs:List Value} {r:CurRow} {p:List MemPlace} (he:P.underlying e=some (.struct #[f0,f1,f2,f3]))
  (h0:P.underlying f0.type=some .string∧f0.offset=0∧P.cellsOf f0.type=1) (h1:P.underlying f1.type=some .string∧f1.offset=1∧P.cellsOf f1.type=1)
  (h2:P.underlying f2.type=some (.int .i64)∧f2.offset=2∧P.cellsOf f2.type=1) (h3:P.underlying f3.type=some (.int .i64)∧f3.offset=3∧P.cellsOf f3.type=1) (hc:P.cellsOf e=4)
  (h:DataW.trod enc P w base sp held fuel e cs=some (rowData r,p)):cs=rowC r:=by
 obtain⟨xs,n,_,hx,hl,hlen,hf⟩:=DataW.trod_struct he h
 match xs,hlen with
 | [y0,y1,y2,y3],_ =>
  have g0:=hf 0 f0 rfl
  have g1:=hf 1 f1 rfl
  have g2:=hf 2 f2 rfl
  have g3:=hf 3 f3 rfl
  rw [hc] at hl
  match cs,hl with
  | [c0,c1,c2,c3],_ =>
   simp only [h0.2.1,h0.2.2,h1.2.1,h1.2.2,h2.2.1,h2.2.2,h3.2.1,h3.2.2] at g0 g1 g2 g3
   obtain⟨s0,e0,x0,_⟩:=DataW.trod_string h0.1 g0
   obtain⟨s1,e1,x1,_⟩:=DataW.trod_string h1.1 g1
   obtain⟨n2,e2,x2,_⟩:=DataW.trod_int h2.1 g2
   obtain⟨n3,e3,x3,_⟩:=DataW.trod_int h3.1 g3
   simp at e0 e1 e2 e3
   subst e0 e1 e2 e3
   have hx1:=congrArg Prod.fst hx
   simp only [rowData,x0,x1,x2,x3,List.map_cons,List.map_nil,DataW.agg.injEq,List.cons.injEq,DataW.lit.injEq,Lit.string.injEq,Lit.int.injEq,and_true,true_and] at hx1
   obtain⟨q0,q1,q2,q3⟩:=hx1
   show _=[Value.string r.1,.string r.2.1,.int .i64 r.2.2.1,.int .i64 r.2.2.2.1]
   rw [str_of q0,str_of q1,q2,q3]
theorem cells_of_trod {fuel:Nat} {t e:TypeId} {f0 f1 f2 f3:Field} {cs:List Value} {l:List CurRow} {p:List MemPlace} (ht:P.underlying t=some (.array l.length e)) (he:P.underlying e=some (.struct #[f0,f1,f2,f3]))
  (h0:P.underlying f0.type=some .string∧f0.offset=0∧P.cellsOf f0.type=1) (h1:P.underlying f1.type=some .string∧f1.offset=1∧P.cellsOf f1.type=1)
  (h2:P.underlying f2.type=some (.int .i64)∧f2.offset=2∧P.cellsOf f2.type=1) (h3:P.underlying f3.type=some (.int .i64)∧f3.offset=3∧P.cellsOf f3.type=1) (hc:P.cellsOf e=4) (hct:P.cellsOf t=l.length*4)
  (h:DataW.trod enc P w base sp held fuel t cs=some (curData l,p)):cs=curCells l:=by
 cases fuel with
 | zero=>simp [DataW.trod] at h
 | succ fuel =>
  simp only [DataW.trod,ht,hc,hct] at h
  split at h
  ·rename_i hl
   obtain⟨xs,hm,hx⟩:=Option.map_eq_some_iff.1 h
   have hxs:xs.map (·.1)=l.map rowData:=by
    have:=congrArg Prod.fst hx
    simpa [curData] using this
   refine cells_of_rows hl fun i hi=>?_
   obtain⟨b,hb,hf⟩:=Go.Lib.mapM_at hm i i (by simp [hi])
   have hb1:b.1=rowData l[i]:=by
    have h2:(xs.map (·.1))[i]?=some b.1:=by simp [hb]
    rw [hxs] at h2
    simpa [hi] using h2.symm
   obtain⟨b1,b2⟩:=b
   simp only at hb1
   subst hb1
   exact row_of_trod he h0 h1 h2 h3 hc hf
  ·cases h
end
noncomputable def fieldsC:Array Field:=match Tryz.prog.underlying 134 with | some (.struct fs)=>fs | _=>#[]
theorem table {W : World} {rest : List (String × DataW Unit)} (h : laidMet Tryz.prog (("loop.example/g00793/impl.currencies", curData curI) :: rest) W) : ∃ t, W.heap[1]? = some (.cells (curCells curI).toArray t (0, 0)) := by
 obtain⟨ps,⟨g',t',cs,fuel,p,q,hg',ht',hvar,hd,hq,hps⟩,_,hb⟩:=h
 obtain rfl := Option.some.inj ((show Tryz.prog.globalNamed "loop.example/g00793/impl.currencies" = some 1 by kernel_rfl).symm.trans hg')
 obtain rfl:=Option.some.inj ((show(Tryz.prog.globals[1]?).map (·.type)=some 178 by kernel_rfl).symm.trans ht')
 have hcs:=cells_of_trod (e:=134) (f0:=fieldsC[0]!) (f1:=fieldsC[1]!) (f2:=fieldsC[2]!) (f3:=fieldsC[3]!) (by kernel_rfl) (by kernel_rfl) ⟨by kernel_rfl,by kernel_rfl,by kernel_rfl⟩ ⟨by kernel_rfl,by kernel_rfl,by kernel_rfl⟩
  ⟨by kernel_rfl,by kernel_rfl,by kernel_rfl⟩ ⟨by kernel_rfl,by kernel_rfl,by kernel_rfl⟩ (by kernel_rfl) (by kernel_rfl) hd
 have hsz:0<cs.size:=by
  have:=congrArg List.length hcs
  simp at this
  rw [this]; decide +kernel
 obtain⟨⟨c,t,hc⟩,_⟩:=hb 1 0 (by
  rw [hps]
  refine List.mem_append_left _ (List.mem_append_left _ ?_)
  simp [MemPlace.row]
  exact hsz)
 unfold World.var? at hvar
 rw [hg'] at hvar
 simp only [Option.bind_some,hc,Option.some.injEq] at hvar
 refine⟨t,?_⟩
 rw [hc,← hcs,hvar]
theorem hasCur_of {W:World} {t:TypeId} (h:W.heap[1]?=some (.cells (curCells curI).toArray t (0,0))):hasCur (knowOf W) :=
 ⟨(t,(0,0)),knowOf_eq h fun es e=>by
  have h80:(curCells curI).toArray.toList.length=80:=by decide +kernel
  have h1:=h80.symm.trans (congrArg List.length e)
  exact absurd (show(80:Nat)=1 from h1) (by omega)⟩
end Go.Proofs.YtmogkainbglpnaaGreatDoor
namespace Go.Proofs.YtmogkainbglpnaaGreatDoor
open Sx Go.ChangeShapes Go.WideShapes Go.ChangeAt Go.RowKit
theorem Tryz.own:ownKnob Tryz.prog.godebug=none:=by kernel_rfl
theorem Tryz.laidOut:laidOutB Tryz.prog=true:=by kernel_rfl
noncomputable def setC (cs:Array Value):Obj→Obj
 | .cells _ t frozen=>.cells cs t frozen
 | o=>o
noncomputable def laidWorld (os:Os):World :=
 { World.holding Tryz.prog os ⟨#[],#[],[]⟩ with heap:=(((World.holding Tryz.prog os ⟨#[],#[],[]⟩).heap.modify 0 (setC #[.iface rT (.agg #[.pointer (some ⟨hB,eE,none⟩)])])).modify 1 (setC (curCells curI).toArray)) }
theorem arg_slice {sh:List Sc} {α:Type} {r:Rp sh α} {P:Program} {W:World} {t e:TypeId} {v:Value} {base:Nat} {H:Type} {enc:TypeId × Value→H} {sp:Nat→Bool} {held:Bool} {d:DataW H} {p:List MemPlace} (hr:Rd P W e r) (ht:P.underlying t=some (.slice e))
  (hm:P.cellsOf e=sh.length) (hpos:0<sh.length) (hv:Value.okWide P W .any base t v) (h:DataW.Trod enc P W 0 sp held t v d p):∃ s l f,v=Sc.val .l s∧LR r (knowOf W) s l f:=by
 obtain⟨fuel,hf⟩:=h
 obtain⟨s,l,f,e',hL⟩:=rd_slice hr ht hm hpos hf
 refine⟨s,l,f,?_,hL⟩
 unfold Value.okWide at hv
 rw [ht] at hv
 simp only at hv
 unfold Cell.okWide at hv
 rw [ht] at hv
 cases v with
 | slice a n c =>
  simp only [Value.cells] at e'
  simpa [Sc.val] using e'
 | _=>simp [Cell.ok,ht] at hv
end Go.Proofs.YtmogkainbglpnaaGreatDoor
