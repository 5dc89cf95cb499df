/-
  What a law's row asks for; the table of currencies as the row lists it.
-/
import Derived.Test.YtahmmgiiojjhgaaGreatDoorTA
import Derived.Test.YtahmmgiiojjhgaaGreatDoorChecked
import Derived.ChangeArms
import Derived.Lib.LaidTab
import Derived.Test.YtahmmgiiojjhgaaGreatDoorCopy
import Derived.KernelRfl
import Derived.Test.YtahmmgiiojjhgaaGreatDoorWr
import Derived.Test.YtahmmgiiojjhgaaGreatDoorRows
import Derived.ProofKit
import Derived.Carry
import Derived.ChangeOld
import Derived.ChangeMaps5
namespace Go.Proofs.YtahmmgiiojjhgaaGreatDoor
open Go.Proofs.Tryz (prog)
open Sx
def mV (W:World):aa:=fun b=>match W.heap[b]? with
 | some (.cells c t fr)=>(match c.toList with | [.tuple _]=>none | l=>some (l,(t,fr)))
 | _=>none
theorem ED (W:World):(mV W).on W:=by
 intro b c t h;unfold mV at h;split at h
 ·rename_i c' t' fr hh
  split at h
  ·cases h
  rename_i bR;simp only [Option.some.injEq,Prod.mk.injEq] at h;obtain⟨rfl,rfl⟩:=h;rw [hh];unfold oU;split
  ·rename_i es he
   exact(bR es he).elim
  rfl
 cases h
theorem wL {W:World} {b:Nat} {c:Array Value} {t:TypeId} {fr:Nat × Nat} (h:W.heap[b]?=some (.cells c t fr)) (hn:∀ es,c.toList≠[.tuple es]):mV W b=some (c.toList,(t,fr)):=by
 unfold mV;rw [h];simp only
theorem Wx {l l':List Value} {off n:Nat} (h:fj l off n=some l') (hn:0<n) (ht:fA l'=true):∀ es,l≠[.tuple es]:=by
 intro es e;subst e;unfold fj at h;split at h
 ·rename_i hle
  have h1:off=0/\n=1:=by simp at hle; omega
  obtain⟨rfl,rfl⟩:=h1;simp at h;subst h;simp [fA] at ht
 cases h
def Rd {sh:List Sc} {α:Type} (P:Program) (W:World) (t:TypeId) (r:Rp sh α):Prop :=
 ∀ {H:Type} {enc:TypeId × Value->H} {sp:Nat->Bool} {held:Bool} {fuel:Nat} {cs:List Value} {x:DataW H × List MemPlace},DataW.trod enc P W 0 sp held fuel t cs=some x ->
  ∃ c a fp,cs=aH.aD sh c/\r.R (mV W) c a fp
section
variable {H:Type} {enc:TypeId × Value->H} {P:Program} {W:World} {sp:Nat->Bool} {held:Bool} {fuel:Nat} {cs:List Value} {x:DataW H × List MemPlace}
theorem cU {t:TypeId} {fs:Array Field} (ht:P.underlying t=some (.struct fs)) (h:DataW.trod enc P W 0 sp held fuel t cs=some x) (i:Nat) (f:Field) (hf:fs[i]?=some f) {ft:TypeId} {off w:Nat}
  (h1:f.type=ft) (h2:f.offset=off) (h3:P.cellsOf ft=w):∃ n y,DataW.trod enc P W 0 sp held n ft ((cs.drop off).take w)=some y:=by
 obtain⟨xs,n,_,_,_,hlen,hfs⟩:=DataW.trod_struct ht h;have:=hfs i f hf;rw [h1,h2,h3] at this;have hi:i<xs.length:=by rw [hlen]; exact(Array.getElem?_eq_some_iff.1 hf).1
 exact⟨n,xs[i],by rw [this]; simp [hi]⟩
theorem mW {t:TypeId} {fs:Array Field} (ht:P.underlying t=some (.struct fs)) (h:DataW.trod enc P W 0 sp held fuel t cs=some x) {k:Nat} (hc:P.cellsOf t=k):cs.length=k:=by
 obtain⟨xs,n,_,_,hl,_,_⟩:=DataW.trod_struct ht h;rw [hl,hc]
theorem Wy {b o m:Nat} {c:Array Value} {t:TypeId} {fr:Nat × Nat} {row:List Value} (hm:0<m) (hb:W.heap[b]?=some (.cells c t fr)) (h:W.cells? 0 ⟨b,o,none⟩ m=some row):fj c.toList o m=some row:=by
 unfold World.cells? at h;rw [if_pos (Nat.zero_le _)] at h;have hl:=Go.Lib.mapM_length h;simp at hl;have WN:∀ j,j<m->c[o+j]?=row[j]?:=by
  intro j hj;obtain⟨v,hv,hc⟩:=Go.Lib.mapM_at h j j (by simp [hj]);rw [ah] at hc;simp only [World.cell?,hb,Option.isSome_none,Bool.false_eq_true,if_false] at hc;rw [hc,hv]
 unfold fj;have WX:=WN (m-1) (by omega);have aN:o+(m-1)<c.size:=by
  have:(row[m-1]?).isSome=true:=by simp [hl]; omega
  rw [<- WX] at this;simpa using this
 rw [if_pos (by simp; omega)]
 congr 1
 apply List.ext_getElem?
 intro j
 by_cases hj:j<m
 ·rw [List.getElem?_take_of_lt hj,List.getElem?_drop,Array.getElem?_toList,WN j hj]
 rw [List.getElem?_eq_none (by simp; omega),List.getElem?_eq_none (by omega)]
theorem EE {α β:Type} {f:α->List β} {m:Nat} (hf:∀ a,(f a).length=m):∀ {l:List α} {L:List β},(∀ (i:Nat) (h:i<l.length),fj L (i*m) m=some (f l[i]))->∃ post,L=l.flatMap f++post
 | [],L,_=>⟨L,rfl⟩
 | a :: l,L,h=>by
  have h0:=h 0 (by simp);simp only [Nat.zero_mul,List.getElem_cons_zero] at h0;unfold fj at h0;split at h0
  ·rename_i hm
   simp only [List.drop_zero,Option.some.injEq] at h0;have e:L=f a++L.drop m:=by rw [<- h0,List.take_append_drop]
   obtain⟨post,hp⟩:=EE hf (l:=l) (L:=L.drop m) (fun i hi=>by
    have:=h (i+1) (by simpa using hi);simp only [List.getElem_cons_succ] at this;have e2:(i+1)*m=(f a).length+i*m:=by rw [hf,Nat.add_mul,Nat.one_mul,Nat.add_comm]
    rw [e,e2,eH] at this;rw [<- this])
   exact⟨post,by rw [List.flatMap_cons,List.append_assoc,<- hp]; exact e⟩
  cases h0
theorem els_of {sh:List Sc} {α:Type} {r:Rp sh α} {V:aa} {Q:Nat->aH sh->Prop}:∀ (n:Nat),(∀ i,i<n->∃ c a f,Q i c/\r.R V c a f)->∃ cs l fps,List.length l=n/\kS r V cs l fps/\∀ (i:Nat) (h:i<cs.length),Q i cs[i]
 | 0,_=>⟨[],[],[],rfl,rfl,fun i h=>by simp at h⟩
 | n+1,h=>by
  obtain⟨cs,l,fps,h1,h2,h3⟩:=els_of n (fun i hi=>h i (by omega));obtain⟨c,a,f,hq,hr⟩:=h n (by omega);refine⟨cs++[c],l++[a],fps++f,by simp [h1],h2.snoc hr,fun i hi=>?_⟩
  have eG:=h2.len
  by_cases hc:i<cs.length
  ·rw [List.getElem_append_left hc]; exact h3 i hc
  have:i=n:=by simp at hi; omega
  subst this;rw [List.getElem_append_right (by omega)];simpa using hq
theorem qf {sh:List Sc} {α:Type} {r:Rp sh α} {t e:TypeId} (hr:Rd P W e r) (ht:P.underlying t=some (.slice e)) (hm:P.cellsOf e=sh.length) (df:0<sh.length) (h:DataW.trod enc P W 0 sp held fuel t cs=some x) :
  ∃ s l f,cs=[.slice s.a s.n s.c]/\LR r (mV W) s l f:=by
 rcases DataW.trod_slice ht h with ⟨rfl,_⟩ | ⟨a,len,cap,elems,rest,n,_,rfl,_,_,hlc,dd,hel,bC,_⟩
 ·exact⟨⟨none,0,0⟩,[],[],rfl,rfl,Nat.le_refl _,Nat.zero_le _,.inl ⟨rfl,fun _=>rfl,rfl⟩⟩
 have WW:cap<=9223372036854775807:=dd
 by_cases h0:len=0
 ·subst h0
  exact⟨⟨some a,0,cap⟩,[],[],rfl,rfl,Nat.zero_le _,Nat.zero_le _,.inl ⟨rfl,(fun h=>by cases h),rfl⟩⟩
 rw [hm] at bC
 -- the block
 have mO:∀ i,i<len->∃ row y,W.cells? 0 (a.add (i*sh.length)) sh.length=some row/\DataW.trod enc P W 0 sp held n e row=some y:=by
  intro i hi;have:=bC i hi;have he:elems[i]?=some elems[i]:=by simp [hel,hi]
  rw [he,Option.bind_eq_some_iff] at this;obtain⟨row,h1,h2⟩:=this;exact⟨row,_,h1,h2⟩
 obtain⟨row0,y0,nV,_⟩:=mO 0 (by omega);obtain⟨bk,off,spot⟩:=a;have hcell:∃ v,W.cell? ⟨bk,off,spot⟩=some v:=by
  unfold World.cells? at nV;rw [if_pos (Nat.zero_le _)] at nV;obtain⟨v,_,hv⟩:=Go.Lib.mapM_at nV 0 0 (by simp [df]);refine⟨v,?_⟩
  simpa [Addr.add] using hv
 obtain⟨v,hv⟩:=hcell;unfold World.cell? at hv;split at hv
 ·rename_i c ty fr hb
  split at hv
  ·cases hv
  rename_i hs;have hspot:spot=none:=by simpa using hs
  subst hspot;have hq:∀ i,i<len->∃ (c':aH sh) (a':α) (f':List Nat),fj c.toList (off+i*sh.length) sh.length=some (aH.aD sh c')/\r.R (mV W) c' a' f':=by
   intro i hi;obtain⟨row,y,h1,h2⟩:=mO i hi;rw [ah] at h1;obtain⟨c',a',f',rfl,hR⟩:=hr h2;exact⟨c',a',f',Wy df hb h1,hR⟩
  obtain⟨cs,l,fps,k1,k2,k3⟩:=els_of (Q:=fun i c'=>fj c.toList (off+i*sh.length) sh.length=some (aH.aD sh c')) len hq;have Ga:off<=c.toList.length:=by
   obtain⟨c',_,_,ic,_⟩:=hq 0 (by omega);unfold fj at ic;split at ic
   ·omega
   cases ic
  have SD:(c.toList.take off).length=off:=by rw [List.length_take]; omega
  have hflat:∃ post,c.toList.drop off=cs.flatMap (aH.aD sh)++post:=by
   refine EE (cF sh) fun i hi=>?_
   have:=k3 i hi;rw [<- List.take_append_drop off c.toList] at this;have e2:off+i*sh.length=(c.toList.take off).length+i*sh.length:=by rw [SD]
   rw [e2,eH] at this;exact this
  obtain⟨post,hpost⟩:=hflat;refine⟨⟨some ⟨bk,off,none⟩,len,cap⟩,l,bk :: fps,rfl,k1.symm,hlc,Nat.le_trans hlc WW,.inr ⟨bk,c.toList.take off,post,(ty,fr),fps,cs,by rw [SD],?_,k2,rfl⟩⟩
  obtain⟨c0,_,_,hc0',_⟩:=hq 0 (by omega);rw [wL hb (Wx hc0' df (od sh c0)),<- hpost,List.take_append_drop]
 cases hv
theorem rd_int {t:TypeId} (ht:P.underlying t=some (.int .i64)):Rd P W t rI:=by
 intro H enc sp held fuel cs x h;obtain⟨n,rfl,_,_⟩:=DataW.trod_int ht h;exact⟨(n,()),(n,()),[],rfl,rfl,rfl⟩
end
set_option maxRecDepth 100000
noncomputable def BR:Array Field:=match prog.underlying 69 with | some (.struct fs)=>fs | _=>#[]
theorem wM (W:World):Rd prog W 69 dA:=by
 intro H enc sp held fuel cs x h;have ht:prog.underlying 69=some (.struct BR):=by kernel_rfl
 have hl:=mW ht h (k:=2) (by kernel_rfl)
 match cs,hl with
 | [a0,a1],_ =>
  obtain⟨n0,y0,g0⟩:=cU ht h 0 (BR[0]!) (by kernel_rfl) (ft:=4) (off:=0) (w:=1) (by kernel_rfl) (by kernel_rfl) (by kernel_rfl);replace g0:DataW.trod enc prog W 0 sp held n0 4 [a0]=some y0:=g0;obtain⟨c0,e0,_⟩:=DataW.trod_bool (show prog.underlying 4=some .bool by kernel_rfl) g0;simp only [List.cons.injEq,and_true] at e0;subst e0;obtain⟨n1,y1,g1⟩:=cU ht h 1 (BR[1]!) (by kernel_rfl) (ft:=67) (off:=1) (w:=1) (by kernel_rfl) (by kernel_rfl) (by kernel_rfl);replace g1:DataW.trod enc prog W 0 sp held n1 67 [a1]=some y1:=g1;obtain⟨c1,x1,f1,e1,ee⟩:=qf (e:=3) (rd_int (show prog.underlying 3=some (.int .i64) by kernel_rfl)) (by kernel_rfl) (by kernel_rfl) (by decide) g1;simp only [List.cons.injEq,and_true] at e1;subst e1;exact⟨(c0,c1,()),(c0,x1,()),_,rfl,(bB.mk (cC.mk ee a8.mk))⟩
noncomputable def Hd:Array Field:=match prog.underlying 112 with | some (.struct fs)=>fs | _=>#[]
theorem rd_Money (W:World):Rd prog W 112 aY:=by
 intro H enc sp held fuel cs x h;have ht:prog.underlying 112=some (.struct Hd):=by kernel_rfl
 have hl:=mW ht h (k:=3) (by kernel_rfl)
 match cs,hl with
 | [a0,a1,a2],_ =>
  obtain⟨n0,y0,g0⟩:=cU ht h 0 (Hd[0]!) (by kernel_rfl) (ft:=9) (off:=0) (w:=1) (by kernel_rfl) (by kernel_rfl) (by kernel_rfl);replace g0:DataW.trod enc prog W 0 sp held n0 9 [a0]=some y0:=g0;obtain⟨c0,e0,_,dz⟩:=DataW.trod_string (show prog.underlying 9=some .string by kernel_rfl) g0;replace dz:c0.size<=9223372036854775807:=dz;simp only [List.cons.injEq,and_true] at e0;subst e0;obtain⟨n1,y1,g1⟩:=cU ht h 1 (Hd[1]!) (by kernel_rfl) (ft:=69) (off:=1) (w:=2) (by kernel_rfl) (by kernel_rfl) (by kernel_rfl);replace g1:DataW.trod enc prog W 0 sp held n1 69 [a1,a2]=some y1:=g1;obtain⟨⟨c1,c2,cu1⟩,⟨x1,x2,xu1⟩,f1q,e1,jk⟩:=wM W g1;replace e1:[a1,a2]=[Value.bool c1,Value.slice c2.a c2.n c2.c]:=e1;simp only [List.cons.injEq,and_true] at e1;obtain⟨rfl,rfl⟩:=e1;obtain⟨cj,jk⟩:=jk;replace cj:c1=x1:=cj;subst cj;obtain⟨f2,Hq,cW,dU,jk⟩:=jk;subst cW;replace dU:LR rI _ c2 x2 f2:=dU;exact⟨(c0,c1,c2,()),(c0,c1,x2,()),_,rfl,(cr.mk dz (bB.mk (cC.mk dU a8.mk)))⟩
noncomputable def QN:Array Field:=match prog.underlying 114 with | some (.struct fs)=>fs | _=>#[]
theorem rd_Acct (W:World):Rd prog W 114 aw:=by
 intro H enc sp held fuel cs x h;have ht:prog.underlying 114=some (.struct QN):=by kernel_rfl
 have hl:=mW ht h (k:=4) (by kernel_rfl)
 match cs,hl with
 | [a0,a1,a2,a3],_ =>
  obtain⟨n0,y0,g0⟩:=cU ht h 0 (QN[0]!) (by kernel_rfl) (ft:=9) (off:=0) (w:=1) (by kernel_rfl) (by kernel_rfl) (by kernel_rfl);replace g0:DataW.trod enc prog W 0 sp held n0 9 [a0]=some y0:=g0;obtain⟨c0,e0,_,dz⟩:=DataW.trod_string (show prog.underlying 9=some .string by kernel_rfl) g0;replace dz:c0.size<=9223372036854775807:=dz;simp only [List.cons.injEq,and_true] at e0;subst e0;obtain⟨n1,y1,g1⟩:=cU ht h 1 (QN[1]!) (by kernel_rfl) (ft:=112) (off:=1) (w:=3) (by kernel_rfl) (by kernel_rfl) (by kernel_rfl);replace g1:DataW.trod enc prog W 0 sp held n1 112 [a1,a2,a3]=some y1:=g1;obtain⟨⟨c1,c2,c3,cu1⟩,⟨x1,x2,x3,xu1⟩,f1q,e1,jk⟩:=rd_Money W g1;replace e1:[a1,a2,a3]=[Value.string c1,Value.bool c2,Value.slice c3.a c3.n c3.c]:=e1;simp only [List.cons.injEq,and_true] at e1;obtain⟨rfl,rfl,rfl⟩:=e1;obtain⟨⟨cj,kJ⟩,jk⟩:=jk;replace cj:c1=x1:=cj;subst cj;replace kJ:c1.size<=9223372036854775807:=kJ;obtain⟨cW,jk⟩:=jk;replace cW:c2=x2:=cW;subst cW;obtain⟨f3,FZ,lG,cS,jk⟩:=jk;subst lG;replace cS:LR rI _ c3 x3 f3:=cS;exact⟨(c0,c1,c2,c3,()),(c0,c1,c2,x3,()),_,rfl,(cr.mk dz (cr.mk kJ (bB.mk (cC.mk cS a8.mk))))⟩
noncomputable def fsBook:Array Field:=match prog.underlying 24 with | some (.struct fs)=>fs | _=>#[]
theorem rd_Book (W:World):Rd prog W 24 iX:=by
 intro H enc sp held fuel cs x h;have ht:prog.underlying 24=some (.struct fsBook):=by kernel_rfl
 have hl:=mW ht h (k:=1) (by kernel_rfl)
 match cs,hl with
 | [a0],_ =>
  obtain⟨n0,y0,g0⟩:=cU ht h 0 (fsBook[0]!) (by kernel_rfl) (ft:=22) (off:=0) (w:=1) (by kernel_rfl) (by kernel_rfl) (by kernel_rfl);replace g0:DataW.trod enc prog W 0 sp held n0 22 [a0]=some y0:=g0;obtain⟨c0,x0,f0,e0,qQ⟩:=qf (e:=114) (rd_Acct W) (by kernel_rfl) (by kernel_rfl) (by decide) g0;simp only [List.cons.injEq,and_true] at e0;subst e0;exact⟨(c0,()),(x0,()),_,rfl,(cC.mk qQ a8.mk)⟩
noncomputable def fsRat:Array Field:=match prog.underlying 71 with | some (.struct fs)=>fs | _=>#[]
theorem rd_Rat (W:World):Rd prog W 71 rW:=by
 intro H enc sp held fuel cs x h;have ht:prog.underlying 71=some (.struct fsRat):=by kernel_rfl
 have hl:=mW ht h (k:=3) (by kernel_rfl)
 match cs,hl with
 | [a0,a1,a2],_ =>
  obtain⟨n0,y0,g0⟩:=cU ht h 0 (fsRat[0]!) (by kernel_rfl) (ft:=69) (off:=0) (w:=2) (by kernel_rfl) (by kernel_rfl) (by kernel_rfl);replace g0:DataW.trod enc prog W 0 sp held n0 69 [a0,a1]=some y0:=g0;obtain⟨⟨c0,c1,cu0⟩,⟨x0,x1,xu0⟩,f0q,e0,gw⟩:=wM W g0;replace e0:[a0,a1]=[Value.bool c0,Value.slice c1.a c1.n c1.c]:=e0;simp only [List.cons.injEq,and_true] at e0;obtain⟨rfl,rfl⟩:=e0;obtain⟨bL,gw⟩:=gw;replace bL:c0=x0:=bL;subst bL;obtain⟨f1,vv,cj,ee,gw⟩:=gw;subst cj;replace ee:LR rI _ c1 x1 f1:=ee;obtain⟨n2,y2,g2⟩:=cU ht h 1 (fsRat[1]!) (by kernel_rfl) (ft:=67) (off:=2) (w:=1) (by kernel_rfl) (by kernel_rfl) (by kernel_rfl);replace g2:DataW.trod enc prog W 0 sp held n2 67 [a2]=some y2:=g2;obtain⟨c2,x2,f2,e2,dU⟩:=qf (e:=3) (rd_int (show prog.underlying 3=some (.int .i64) by kernel_rfl)) (by kernel_rfl) (by kernel_rfl) (by decide) g2;simp only [List.cons.injEq,and_true] at e2;subst e2;exact⟨(c0,c1,c2,()),(c0,x1,x2,()),_,rfl,(bB.mk (cC.mk ee (cC.mk dU a8.mk)))⟩
noncomputable def QO:Array Field:=match prog.underlying 73 with | some (.struct fs)=>fs | _=>#[]
theorem rd_Rest (W:World):Rd prog W 73 aS:=by
 intro H enc sp held fuel cs x h;have ht:prog.underlying 73=some (.struct QO):=by kernel_rfl
 have hl:=mW ht h (k:=4) (by kernel_rfl)
 match cs,hl with
 | [a0,a1,a2,a3],_ =>
  obtain⟨n0,y0,g0⟩:=cU ht h 0 (QO[0]!) (by kernel_rfl) (ft:=9) (off:=0) (w:=1) (by kernel_rfl) (by kernel_rfl) (by kernel_rfl);replace g0:DataW.trod enc prog W 0 sp held n0 9 [a0]=some y0:=g0;obtain⟨c0,e0,_,dz⟩:=DataW.trod_string (show prog.underlying 9=some .string by kernel_rfl) g0;replace dz:c0.size<=9223372036854775807:=dz;simp only [List.cons.injEq,and_true] at e0;subst e0;obtain⟨n1,y1,g1⟩:=cU ht h 1 (QO[1]!) (by kernel_rfl) (ft:=71) (off:=1) (w:=3) (by kernel_rfl) (by kernel_rfl) (by kernel_rfl);replace g1:DataW.trod enc prog W 0 sp held n1 71 [a1,a2,a3]=some y1:=g1;obtain⟨⟨c1,c2,c3,cu1⟩,⟨x1,x2,x3,xu1⟩,f1q,e1,jk⟩:=rd_Rat W g1;replace e1:[a1,a2,a3]=[Value.bool c1,Value.slice c2.a c2.n c2.c,Value.slice c3.a c3.n c3.c]:=e1;simp only [List.cons.injEq,and_true] at e1;obtain⟨rfl,rfl,rfl⟩:=e1;obtain⟨cj,jk⟩:=jk;replace cj:c1=x1:=cj;subst cj;obtain⟨f2,Hq,cW,dU,jk⟩:=jk;subst cW;replace dU:LR rI _ c2 x2 f2:=dU;obtain⟨f3,FZ,lG,cS,jk⟩:=jk;subst lG;replace cS:LR rI _ c3 x3 f3:=cS;exact⟨(c0,c1,c2,c3,()),(c0,c1,x2,x3,()),_,rfl,(cr.mk dz (bB.mk (cC.mk dU (cC.mk cS a8.mk))))⟩
noncomputable def fsDec:Array Field:=match prog.underlying 118 with | some (.struct fs)=>fs | _=>#[]
theorem rd_Dec (W:World):Rd prog W 118 FX:=by
 intro H enc sp held fuel cs x h;have ht:prog.underlying 118=some (.struct fsDec):=by kernel_rfl
 have hl:=mW ht h (k:=3) (by kernel_rfl)
 match cs,hl with
 | [a0,a1,a2],_ =>
  obtain⟨n0,y0,g0⟩:=cU ht h 0 (fsDec[0]!) (by kernel_rfl) (ft:=69) (off:=0) (w:=2) (by kernel_rfl) (by kernel_rfl) (by kernel_rfl);replace g0:DataW.trod enc prog W 0 sp held n0 69 [a0,a1]=some y0:=g0;obtain⟨⟨c0,c1,cu0⟩,⟨x0,x1,xu0⟩,f0q,e0,gw⟩:=wM W g0;replace e0:[a0,a1]=[Value.bool c0,Value.slice c1.a c1.n c1.c]:=e0;simp only [List.cons.injEq,and_true] at e0;obtain⟨rfl,rfl⟩:=e0;obtain⟨bL,gw⟩:=gw;replace bL:c0=x0:=bL;subst bL;obtain⟨f1,vv,cj,ee,gw⟩:=gw;subst cj;replace ee:LR rI _ c1 x1 f1:=ee;obtain⟨n2,y2,g2⟩:=cU ht h 1 (fsDec[1]!) (by kernel_rfl) (ft:=3) (off:=2) (w:=1) (by kernel_rfl) (by kernel_rfl) (by kernel_rfl);replace g2:DataW.trod enc prog W 0 sp held n2 3 [a2]=some y2:=g2;obtain⟨c2,e2,_⟩:=DataW.trod_int (show prog.underlying 3=some (.int .i64) by kernel_rfl) g2;simp only [List.cons.injEq,and_true] at e2;subst e2;exact⟨(c0,c1,c2,()),(c0,x1,c2,()),_,rfl,(bB.mk (cC.mk ee (np.mk a8.mk)))⟩
noncomputable def He:Array Field:=match prog.underlying 120 with | some (.struct fs)=>fs | _=>#[]
theorem rd_Rate (W:World):Rd prog W 120 az:=by
 intro H enc sp held fuel cs x h;have ht:prog.underlying 120=some (.struct He):=by kernel_rfl
 have hl:=mW ht h (k:=5) (by kernel_rfl)
 match cs,hl with
 | [a0,a1,a2,a3,a4],_ =>
  obtain⟨n0,y0,g0⟩:=cU ht h 0 (He[0]!) (by kernel_rfl) (ft:=9) (off:=0) (w:=1) (by kernel_rfl) (by kernel_rfl) (by kernel_rfl);replace g0:DataW.trod enc prog W 0 sp held n0 9 [a0]=some y0:=g0;obtain⟨c0,e0,_,dz⟩:=DataW.trod_string (show prog.underlying 9=some .string by kernel_rfl) g0;replace dz:c0.size<=9223372036854775807:=dz;simp only [List.cons.injEq,and_true] at e0;subst e0;obtain⟨n1,y1,g1⟩:=cU ht h 1 (He[1]!) (by kernel_rfl) (ft:=9) (off:=1) (w:=1) (by kernel_rfl) (by kernel_rfl) (by kernel_rfl);replace g1:DataW.trod enc prog W 0 sp held n1 9 [a1]=some y1:=g1;obtain⟨c1,e1,_,kJ⟩:=DataW.trod_string (show prog.underlying 9=some .string by kernel_rfl) g1;replace kJ:c1.size<=9223372036854775807:=kJ;simp only [List.cons.injEq,and_true] at e1;subst e1;obtain⟨n2,y2,g2⟩:=cU ht h 2 (He[2]!) (by kernel_rfl) (ft:=118) (off:=2) (w:=3) (by kernel_rfl) (by kernel_rfl) (by kernel_rfl);replace g2:DataW.trod enc prog W 0 sp held n2 118 [a2,a3,a4]=some y2:=g2;obtain⟨⟨c2,c3,c4,cu2⟩,⟨x2,x3,x4,xu2⟩,f2q,e2,jO⟩:=rd_Dec W g2;replace e2:[a2,a3,a4]=[Value.bool c2,Value.slice c3.a c3.n c3.c,Value.int .i64 c4]:=e2;simp only [List.cons.injEq,and_true] at e2;obtain⟨rfl,rfl,rfl⟩:=e2;obtain⟨cW,jO⟩:=jO;replace cW:c2=x2:=cW;subst cW;obtain⟨f3,FZ,lG,cS,jO⟩:=jO;subst lG;replace cS:LR rI _ c3 x3 f3:=cS;obtain⟨wa,jO⟩:=jO;replace wa:c4=x4:=wa;subst wa;exact⟨(c0,c1,c2,c3,c4,()),(c0,c1,c2,x3,c4,()),_,rfl,(cr.mk dz (cr.mk kJ (bB.mk (cC.mk cS (np.mk a8.mk)))))⟩
noncomputable def Hf:Array Field:=match prog.underlying 28 with | some (.struct fs)=>fs | _=>#[]
theorem rd_Rates (W:World):Rd prog W 28 cZ:=by
 intro H enc sp held fuel cs x h;have ht:prog.underlying 28=some (.struct Hf):=by kernel_rfl
 have hl:=mW ht h (k:=2) (by kernel_rfl)
 match cs,hl with
 | [a0,a1],_ =>
  obtain⟨n0,y0,g0⟩:=cU ht h 0 (Hf[0]!) (by kernel_rfl) (ft:=9) (off:=0) (w:=1) (by kernel_rfl) (by kernel_rfl) (by kernel_rfl);replace g0:DataW.trod enc prog W 0 sp held n0 9 [a0]=some y0:=g0;obtain⟨c0,e0,_,dz⟩:=DataW.trod_string (show prog.underlying 9=some .string by kernel_rfl) g0;replace dz:c0.size<=9223372036854775807:=dz;simp only [List.cons.injEq,and_true] at e0;subst e0;obtain⟨n1,y1,g1⟩:=cU ht h 1 (Hf[1]!) (by kernel_rfl) (ft:=26) (off:=1) (w:=1) (by kernel_rfl) (by kernel_rfl) (by kernel_rfl);replace g1:DataW.trod enc prog W 0 sp held n1 26 [a1]=some y1:=g1;obtain⟨c1,x1,f1,e1,ee⟩:=qf (e:=120) (rd_Rate W) (by kernel_rfl) (by kernel_rfl) (by decide) g1;simp only [List.cons.injEq,and_true] at e1;subst e1;exact⟨(c0,c1,()),(c0,x1,()),_,rfl,(cr.mk dz (cC.mk ee a8.mk))⟩
noncomputable def qg:Array Field:=match prog.underlying 30 with | some (.struct fs)=>fs | _=>#[]
theorem Wz (W:World):Rd prog W 30 aj:=by
 intro H enc sp held fuel cs x h;have ht:prog.underlying 30=some (.struct qg):=by kernel_rfl
 have hl:=mW ht h (k:=4) (by kernel_rfl)
 match cs,hl with
 | [a0,a1,a2,a3],_ =>
  obtain⟨n0,y0,g0⟩:=cU ht h 0 (qg[0]!) (by kernel_rfl) (ft:=24) (off:=0) (w:=1) (by kernel_rfl) (by kernel_rfl) (by kernel_rfl);replace g0:DataW.trod enc prog W 0 sp held n0 24 [a0]=some y0:=g0;obtain⟨⟨c0,cu0⟩,⟨x0,xu0⟩,f0q,e0,gw⟩:=rd_Book W g0;replace e0:[a0]=[Value.slice c0.a c0.n c0.c]:=e0;simp only [List.cons.injEq,and_true] at e0;subst e0;obtain⟨f0,fr0,bL,qQ,gw⟩:=gw;subst bL;replace qQ:LR aw _ c0 x0 f0:=qQ;obtain⟨n1,y1,g1⟩:=cU ht h 1 (qg[1]!) (by kernel_rfl) (ft:=25) (off:=1) (w:=1) (by kernel_rfl) (by kernel_rfl) (by kernel_rfl);replace g1:DataW.trod enc prog W 0 sp held n1 25 [a1]=some y1:=g1;obtain⟨c1,x1,f1,e1,ee⟩:=qf (e:=73) (rd_Rest W) (by kernel_rfl) (by kernel_rfl) (by decide) g1;simp only [List.cons.injEq,and_true] at e1;subst e1;obtain⟨n2,y2,g2⟩:=cU ht h 2 (qg[2]!) (by kernel_rfl) (ft:=28) (off:=2) (w:=2) (by kernel_rfl) (by kernel_rfl) (by kernel_rfl);replace g2:DataW.trod enc prog W 0 sp held n2 28 [a2,a3]=some y2:=g2;obtain⟨⟨c2,c3,cu2⟩,⟨x2,x3,xu2⟩,f2q,e2,jO⟩:=rd_Rates W g2;replace e2:[a2,a3]=[Value.string c2,Value.slice c3.a c3.n c3.c]:=e2;simp only [List.cons.injEq,and_true] at e2;obtain⟨rfl,rfl⟩:=e2;obtain⟨⟨cW,F3⟩,jO⟩:=jO;replace cW:c2=x2:=cW;subst cW;replace F3:c2.size<=9223372036854775807:=F3;obtain⟨f3,FZ,lG,cS,jO⟩:=jO;subst lG;replace cS:LR az _ c3 x3 f3:=cS;exact⟨(c0,c1,c2,c3,()),(x0,x1,c2,x3,()),_,rfl,(cC.mk qQ (cC.mk ee (cr.mk F3 (cC.mk cS a8.mk))))⟩
open Go.ChangeShapes Go.WideShapes Go.ChangeAt Go.RowKit
theorem LS {V V':aa} {w w':World} (h:Fr V V' w w') (hV:V.on w) (eO:V'.on w') (hle:V.le V'):Below w.heap.size w w':=by
 refine⟨h.os,h.tape,h.output,h.size,fun k hk=>?_⟩
 cases kv:V k with
 | none=>exact h.j9 k hk kv
 | some x =>
  obtain⟨c,t⟩:=x;rw [hV k c t kv,eO k c t (hle k _ kv)]
section
variable {H:Type} {enc:TypeId × Value->H} {P:Program}
theorem rv (hl:laidOutB P=true) {W W':World} (hb:Below W.heap.size W W'):∀ {ts:List TypeId} {vs:List Value} {ds:List (DataW H)} {p:List MemPlace},
  (∀ t∈ts,P.readableRec t=true/\t<P.types.size)->DataW.TrodAll enc P W 0 (fun _=>true) true ts vs ds p->(∀ x∈p,x.block<W.heap.size)->DataW.TrodAll enc P W' 0 (fun b=>decide (b<W.heap.size)) true ts vs ds p
 | [],_,_,_,_,h,_=>by
  obtain⟨rfl,rfl,rfl⟩:=trodAll_nil h;exact h
 | t :: _,_,_,_,ht,h,hp=>by
  obtain⟨v,vs1,d,ds1,a,b,rfl,rfl,rfl,h1,h2⟩:=trodAll_cons h;obtain⟨g1,g2⟩:=ht t (List.mem_cons_self ..);exact⟨a,b,Below.trod hl g1 g2 h1 hb (fun x hx=>hp x (by simp [hx])),rv hl hb (fun t ht'=>ht t (List.mem_cons_of_mem _ ht')) h2 (fun x hx=>hp x (by simp [hx])),rfl⟩
def Hg (P:Program) (ns:List String):Bool:=ns.all fun n=>((P.globalNamed n).bind (P.globals[·]?)).all fun gl=>P.readableRec gl.type && decide (gl.type<P.types.size)
theorem qh (hl:laidOutB P=true) {W W':World} (hb:Below W.heap.size W W') :
  ∀ {ns:List String} {gs:List (DataW H)} {ps:List MemPlace},Hg P ns=true->DataW.TrodVars enc P W (fun _=>true) ns gs ps->DataW.TrodVars enc P W' (fun b=>decide (b<W.heap.size)) ns gs ps
 | [],[],_,_,h=>h
 | [],_ :: _,_,_,h=>h.elim
 | _ :: _,[],_,_,h=>h.elim
 | n :: ns,d :: ds,ps,hv,h=>by
  have aN:=h.lt;obtain⟨g,t,cs,fuel,p,q,h1,h2,h3,h4,hs,e⟩:=h;simp only [Hg,List.all_cons,Bool.and_eq_true] at hv;have ht:P.readableRec t=true/\t<P.types.size:=by
   have:=hv.1;rw [h1] at this;cases hg:P.globals[g]? with
   | none=>rw [hg] at h2; cases h2
   | some gl =>
    rw [hg] at h2;obtain rfl:gl.type=t:=Option.some.inj h2;simpa [hg] using this
  have hp:∀ x∈p,x.block<W.heap.size:=fun x hx=>aN x (by rw [e]; simp [hx])
  have WL:W'.var? P n=some cs:=by
   unfold World.var? at h3 ⊢;rw [h1] at h3 ⊢;simp only [Option.bind_some] at h3 ⊢;have hg:g<W.heap.size:=by
    cases hh:W.heap[g]? with
    | none=>rw [hh] at h3; cases h3
    | some o=>exact(Array.getElem?_eq_some_iff.1 hh).1
   rw [hb.block g hg]; exact h3
  obtain⟨f2,h4'⟩:∃ f2,DataW.trod enc P W' 0 (fun b=>decide (b<W.heap.size)) true f2 t cs.toList=some (d,p):=by
   have hT:DataW.Trod enc P W 0 (fun _=>true) true t (.agg cs) d p:=⟨fuel,h4⟩;exact Below.trod hl ht.1 ht.2 hT hb hp
  exact⟨g,t,cs,f2,p,q,h1,h2,WL,h4',qh hl hb (by simpa [Hg] using hv.2) hs,e⟩
theorem post_law (hl:laidOutB P=true) {f:Func} {s:ChangeSpec} {W W':World} {args:Array Value} {ds gs:List (DataW H)} {before:List MemPlace} {tb:TypeId}
  (hp:∀ t∈f.params.toList,P.readableRec t=true/\t<P.types.size) (hv:Hg P s.vars=true) (hW:DataW.Whole enc P f.params.toList s.vars false W args.toList ds gs before) (hb:Below W.heap.size W W')
  (hr:f.resultTypes=#[tb]) (hu:P.underlying tb=some .bool) (h1:(s.fn H (ds++gs)).results=[.lit (.bool true)]) (h2:(s.fn H (ds++gs)).args=ds) (h3:(s.fn H (ds++gs)).vars=gs) :
  s.post enc P f false true false false W args (.bool true) W':=by
 have aN:=hW.lt;have Ww:=hW;obtain⟨p,q,hA,hV,rfl,hz,hn⟩:=hW;refine⟨ds,gs,p++q,[],p,q,Ww,?_,?_,?_,hb.frame _,nofun⟩
 ·rw [hr,h1]
  exact trodAll_mk1 (shut_bool hu true)
 ·rw [h2]
  exact rv hl hb hp hA (fun x hx=>aN x (by simp [hx]))
 rw [h3];exact qh hl hb hv hV
end
def rD (P:Program) (l:List TypeId):Bool:=l.all fun t=>P.readableRec t && decide (t<P.types.size)
theorem mi {P:Program} {l:List TypeId} (h:rD P l=true):∀ t∈l,P.readableRec t=true/\t<P.types.size:=by
 intro t ht;have:=List.all_eq_true.1 h t ht;simpa using this
def vk {H:Type} (r:fo):DataW H:=.agg [.lit (.string r.1.data.toList),.lit (.string r.2.1.data.toList),.lit (.int .i64 r.2.2.1),.lit (.int .i64 r.2.2.2.1)]
def yN {H:Type} (l:List fo):DataW H:=.agg (l.map vk)
theorem ry:∀ {l:List fo} {cs:List Value},cs.length=l.length*4->(∀ (i:Nat) (h:i<l.length),(cs.drop (i*4)).take 4=Uz l[i])->cs=fF l
 | [],cs,hl,_=>by simp at hl; simp [hl,fF]
 | a :: l,cs,hl,h=>by
  have h0:=h 0 (by simp);simp only [Nat.zero_mul,List.drop_zero,List.getElem_cons_zero] at h0;have ih:=ry (l:=l) (cs:=cs.drop 4) (by simp at hl ⊢; omega) (fun i hi=>by
   have:=h (i+1) (by simpa using hi);rw [List.drop_drop];rw [show 4+i*4=(i+1)*4 by omega];simpa using this)
  rw [<- List.take_append_drop 4 cs,h0,ih]
  rfl
theorem str_of {s:ByteArray} {b:ByteArray} (h:s.data.toList=b.data.toList):s=b:=by
 obtain⟨⟨l⟩⟩:=s;obtain⟨⟨m⟩⟩:=b;simp at h;subst h; rfl
section
variable {H:Type} {enc:TypeId × Value->H} {P:Program} {w:World} {base:Nat} {sp:Nat->Bool} {held:Bool}
theorem LU {fuel:Nat} {e:TypeId} {f0 f1 f2 f3:Field} {cs:List Value} {r:fo} {p:List MemPlace} (he:P.underlying e=some (.struct #[f0,f1,f2,f3]))
  (h0:P.underlying f0.type=some .string/\f0.offset=0/\P.cellsOf f0.type=1) (h1:P.underlying f1.type=some .string/\f1.offset=1/\P.cellsOf f1.type=1)
  (h2:P.underlying f2.type=some (.int .i64)/\f2.offset=2/\P.cellsOf f2.type=1) (h3:P.underlying f3.type=some (.int .i64)/\f3.offset=3/\P.cellsOf f3.type=1) (hc:P.cellsOf e=4)
  (h:DataW.trod enc P w base sp held fuel e cs=some (vk r,p)):cs=Uz r:=by
 obtain⟨xs,n,_,hx,hl,hlen,hf⟩:=DataW.trod_struct he h
 match xs,hlen with
 | [y0,y1,y2,y3],_ =>
  have g0:=hf 0 f0 rfl;have g1:=hf 1 f1 rfl;have g2:=hf 2 f2 rfl;have g3:=hf 3 f3 rfl;rw [hc] at hl
  match cs,hl with
  | [c0,c1,c2,c3],_ =>
   simp only [h0.2.1,h0.2.2,h1.2.1,h1.2.2,h2.2.1,h2.2.2,h3.2.1,h3.2.2] at g0 g1 g2 g3;obtain⟨s0,e0,x0,_⟩:=DataW.trod_string h0.1 g0;obtain⟨s1,e1,x1,_⟩:=DataW.trod_string h1.1 g1;obtain⟨n2,e2,x2,_⟩:=DataW.trod_int h2.1 g2;obtain⟨n3,e3,x3,_⟩:=DataW.trod_int h3.1 g3;simp at e0 e1 e2 e3;subst e0 e1 e2 e3;have hx1:=congrArg Prod.fst hx;simp only [vk,x0,x1,x2,x3,List.map_cons,List.map_nil,DataW.agg.injEq,List.cons.injEq,DataW.lit.injEq,Lit.string.injEq,Lit.int.injEq,and_true,true_and] at hx1;obtain⟨q0,q1,q2,q3⟩:=hx1;show _=[Value.string r.1,.string r.2.1,.int .i64 r.2.2.1,.int .i64 r.2.2.2.1]
   rw [str_of q0,str_of q1,q2,q3]
theorem Cy {fuel:Nat} {t e:TypeId} {f0 f1 f2 f3:Field} {cs:List Value} {l:List fo} {p:List MemPlace} (ht:P.underlying t=some (.array l.length e)) (he:P.underlying e=some (.struct #[f0,f1,f2,f3]))
  (h0:P.underlying f0.type=some .string/\f0.offset=0/\P.cellsOf f0.type=1) (h1:P.underlying f1.type=some .string/\f1.offset=1/\P.cellsOf f1.type=1)
  (h2:P.underlying f2.type=some (.int .i64)/\f2.offset=2/\P.cellsOf f2.type=1) (h3:P.underlying f3.type=some (.int .i64)/\f3.offset=3/\P.cellsOf f3.type=1) (hc:P.cellsOf e=4) (hct:P.cellsOf t=l.length*4)
  (h:DataW.trod enc P w base sp held fuel t cs=some (yN l,p)):cs=fF l:=by
 cases fuel with
 | zero=>simp [DataW.trod] at h
 | succ fuel =>
  simp only [DataW.trod,ht,hc,hct] at h;split at h
  ·rename_i hl
   obtain⟨xs,hm,hx⟩:=Option.map_eq_some_iff.1 h;have Su:xs.map (·.1)=l.map vk:=by
    have:=congrArg Prod.fst hx;simpa [yN] using this
   refine ry hl fun i hi=>?_
   obtain⟨b,hb,hf⟩:=Go.Lib.mapM_at hm i i (by simp [hi]);have fW:b.1=vk l[i]:=by
    have h2:(xs.map (·.1))[i]?=some b.1:=by simp [hb]
    rw [Su] at h2;simpa [hi] using h2.symm
   obtain⟨b1,b2⟩:=b;simp only at fW;subst fW;exact LU he h0 h1 h2 h3 hc hf
  cases h
end
noncomputable def yO:Array Field:=match prog.underlying 153 with | some (.struct fs)=>fs | _=>#[]
theorem table {W : World} {rest : List (String × DataW Unit)} (h : laidMet prog (("loop.example/g00793/impl.currencies", yN eX) :: rest) W) : ∃ t, W.heap[0]? = some (.cells (fF eX).toArray t (0, 0)) := by
 obtain⟨ps,⟨g',t',cs,fuel,p,q,hg',ht',hvar,hd,hq,hps⟩,_,hb⟩:=h;obtain rfl := Option.some.inj ((show prog.globalNamed "loop.example/g00793/impl.currencies" = some 0 by kernel_rfl).symm.trans hg');obtain rfl:=Option.some.inj ((show(prog.globals[0]?).map (·.type)=some 202 by kernel_rfl).symm.trans ht');have sJ:=Cy (e:=153) (f0:=yO[0]!) (f1:=yO[1]!) (f2:=yO[2]!) (f3:=yO[3]!) (by kernel_rfl) (by kernel_rfl) ⟨by kernel_rfl,by kernel_rfl,by kernel_rfl⟩ ⟨by kernel_rfl,by kernel_rfl,by kernel_rfl⟩
  ⟨by kernel_rfl,by kernel_rfl,by kernel_rfl⟩ ⟨by kernel_rfl,by kernel_rfl,by kernel_rfl⟩ (by kernel_rfl) (by kernel_rfl) hd
 have gv:0<cs.size:=by
  have:=congrArg List.length sJ;simp at this;rw [this]; decide +kernel
 obtain⟨⟨c,t,hc⟩,_⟩:=hb 0 0 (by
  rw [hps];refine List.mem_append_left _ (List.mem_append_left _ ?_)
  simp [MemPlace.row];exact gv)
 unfold World.var? at hvar;rw [hg'] at hvar;simp only [Option.bind_some,hc,Option.some.injEq] at hvar;refine⟨t,?_⟩
 rw [hc,<- sJ,hvar]
theorem WA {W:World} {t:TypeId} (h:W.heap[0]?=some (.cells (fF eX).toArray t (0,0))):iS (mV W) :=
 ⟨(t,(0,0)),wL h fun es e=>by
  have h80:(fF eX).toArray.toList.length=80:=by decide +kernel
  have h1:=h80.symm.trans (congrArg List.length e);exact absurd (show(80:Nat)=1 from h1) (by omega)⟩
end Go.Proofs.YtahmmgiiojjhgaaGreatDoor
