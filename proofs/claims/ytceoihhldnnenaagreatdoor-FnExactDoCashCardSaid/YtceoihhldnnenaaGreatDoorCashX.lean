/-
  An account rounded to cash, in the program and in the reference.
-/
import Derived.Test.YtceoihhldnnenaaGreatDoorMapT
import Derived.Test.YtceoihhldnnenaaGreatDoorRtM
import Derived.Test.YtceoihhldnnenaaGreatDoorMu
import Derived.Test.YtceoihhldnnenaaGreatDoorTotB
import Derived.Test.YtceoihhldnnenaaGreatDoorDecB
namespace Go.Proofs.YtceoihhldnnenaaGreatDoor
open Sx
set_option maxRecDepth 100000
theorem GV.le {sh:List Sc} {α:Type} {r:Rp sh α} {t:TypeId} {V0 V V':Know} {s:SlV} {cs:List (Scs sh)} {l:List α} {fps:List Nat} (h:GV r t V0 V s cs l fps) (le:V.le V'):GV r t V0 V' s cs l fps:=by
 obtain⟨h1,h2,h3,h4,b,post,ha,hb,hv,hp⟩:=h
 exact⟨h1,h2,h3.trans le,h4,b,post,ha,hb,le _ _ hv,hp⟩
theorem restOf_at {c:ByteArray}:∀ {l:List DRest},restOf l c=atR l c
 | []=>rfl
 | r :: l=>by
  unfold restOf atR
  by_cases e:r.1=c
  ·rw [if_pos e,List.find?_cons_of_pos (by simp [keyB,e])]; rfl
  ·rw [if_neg e,List.find?_cons_of_neg (by simp [keyB,e]),restOf_at]; rfl
def KeepQ (l:List DRest) (c:ByteArray) (r:DRat) (l':List DRest) (e:Bool):Prop :=
 (e=true∧∃ y,AddRP (atR l c) r (y,true)∧l'=addR c y l)∨(e=false∧l'=[]∧∃ y,AddRP (atR l c) r (y,false))
abbrev RaS (V:Know) (l:List DRest) (c:ByteArray) (r:DRat):Know→Value→Prop:=fun V' v=>V.le V'∧∃ t l' f e,v=.tuple #[Sc.val .l t,.bool e]∧LR rRest V' t l' f∧KeepQ l c r l' e
abbrev RaI (V:Know) (l:List DRest) (c:ByteArray) (r:DRat):Know→Value→Prop:=fun V' v=>V.le V'∧∃ t l' f e,v=.tuple #[Sc.val .l t,.bool e]∧LR rRest V' t l' f∧Own V V' f∧KeepQ l c r l' e
abbrev ReSh:List Sc:=[.s,.b,.l,.l]
abbrev reT:TypeId:=164
theorem cS_RestAdd {V:Know} (hV:HcS V) (s:SlV) (l:List DRest) (f:List Nat) (h:LR rRest V s l f) (hl:RestsOkP l) (c:ByteArray) (kc:known c=true) (d:Scs [.b,.l,.l]) (r:DRat) (g:List Nat) (hr:rRat.R V d r g) (ok:RatP r) :
  CallX Tryz.prog V 47 [Sc.val .l s,.string c,qv1 d] (RaS V l c r):=by
 refine CallX.of_fits Tryz.mix (fS_RestAdd _ _ _) fun _=>?_
 have h20:=rests_len hl
 simp only [tS_RestAdd,ap_d,T.wp]
 refine(cS_RestOf V s l f h (rests_rat hl) c).mono ?_
 rintro V1 _ ⟨le1,c1,f1,rfl,R1⟩
 rw [restOf_at] at R1
 refine⟨fun _=>le1,c1,rfl,?_⟩
 obtain⟨s1,s1',g1,g1',rfl,A1,B1,_⟩:=rat_elim R1
 obtain⟨s2,s2',g2,g2',rfl,A2,B2,_⟩:=rat_elim hr
 refine(cS_RatAdd V1 _ s1 s1' _ s2 s2' _ _ _ _ _ _ _ _ A1 B1 (A2.le le1) (B2.le le1) (atR_ok hl c) ok).mono ?_
 rintro V2 _ ⟨le2,c2,y,e,f2,rfl,R2,O2,hy⟩
 have l2:=le1.trans le2
 refine⟨nofun,(c2,e,()),rfl,(cS_RestsOk (hV.le l2) s l f (h.le l2)).mono ?_⟩
 rintro V3 _ ⟨le3,e3,rfl,he3⟩
 obtain rfl:e3=true:=he3.2 hl
 have l3:=l2.trans le3
 refine⟨nofun,true,rfl,nofun,fun _=>(kS_CurKnown (hV.le l3) c).mono ?_⟩
 rintro V4 _ ⟨le4,rfl⟩
 have l4:=l3.trans le4
 refine⟨nofun,_,rfl,fun hf=>?_,fun _=>⟨fun hf=>?_,fun ht=>?_⟩⟩
 ·rw [kc] at hf; cases hf
 ·obtain rfl:e=false:=by simpa using hf
  exact⟨l4,⟨none,0,0⟩,[],[],false,rfl,lrNil,.inr ⟨rfl,rfl,y,hy⟩⟩
 obtain rfl:e=true:=by simpa using ht
 have yok:=redS_ok (Int.mul_pos (ratP_pos (atR_ok hl c)) (ratP_pos ok)) hy rfl
 refine(kS_l19Copy V4 s l f (h.le l4) (by have:=rests_tot hl; omega)).mono ?_
 rintro V5 _ ⟨le5,s5,f5,rfl,L5,_⟩
 have l5:=l4.trans le5
 have R5:=rRat.le R2 ((le3.trans le4).trans le5)
 have n5:=L5.1
 have rowC:rRest.R V5 ((c,c2):Scs ReSh) (c,y) f2:=⟨⟨rfl,known_len kc⟩,R5⟩
 obtain⟨sy,sy',gy,gy',rfl,Ay,By,_⟩:=rat_elim R5
 refine⟨nofun,s5,rfl,fun b6 c6 sp hb6 _ hsp=>?_⟩
 refine⟨fun z V'=>∃ (k:Nat) (cs:List (Scs ReSh)) (out:List DRest) (fps:List Nat),z.2.2.1=(k:Int)∧k≤l.length∧GV rRest reT V5 V' z.1 cs out fps∧out.length≤2*k∧endR c y out z.2.1 (l.drop k)=addR c y l,fun z _=>((l.length:Int)-(z.2.2.1:Int)).toNat,
  ⟨(⟨some ⟨b6,0,none⟩,0,c6⟩,false,(0:Int),()),rfl,0,[],[],[],rfl,Nat.zero_le _,GV.start hb6 (by rw [hsp]; rfl),Nat.zero_le _,by rw [List.drop_zero,endR_eq (up_rests hl)]; rfl⟩,?_⟩
 rintro⟨s7,(dn:Bool),(i:Int),u⟩ V6 ⟨k,cs,out,fps,hk,hkl,G,ho,hE⟩
 replace hk:i=(k:Int):=hk
 subst hk
 replace G:GV rRest reT V5 V6 s7 cs out fps:=G
 replace hE:endR c y out dn (l.drop k)=addR c y l:=hE
 have le6:=G.2.2.1
 have sgC:∀ V',V5.le V'→CallX Tryz.prog V' 97 [qv1 (y.1,sy,sy',())] (fun V'' v=>V'.le V''∧v=.int .i64 (sgn (rS y))):=fun V' le'=>cS_RatSign V' _ sy sy' _ _ _ _ (Ay.le le') (By.le le') yok
 refine⟨fun hlt=>?_,fun hge=>?_⟩
 ·have hi:k<l.length:=by
   have:(k:Int)<(s5.n:Int):=of_decide_eq_true hlt
   omega
  obtain⟨b1,o1,c1,fc,a1,l1,hR,_⟩:=L5.at hi
  have e0:(k:Int).toNat=k:=by omega
  have ename:c1.1=l[k].1:=hR.1.1
  rw [List.drop_eq_getElem_cons hi] at hE
  have hm:((l.length:Int)-((k+1:Nat):Int)).toNat<((l.length:Int)-(k:Int)).toNat:=by omega
  dsimp only
  rw [e0]
  refine⟨_,a1,by omega,by omega,c1,loadV_le le6 l1,fun he=>?_,fun he=>?_⟩
  ·have ec:l[k].1=c:=ename.symm.trans (text_eq.1 he)
   rw [endR,if_pos ec] at hE
   exact⟨_,rfl,(s7,dn,((k+1:Nat):Int),()),by rw [nxt hi (by omega)]; rfl,⟨k+1,cs,out,fps,rfl,hi,G,by omega,hE⟩,hm⟩
  have nc:l[k].1≠c:=fun e=>by
   have:=text_eq.2 (ename.trans e)
   rw [this] at he; cases he
  rw [endR,if_neg nc] at hE
  refine⟨fun z V'=>∃ cs out fps,GV rRest reT V5 V' z.1 cs out fps∧out.length≤2*k+1∧endR c y (out++[l[k]]) z.2.1 (l.drop (k+1))=addR c y l,?_,?_⟩
  ·have stay:∀ V',V6.le V'→(!dn && lesB c l[k].1 && !zeroQ y)≠true→∃ z:LShs [.o (.o .l),.o (.o .b)],[LV.v (Sc.val .l s7),.v (.bool dn)]=LShs.lvs _ z∧∃ cs out fps,GV rRest reT V5 V' z.1 cs out fps∧out.length≤2*k+1∧endR c y (out++[l[k]]) z.2.1 (l.drop (k+1))=addR c y l:=fun V' le' hn=>by
    rw [if_neg hn] at hE
    exact⟨(s7,dn,()),rfl,cs,out,fps,G.le le',by omega,hE⟩
   refine⟨fun hd=>⟨fun hb=>(sgC V6 le6).mono ?_,fun hb=>⟨_,rfl,stay V6 (Know.le.refl _) fun k2=>?_⟩⟩,fun hd=>⟨_,rfl,stay V6 (Know.le.refl _) fun k2=>?_⟩⟩
   ·rintro V7 _ ⟨le7,rfl⟩
    refine⟨nofun,_,rfl,fun hz=>?_,fun hz=>⟨_,rfl,stay V7 le7 fun k2=>?_⟩⟩
    ·have hd':dn=false:=by simpa using hd
     have hb':lesB c l[k].1=true:=by
      rw [ename] at hb
      have h2:lesB l[k].1 c=false∧(l[k].1.toList == c.toList)=false:=by simpa [lesB] using hb
      exact LessP.tot (fun q=>by rw [show lesB l[k].1 c=true from q] at h2; cases h2.1) fun q=>by rw [text_eq.2 q] at h2; cases h2.2
     have hz':zeroQ y=false:=by simpa [zeroQ,bne] using hz
     subst hd'
     rw [if_pos (by rw [hb',hz']; rfl)] at hE
     refine⟨rfl,rfl,ap_rowV (sh:=ReSh) (c:=(c,(y.1,sy,sy',()))) (G.le le7) rowC (by kernel_rfl) (by omega) (by omega) fun s9 V9 G9=>⟨_,rfl,(s9,true,()),rfl,_,_,_,G9,by rw [List.length_append,List.length_singleton]; omega,hE⟩⟩
    ·have hz':zeroQ y=true:=by simpa [zeroQ,bne] using hz
     rw [hz'] at k2; simp at k2
   ·rw [ename] at hb
    have k3:lesB c l[k].1=true:=by
     simp only [Bool.and_eq_true] at k2
     exact k2.1.2
    have h2:lesB l[k].1 c=false:=les_no k3
    have h3:(l[k].1.toList == c.toList)=false:=text_ne.2 nc
    rw [show Op.bytesLess l[k].1.toList c.toList=false from h2,h3] at hb
    cases hb
   ·have hd':dn=true:=by simpa using hd
    rw [hd'] at k2; simp at k2
  ·rintro⟨s8,(d8:Bool),u⟩ V7 ⟨cs8,out8,fps8,G8,ho8,hE8⟩
   refine⟨rfl,rfl,ap_rowV (sh:=ReSh) (c:=c1) G8 hR (by kernel_rfl) (by omega) (by omega) fun s9 V9 G9=>?_⟩
   exact⟨_,rfl,(s9,d8,((k+1:Nat):Int),()),by rw [nxt hi (by omega)]; rfl,⟨k+1,_,_,_,rfl,hi,G9,by rw [List.length_append,List.length_singleton]; omega,hE8⟩,hm⟩
 ·have hi:k=l.length:=by
   have:¬ (k:Int)<(s5.n:Int):=of_decide_eq_false hge
   omega
  subst hi
  rw [List.drop_length,endR] at hE
  refine⟨fun z V'=>∃ cs fps,GV rRest reT V5 V' z.1 cs (addR c y l) fps,?_,?_⟩
  ·have stay:∀ V',V6.le V'→(!dn && !zeroQ y)≠true→∃ z:LShs [.o (.o .l)],[LV.v (Sc.val .l s7)]=LShs.lvs _ z∧∃ cs fps,GV rRest reT V5 V' z.1 cs (addR c y l) fps:=fun V' le' hn=>by
    rw [if_neg hn] at hE
    subst hE
    exact⟨(s7,()),rfl,cs,fps,G.le le'⟩
   refine⟨fun hd=>(sgC V6 le6).mono ?_,fun hd=>⟨_,rfl,stay V6 (Know.le.refl _) fun k2=>?_⟩⟩
   ·rintro V7 _ ⟨le7,rfl⟩
    refine⟨nofun,_,rfl,fun hz=>?_,fun hz=>⟨_,rfl,stay V7 le7 fun k2=>?_⟩⟩
    ·have hd':dn=false:=by simpa using hd
     have hz':zeroQ y=false:=by simpa [zeroQ,bne] using hz
     subst hd'
     rw [if_pos (by rw [hz']; rfl)] at hE
     rw [← hE]
     exact⟨rfl,rfl,ap_rowV (sh:=ReSh) (c:=(c,(y.1,sy,sy',()))) (G.le le7) rowC (by kernel_rfl) (by omega) (by omega) fun s9 V9 G9=>⟨_,rfl,(s9,()),rfl,_,_,G9⟩⟩
    ·have hz':zeroQ y=true:=by simpa [zeroQ,bne] using hz
     rw [hz'] at k2; simp at k2
   ·have hd':dn=true:=by simpa using hd
    rw [hd'] at k2; simp at k2
  ·rintro⟨s8,u⟩ V7 ⟨cs8,fps8,G8⟩
   have hlen:(addR c y l).length≤9223372036854775807:=by
    have:=rests_len (addR_ok (y:=y) hl kc yok)
    omega
   obtain⟨b,_,_,hL⟩:=GV.lr G8 hlen
   exact⟨l5.trans G8.2.2.1,s8,_,_,true,rfl,hL,.inl ⟨rfl,y,hy,rfl⟩⟩
end Go.Proofs.YtceoihhldnnenaaGreatDoor
namespace Go.Proofs.YtceoihhldnnenaaGreatDoor
open Sx
set_option maxRecDepth 100000
abbrev RaSh:List Sc:=[.b,.l,.l]
abbrev Ent:Type:=ByteArray × Scs RaSh × DRat × List Nat
def entV (e:Ent):ByteArray × Value:=(e.1,qv1 e.2.1)
def entD (e:Ent):DRest:=(e.1,e.2.2.1)
def EntsOk (V V':Know) (m:Nat) (E:List Ent):Prop:=(∀ e∈E,rRat.R V' e.2.1 e.2.2.1 e.2.2.2∧Own V V' e.2.2.2∧m ∉ e.2.2.2∧e.1.size≤9223372036854775807)∧E.Pairwise fun a b=>a.1≠b.1∧∀ x∈a.2.2.2,x ∉ b.2.2.2
theorem EntsOk.le {V V' V2:Know} {m:Nat} {E:List Ent} (h:EntsOk V V' m E) (le:V'.le V2):EntsOk V V2 m E :=
 ⟨fun e he=>let ⟨a,b,c,d⟩:=h.1 e he; ⟨rRat.le a le,b.post le,c,d⟩,h.2⟩
theorem EntsOk.kset {V V':Know} {m:Nat} {E:List Ent} (h:EntsOk V V' m E) (x:List Value × KTy):EntsOk V (kset V' m x) m E :=
 ⟨fun e he=>by
  obtain⟨a,b,c,d⟩:=h.1 e he
  have ho:∀ y∈e.2.2.2,Sx.kset V' m x y=V' y:=fun y hy=>kset_other (fun q=>c (q ▸ hy))
  refine⟨rRat.loc a ho,⟨b.1,b.2.1,fun y hy=>?_⟩,c,d⟩
  obtain⟨u,t,k⟩:=b.2.2 y hy
  exact⟨u,t,by rw [ho y hy]; exact k⟩,h.2⟩
theorem ents_apart {E:List Ent} (h:E.Pairwise fun a b=>a.1≠b.1∧∀ x∈a.2.2.2,x ∉ b.2.2.2) {a b:Ent} (ha:a∈E) (hb:b∈E) (hn:a.1≠b.1):∀ x∈a.2.2.2,x ∉ b.2.2.2:=by
 obtain⟨i,hi,rfl⟩:=List.mem_iff_getElem.1 ha
 obtain⟨j,hj,rfl⟩:=List.mem_iff_getElem.1 hb
 have k:=List.pairwise_iff_getElem.1 h
 rcases Nat.lt_trichotomy i j with q | q | q
 ·exact(k i j hi hj q).2
 ·subst q; exact absurd rfl hn
 ·exact fun x h1 h2=>(k j i hj hi q).2 x h2 h1
theorem lk_ent {k:ByteArray}:∀ {E:List Ent} {j:Nat},((lkT k (E.map entV) j).map (·.2))=(E.find? fun e=>decide (e.1=k)).map fun e=>qv1 e.2.1
 | [],_=>rfl
 | e :: E,j=>by
  rw [List.map_cons,lkT]
  by_cases h:e.1=k
  ·rw [if_pos (show k=(entV e).1 from h.symm),List.find?_cons_of_pos (by simp [h])]; rfl
  ·rw [if_neg (fun q=>h (show(entV e).1=k from q.symm)),List.find?_cons_of_neg (by simp [h]),lk_ent]
theorem lk_none {k:ByteArray} {E:List Ent} {j:Nat} (h:(E.find? fun e=>decide (e.1=k))=none):lkT k (E.map entV) j=none:=by
 have:=lk_ent (k:=k) (E:=E) (j:=j)
 rw [h] at this
 simpa using this
theorem lk_some {k:ByteArray} {E:List Ent} {j:Nat} {e:Ent} (h:(E.find? fun e=>decide (e.1=k))=some e):∃ i,lkT k (E.map entV) j=some (i,qv1 e.2.1):=by
 have:=lk_ent (k:=k) (E:=E) (j:=j)
 rw [h] at this
 cases hl:lkT k (E.map entV) j with
 | none=>rw [hl] at this; cases this
 | some p =>
  obtain⟨i,v⟩:=p
  rw [hl] at this
  simp at this
  exact⟨i,by rw [this]⟩
def FOf (E:List Ent) (k:ByteArray):Option DRest:=(E.find? fun e=>decide (e.1=k)).map entD
theorem fOf_data {E:List Ent} {D:List DRest} (h:E.map entD=D) (k:ByteArray):FOf E k=D.find? (keyB k):=by
 rw [← h,List.find?_map]; rfl
abbrev dataD (c:ByteArray) (y:DRat) (l:List DRest):List DRest:=(if zeroQ y=true then [] else [(c,y)])++l.filter fun x=>decide (x.1≠c)
theorem fOf_cur {E:List Ent} {c:ByteArray} {y:DRat} {l:List DRest} (h:E.map entD=dataD c y l):FOf E c=if zeroQ y=true then none else some (c,y):=by
 rw [fOf_data h,List.find?_append,find_no (l:=l.filter _) fun x hx=>by
  have:=(List.mem_filter.1 hx).2
  simpa [keyB] using this]
 split
 ·rfl
 ·simp [keyB]
theorem fOf_else {E:List Ent} {c k:ByteArray} {y:DRat} {l:List DRest} (h:E.map entD=dataD c y l) (hk:k≠c):FOf E k=l.find? (keyB k):=by
 rw [fOf_data h,List.find?_append,find_no (l:=if zeroQ y=true then [] else [(c,y)]) fun x hx=>?_,Option.none_or]
 ·exact find_fil fun x _ hq=>by
   have e:x.1=k:=of_decide_eq_true hq
   exact decide_eq_true (by rw [e]; exact hk)
 ·split at hx
  ·cases hx
  ·rcases List.mem_singleton.1 hx with rfl
   exact decide_eq_false fun e=>hk e.symm
abbrev mapRT:TypeId:=289
abbrev zRat:Scs RaSh:=(false,⟨none,0,0⟩,⟨none,0,0⟩,())
theorem rat_zero:∀ w,(zeroValue 95).run Tryz.prog w=.ok (qv1 zRat) w:=fun w=>prun_run (by kernel_rfl) w
theorem mapR_und:Tryz.prog.underlying mapRT=some (.map 9 95):=by kernel_rfl
theorem str_und:Tryz.prog.underlying 9=some .string:=by kernel_rfl
theorem strV_flat:∀ l:List ByteArray,strV l=l.flatMap fun s=>[Value.string s]
 | []=>rfl
 | a :: l=>by
  rw [List.flatMap_cons,← strV_flat l]; rfl
theorem str_at {V:Know} {b k:Nat} {l:List ByteArray} {post:List Value} {t:KTy} (h:V b=some (strV l++post,t)) (hk:k<l.length):loadV V ((⟨b,0,none⟩:Addr).add (k*1)) 1=some [.string l[k]]:=by
 simp only [addr_add_eq,loadV,h,Nat.zero_add]
 rw [strV_flat]
 exact cutv_flat (f:=fun s:ByteArray=>[Value.string s]) (fun _=>rfl) hk post
theorem cI_RestAdd {V:Know} (hV:HcI V) (s:SlV) (l:List DRest) (f:List Nat) (h:LR rRest V s l f) (hl:RestsOkP l) (c:ByteArray) (kc:known c=true) (d:Scs [.b,.l,.l]) (r:DRat) (g:List Nat) (hr:rRat.R V d r g) (ok:RatP r) :
  CallX Tryz.prog V 259 [Sc.val .l s,.string c,qv1 d] (RaI V l c r):=by
 refine CallX.of_fits Tryz.mix (fI_RestAdd _ _ _) fun _=>?_
 have h20:=rests_len hl
 have n0:=h.1
 simp only [tI_RestAdd,ap_d,T.wp]
 obtain⟨s2,s2',g2,g2',rfl,A2,B2,_⟩:=rat_elim hr
 refine(cI_RestsOk hV s l f h).mono ?_
 rintro V1 _ ⟨le1,e1,rfl,he1⟩
 obtain rfl:e1=true:=he1.2 hl
 refine⟨nofun,true,rfl,nofun,fun _=>(cI_RatOk V1 _ s2 s2' _ _ _ _ (A2.le le1) (B2.le le1)).mono ?_⟩
 rintro V2 _ ⟨le2,e2,rfl,he2⟩
 obtain rfl:e2=true:=he2.2 ok
 have l2:=le1.trans le2
 refine⟨nofun,true,rfl,nofun,fun _=>(kI_CurKnown (hV.le l2) c).mono ?_⟩
 rintro V3 _ ⟨le3,rfl⟩
 have l3:=l2.trans le3
 refine⟨nofun,_,rfl,fun hf=>?_,fun _=>(cI_RestOf V3 s l f (h.le l3) (rests_rat hl) c).mono ?_⟩
 ·rw [kc] at hf; cases hf
 rintro V4 _ ⟨le4,c4,f4,rfl,R4⟩
 rw [restOf_at] at R4
 obtain⟨s1,s1',g1,g1',rfl,A1,B1,_⟩:=rat_elim R4
 have l4:=l3.trans le4
 refine⟨fun _=>le4,_,rfl,(cI_RatAdd V4 _ s1 s1' _ s2 s2' _ _ _ _ _ _ _ _ A1 B1 (A2.le l4) (B2.le l4) (atR_ok hl c) ok).mono ?_⟩
 rintro V5 _ ⟨le5,c5,y,e,f5,rfl,R5,O5,hy⟩
 have l5:=l4.trans le5
 refine⟨nofun,(c5,e,()),rfl,fun hf=>?_,fun ht=>?_⟩
 ·obtain rfl:e=false:=by simpa using hf
  exact⟨l5,⟨none,0,0⟩,[],[],false,rfl,lrNil,Own.nil,.inr ⟨rfl,rfl,y,hy⟩⟩
 obtain rfl:e=true:=by simpa using ht
 have yok:=redS_ok (Int.mul_pos (ratP_pos (atR_ok hl c)) (ratP_pos ok)) hy rfl
 refine semx_mk.mono ?_
 rintro V6 _ ⟨m,hm5,rfl,rfl⟩
 have hm:V m=none:=none_of_le l5 hm5
 have O5':Own V V5 f5:=O5.pre l4
 have hmf:m ∉ f5:=fun hx=>by
  obtain⟨u,t,k⟩:=O5'.2.2 m hx
  rw [hm5] at k; cases k
 have l6:V.le (kset V5 m (mapC [],(0,(1,0)))):=kset_le2 l5 hm
 refine⟨⟨.map (some m),rfl⟩,rfl,?_⟩
 refine(semx_upText (l:=[]) (i:=0) (c:=0) mapR_und str_und (kset_same (x:=(mapC [],(0,(1,0))))) rfl c (qv1 c5) (fun p hp=>by cases hp)).mono ?_
 rintro V7 _ ⟨rfl,rfl⟩
 have E1:EntsOk V (kset (kset V5 m (mapC [],(0,(1,0)))) m (mapC (entsT 0 ([]++[(c,qv1 c5)])),(0+([]++[(c,qv1 c5)]).length,(1,0)))) m [(c,c5,y,f5)] :=
  EntsOk.kset (EntsOk.kset ⟨fun e he=>by
   rcases List.mem_singleton.1 he with rfl
   exact⟨R5,O5',hmf,known_len kc⟩,List.pairwise_singleton ..⟩ _) _
 refine⟨(),rfl,?_⟩
 refine⟨fun z V'=>V.le V'∧∃ (k:Nat) (E:List Ent),z.1=(k:Int)∧k≤l.length∧V' m=some (mapC (entsT 0 (((c,c5,y,f5) :: E).map entV)),(0+(((c,c5,y,f5) :: E).map entV).length,(1,0)))∧EntsOk V V' m ((c,c5,y,f5) :: E)∧E.map entD=(l.take k).filter fun x=>decide (x.1≠c),fun z _=>((l.length:Int)-(z.1:Int)).toNat,
  ⟨((0:Int),()),rfl,kset_le2 l6 hm,0,[],rfl,Nat.zero_le _,kset_same,E1,rfl⟩,?_⟩
 rintro⟨(i:Int),u⟩ V8 ⟨l8,k,E,hk,hkl,hmap,hE,hD⟩
 replace hk:i=(k:Int):=hk
 subst hk
 refine⟨fun hlt=>?_,fun hge=>?_⟩
 ·have hi:k<l.length:=by
   have:(k:Int)<(s.n:Int):=of_decide_eq_true hlt
   omega
  obtain⟨b1,o1,⟨c0,cr⟩,fc,a1,l1,hR,_⟩:=(h.le l8).at hi
  have e0:(k:Int).toNat=k:=by omega
  have ename:c0=l[k].1:=hR.1.1
  subst ename
  have hmm:((l.length:Int)-((k+1:Nat):Int)).toNat<((l.length:Int)-(k:Int)).toNat:=by omega
  have htk:=List.take_succ_eq_append_getElem hi
  dsimp only
  rw [e0]
  refine⟨_,a1,by omega,by omega,(l[k].1,cr),l1,fun hne=>?_,fun heq=>?_⟩
  ·have nc:l[k].1≠c:=fun e=>by
    have h1:(!(l[k].1.toList == c.toList))=true:=hne
    rw [text_eq.2 e] at h1; cases h1
   have htx:=totE_mem rRest hi
   have hts:=rests_tot hl
   refine(kI_ratCopy V8 cr l[k].2 fc hR.2 (by have:l[k].1.size+rRat.tot l[k].2=rRest.tot l[k]:=rfl; omega)).mono ?_
   rintro V9 _ ⟨le9,c9,f9,rfl,R9,O9⟩
   have hm9:=le9 _ _ hmap
   have hmf9:m ∉ f9:=fun hx=>by
    rw [O9.2.1 m hx] at hmap; cases hmap
   have hkeys:∀ p∈((c,c5,y,f5) :: E).map entV,l[k].1≠p.1:=fun p hp=>by
    obtain⟨e,he,rfl⟩:=List.mem_map.1 hp
    rcases List.mem_cons.1 he with rfl | he
    ·exact nc
    ·have q:entD e∈E.map entD:=List.mem_map_of_mem he
     rw [hD] at q
     obtain⟨j,hj,e2⟩:=List.mem_iff_getElem.1 (List.mem_filter.1 q).1
     rw [List.getElem_take] at e2
     have hjk:j<k:=by
      have:=hj
      rw [List.length_take] at this
      omega
     have:l[j].1=e.1:=congrArg Prod.fst e2
     show l[k].1≠e.1
     rw [← this]
     exact(les_ne ((rests_sorted hl).lt hi hjk)).symm
   refine⟨fun _=>le9,c9,rfl,(semx_upText mapR_und str_und hm9 rfl l[k].1 (qv1 c9) hkeys).mono ?_⟩
   rintro V10 _ ⟨rfl,rfl⟩
   have l9:=l8.trans le9
   have hE9:EntsOk V V9 m (((c,c5,y,f5) :: E)++[(l[k].1,c9,l[k].2,f9)]):=⟨fun e he=>by
    rcases List.mem_append.1 he with he | he
    ·exact(hE.le le9).1 e he
    ·rcases List.mem_singleton.1 he with rfl
     exact⟨R9,O9.pre l8,hmf9,hR.1.2⟩,List.pairwise_append.2 ⟨hE.2,List.pairwise_singleton ..,fun a ha b hb=>by
      rcases List.mem_singleton.1 hb with rfl
      refine⟨fun q=>hkeys _ (List.mem_map_of_mem ha) q.symm,fun x hx hx2=>?_⟩
      obtain⟨u,t,q⟩:=(hE.1 a ha).2.1.2.2 x hx
      rw [O9.2.1 x hx2] at q; cases q⟩⟩
   refine⟨(),rfl,_,rfl,(((k+1:Nat):Int),()),by rw [nxt hi (by omega)]; rfl,⟨kset_le2 l9 hm,k+1,E++[(l[k].1,c9,l[k].2,f9)],rfl,hi,?_,EntsOk.kset hE9 _,?_⟩,hmm⟩
   ·have em:List.map entV ((c,c5,y,f5) :: (E++[(l[k].1,c9,l[k].2,f9)]))=List.map entV ((c,c5,y,f5) :: E)++[(l[k].1,qv1 c9)]:=by simp [entV]
    rw [kset_same,em]
   ·rw [List.map_append,hD,htk,List.filter_append,List.filter_cons_of_pos (by simpa using nc)]; rfl
  ·have ec:l[k].1=c:=by
    have h1:(!(l[k].1.toList == c.toList))=false:=heq
    exact text_eq.1 (by simpa using h1)
   refine⟨_,rfl,(((k+1:Nat):Int),()),by rw [nxt hi (by omega)]; rfl,⟨l8,k+1,E,rfl,hi,hmap,hE,?_⟩,hmm⟩
   rw [hD,htk,List.filter_append,List.filter_cons_of_neg (by simp [ec])]; simp
 have hi:k=l.length:=by
  have:¬ (k:Int)<(s.n:Int):=of_decide_eq_false hge
  omega
 subst hi
 rw [List.take_length] at hD
 refine⟨fun _ V'=>V.le V'∧∃ (j clk:Nat) (E:List Ent),V' m=some (mapC (entsT j (E.map entV)),(clk,(1,0)))∧EntsOk V V' m E∧E.map entD=dataD c y l,?_,?_⟩
 ·have R8:=(hE.1 (c,c5,y,f5) (by simp)).1
  obtain⟨sy,sy',gy,gy',ec5,Ay,By,_⟩:=rat_elim R8
  replace ec5:c5=(y.1,sy,sy',()):=ec5
  refine CallX.mono (K:=fun V'' v=>V8.le V''∧v=.int .i64 (sgn (rS y))) ?_ ?_
  ·rw [ec5]
   exact cI_RatSign V8 _ sy sy' _ _ _ _ Ay By yok
  rintro V9 _ ⟨le9,rfl⟩
  have l9:=l8.trans le9
  have hm9:=le9 _ _ hmap
  refine⟨nofun,_,rfl,fun hz=>?_,fun hz=>?_⟩
  ·have hz':zeroQ y=true:=hz
   refine(semx_delText (i:=0) mapR_und str_und hm9 rfl).mono ?_
   rintro V10 _ ⟨rfl,rfl⟩
   refine⟨(),rfl,_,rfl,(),rfl,kset_le2 l9 hm,1,_,E,kset_same,EntsOk.kset ⟨fun e he=>(hE.le le9).1 e (by simp [he]),(List.pairwise_cons.1 hE.2).2⟩ _,?_⟩
   rw [hD,dataD,if_pos hz']; rfl
  ·have hz':zeroQ y=false:=hz
   refine⟨_,rfl,(),rfl,l9,0,_,(c,c5,y,f5) :: E,hm9,hE.le le9,?_⟩
   rw [List.map_cons,hD,dataD,if_neg (by rw [hz']; decide)]; rfl
 ·rintro _ V9 ⟨l9,j,clk,E9,hm9,hE9,hD9⟩
  refine(cI_Curs (hV.le l9)).mono ?_
  rintro V10 _ ⟨le10,b,cp,post,t,hb,hcp,hcur,rfl⟩
  have l10:=l9.trans le10
  have hm10:=le10 _ _ hm9
  have hE10:=hE9.le le10
  refine⟨nofun,⟨some ⟨b,0,none⟩,20,cp⟩,rfl,fun b11 c11 sp hb11 _ hsp=>?_⟩
  refine⟨fun z V'=>∃ (k:Nat) (cs:List (Scs ReSh)) (fps:List Nat),z.2.1=(k:Int)∧k≤20∧GV rRest reT V10 V' z.1 cs ((codesK.take k).filterMap (FOf E9)) fps∧fps.Nodup∧∀ x∈fps,∃ e∈E9,e.1∈codesK.take k∧x∈e.2.2.2,fun z _=>((20:Int)-(z.2.1:Int)).toNat,
   ⟨(⟨some ⟨b11,0,none⟩,0,c11⟩,(0:Int),()),rfl,0,[],[],rfl,Nat.zero_le _,GV.start hb11 (by rw [hsp]; rfl),List.nodup_nil,fun x hx=>by cases hx⟩,?_⟩
  rintro⟨s7,(i:Int),u⟩ V11 ⟨k,cs,fps,hk,hkl,G,nd,hf⟩
  replace hk:i=(k:Int):=hk
  subst hk
  replace G:GV rRest reT V10 V11 s7 cs ((codesK.take k).filterMap (FOf E9)) fps:=G
  have le11:=G.2.2.1
  have hlen:=codes_len
  have hout:((codesK.take k).filterMap (FOf E9)).length≤20:=by
   refine Nat.le_trans (List.length_filterMap_le ..) ?_
   rw [List.length_take]; omega
  refine⟨fun hlt=>?_,fun hge=>?_⟩
  ·have hi:k<codesK.length:=by
    have:(k:Int)<((20:Nat):Int):=of_decide_eq_true hlt
    omega
   have e0:(k:Int).toNat=k:=by omega
   have htk:=List.take_succ_eq_append_getElem hi
   have hmm:((20:Int)-((k+1:Nat):Int)).toNat<((20:Int)-(k:Int)).toNat:=by omega
   have nx:IntKind.i64.wrap ((k:Int)+1)=((k+1:Nat):Int):=nxt hi (by omega)
   dsimp only
   rw [e0]
   refine⟨_,rfl,(by omega:(0:Int)≤(k:Int)),(by omega:(k:Int)<((20:Nat):Int)),codesK[k],str_at (le11 _ _ hcur) hi,?_⟩
   refine(semx_lkText mapR_und str_und (le11 _ _ hm10) rat_zero codesK[k]).mono ?_
   rintro V12 _ ⟨rfl,rfl⟩
   cases hfe:E9.find? fun e=>decide (e.1=codesK[k]) with
   | none =>
    rw [lk_none hfe]
    have hF:FOf E9 codesK[k]=none:=by rw [FOf,hfe]; rfl
    refine⟨(zRat,false,()),rfl,nofun,fun _=>⟨_,rfl,(s7,((k+1:Nat):Int),()),by rw [nx]; rfl,⟨k+1,cs,fps,rfl,by omega,?_,nd,fun x hx=>?_⟩,hmm⟩⟩
    ·rw [htk,List.filterMap_append,List.filterMap_cons_none hF,List.filterMap_nil,List.append_nil]; exact G
    ·obtain⟨e,he,h1,h2⟩:=hf x hx
     exact⟨e,he,by rw [htk]; exact List.mem_append_left _ h1,h2⟩
   | some e =>
    obtain⟨j2,hlk⟩:=lk_some (j:=0) hfe
    rw [hlk]
    have he:=List.mem_of_find?_eq_some hfe
    have hek:e.1=codesK[k]:=by
     have hp:=List.find?_some hfe
     simpa using hp
    have hF:FOf E9 codesK[k]=some (entD e):=by rw [FOf,hfe]; rfl
    obtain⟨Re,Oe,_,ze⟩:=hE10.1 e he
    have rowE:rRest.R V10 ((codesK[k],e.2.1):Scs ReSh) (entD e) e.2.2.2:=⟨⟨hek.symm,ze⟩,Re⟩
    refine⟨(e.2.1,true,()),rfl,fun _=>⟨rfl,rfl,ap_rowV (sh:=ReSh) (c:=(codesK[k],e.2.1)) G rowE (by kernel_rfl) (by omega) (by omega) fun s9 V13 G9=>?_⟩,nofun⟩
    refine⟨_,rfl,(s9,((k+1:Nat):Int),()),by rw [nx]; rfl,⟨k+1,cs++[(codesK[k],e.2.1)],fps++e.2.2.2,rfl,by omega,?_,?_,fun x hx=>?_⟩,hmm⟩
    ·rw [htk,List.filterMap_append,List.filterMap_cons_some hF,List.filterMap_nil]; exact G9
    ·refine List.nodup_append.2 ⟨nd,Oe.1,fun a ha b hb2 hab=>?_⟩
     subst hab
     obtain⟨e2,he2,h1,h2⟩:=hf a ha
     have hne:e2.1≠e.1:=fun q=>by
      rw [hek] at q
      obtain⟨j3,hj3,e3⟩:=List.mem_iff_getElem.1 h1
      rw [List.getElem_take] at e3
      have hjk:j3<k:=by
       have:=hj3
       rw [List.length_take] at this
       omega
      exact les_ne (List.pairwise_iff_getElem.1 codes_up j3 k (by omega) hi hjk) (e3.trans q)
     exact ents_apart hE9.2 he2 he hne a h2 hb2
    ·rcases List.mem_append.1 hx with hx | hx
     ·obtain⟨e2,he2,h1,h2⟩:=hf x hx
      exact⟨e2,he2,by rw [htk]; exact List.mem_append_left _ h1,h2⟩
     ·exact⟨e,he,by rw [htk,hek]; exact List.mem_append_right _ (List.mem_singleton.2 rfl),hx⟩
  ·have hi:k=20:=by
    have:¬ (k:Int)<((20:Nat):Int):=of_decide_eq_false hge
    omega
   subst hi
   have hall:codesK.take 20=codesK:=List.take_of_length_le (by omega)
   rw [hall,pick_addR hl kc (fOf_cur hD9) (fun k hk=>fOf_else hD9 hk)] at G
   have hOwn:Own V V10 fps:=⟨nd,fun x hx=>by
    obtain⟨e,he,_,h2⟩:=hf x hx
    exact(hE10.1 e he).2.1.2.1 x h2,fun x hx=>by
    obtain⟨e,he,_,h2⟩:=hf x hx
    exact(hE10.1 e he).2.1.2.2 x h2⟩
   obtain⟨ff,hL,hO⟩:=G.own (by have:=rests_len (addR_ok (y:=y) hl kc yok); omega) l10 hOwn
   exact⟨l10.trans le11,s7,_,ff,true,rfl,hL,hO,.inl ⟨rfl,y,hy,rfl⟩⟩
end Go.Proofs.YtceoihhldnnenaaGreatDoor
namespace Go.Proofs.YtceoihhldnnenaaGreatDoor
open Sx
set_option maxRecDepth 100000
theorem rnd_scale {m:Int} {neg:Bool} {n d g:Int} (hg:0<g):rndN m neg (g*n) (g*d)=rndN m neg n d:=by
 have e1:g*n / (g*d)=n / d:=Int.mul_ediv_mul_of_pos n d hg
 have e2:g*n % (g*d)=g*(n % d):=Int.mul_emod_mul_of_pos n d hg
 have hs:∀ z:Int,sgn (g*z)=sgn z:=fun z=>by
  unfold sgn
  rcases Int.lt_trichotomy z 0 with h | h | h
  ·have:g*z<0:=Int.mul_neg_of_pos_of_neg hg h
   rw [if_pos h,if_pos this]
  ·subst h; simp
  ·have:0<g*z:=Int.mul_pos hg h
   rw [if_neg (by omega),if_neg (by omega),if_neg (by omega),if_neg (by omega)]
 have e3:sgn (g*n % (g*d)+g*n % (g*d)-g*d)=sgn (n % d+n % d-d):=by
  rw [e2,← Int.mul_add,← Int.mul_sub,hs]
 have e4:0<g*n % (g*d)↔0<n % d:=by
  rw [e2]
  refine⟨fun h=>?_,fun h=>Int.mul_pos hg h⟩
  exact Int.lt_of_mul_lt_mul_left (by rwa [Int.mul_zero]) (Int.le_of_lt hg)
 by_cases k:upN m neg n d
 ·rw [rnd_up k,rnd_up (n:=g*n) (d:=g*d),e1]
  exact⟨e4.2 k.1,by rw [e3,e1]; exact k.2⟩
 ·rw [rnd_down k,rnd_down (n:=g*n) (d:=g*d),e1]
  rintro⟨a,b⟩
  rw [e3,e1] at b
  exact k ⟨e4.1 a,b⟩
theorem red_rnd {c:Bool} {n:List Lim} {k:Int} {w:DRat} (hn:IntOkP c n) (hk:0<k) (h:RedS (sval c n) k w true) (m:Int):w.1=c∧rndN m w.1 (valN w.2.1) (valN w.2.2.1)=rndN m c (valN n) k:=by
 have n0:=valN_nonneg hn.1.1.1
 obtain⟨p,q,h1,h2⟩:=h
 rcases h2 with ⟨_,_,_,rfl⟩ | ⟨_,c,_⟩
 ·obtain⟨c1,c2,v1,v2⟩:=h1
  have hw:decide (sval c n<0)=c:=by
   cases c with
   | false =>
    refine decide_eq_false ?_
    show ¬ valN n<0
    omega
   | true =>
    have:=(can_pos hn.1.1).1 (hn.2 rfl)
    refine decide_eq_true ?_
    show -valN n<0
    omega
  have ha:((sval c n).natAbs:Int)=valN n:=sval_abs hn.1.1.1
  rw [ha] at v1 v2
  have hg:0<(Int.gcd (valN n) k:Int):=by
   have:0<Int.gcd (valN n) k:=Int.gcd_pos_of_ne_zero_right _ (by omega)
   omega
  refine⟨hw,?_⟩
  show rndN m (decide (sval c n<0)) (valN p) (valN q)=_
  rw [hw,← rnd_scale (n:=valN p) (d:=valN q) hg,Int.mul_comm _ (valN p),Int.mul_comm _ (valN q),v1,v2]
 ·cases c
end Go.Proofs.YtceoihhldnnenaaGreatDoor
namespace Go.Proofs.YtceoihhldnnenaaGreatDoor
open Sx
set_option maxRecDepth 100000
theorem pS_CurCash {V:Know} (_:HcS V) (x:ByteArray):CallX Tryz.prog V 43 [.string x] (fun V' r=>V.le V'∧r=.int .i64 (cashOf x)):=by
 refine CallX.of_fits Tryz.mix (fS_CurCash _) fun _=>?_
 simp only [tS_CurCash,T.wp]
 refine(cS_l08Find V x).mono ?_
 rintro V1 _ ⟨le1,rfl⟩
 exact⟨nofun,curRowOf x,rfl,le1,rfl⟩
theorem pI_CurCash {V:Know} (hV:HcI V) (x:ByteArray):CallX Tryz.prog V 244 [.string x] (fun V' r=>V.le V'∧r=.int .i64 (cashOf x)):=by
 refine CallX.of_fits Tryz.mix (fI_CurCash _) fun _=>?_
 simp only [tI_CurCash,T.wp]
 refine(cI_currencyOf hV x).mono ?_
 rintro V1 _ ⟨rfl,rfl⟩
 exact⟨nofun,(curRowOf x,known x,()),rfl,Know.le.refl _,rfl⟩
abbrev RtoPost (V:Know) (m:Int) (c:Bool) (n:List Lim) (k:Int):Know→Value→Prop:=fun V' r=>V.le V'∧∃ e t o g,r=.tuple #[qv0 (e,t,()),.bool true]∧LR rI V' t o g∧Own V V' g∧IntOkP e o∧sval e o=stepV c n m k∧o.length≤10
theorem step_fin {c:Bool} {q o:List Lim} {z k:Int} (hq:Can q) (ho:Can o) (l:o.length≤50) (vq:valN q=z) (vo:valN o=valN q*k):IntOkP ((c && decide (0<q.length)) && decide (0<o.length)) o∧sval ((c && decide (0<q.length)) && decide (0<o.length)) o=sv c (z*k):=by
 obtain⟨h1,h2⟩:=made_ok (q:=c && decide (0<q.length)) ho l
 refine⟨h1,h2.trans ?_⟩
 have e:valN o=z*k:=by rw [vo,vq]
 by_cases hz:0<q.length
 ·rw [decide_eq_true hz,Bool.and_true]; exact sv_sval e
 ·rw [decide_eq_false hz,Bool.and_false]
  have h0:=valN_nonneg hq.1
  have:¬ 0<valN q:=fun k=>hz ((can_pos hq).2 k)
  have z0:z=0:=by omega
  subst z0
  rw [Int.zero_mul] at e ⊢
  unfold sval sv
  rw [e]; cases c <;> rfl
theorem rnd_lenN {m:Int} {c:Bool} {n q:List Lim} {k:Int} (hn:Can n) (hq:Can q) (hk:0<k) (h:valN q=rndN m c (valN n) k):q.length≤n.length :=
 can_len hn hq (by rw [h]; exact rnd_le (valN_nonneg hn.1) hk)
theorem cI_RoundTo (V:Know) (c:Bool) (s:SlV) (n:List Lim) (f:List Nat) (h:LR rI V s n f) (ok:IntOkP c n) (l4:n.length≤4) (k:Int) (k1:1≤k) (k2:k≤1000000) (m:Int) (hm:RmP m) :
  CallX Tryz.prog V 243 [qv0 (c,s,()),.int .i64 k,.int .i64 m] (RtoPost V m c n k):=by
 refine CallX.of_fits Tryz.mix (fI_RoundTo _ _ _) fun _=>?_
 have hn:=h.1
 simp only [tI_RoundTo,T.wp]
 refine(cI_IntOk V c s n f h).mono ?_
 rintro V1 _ ⟨rfl,e1,rfl,he1⟩
 obtain rfl:e1=true:=he1.2 ok
 refine⟨nofun,true,rfl,nofun,fun _=>⟨fun hb=>?_,fun _=>⟨fun hb=>?_,fun _=>⟨fun hb=>?_,fun _=>(rI_isMode V1 m).mono ?_⟩⟩⟩⟩
 ·have:(s.n:Int) > 18:=of_decide_eq_true hb
  omega
 ·have:k<1:=of_decide_eq_true hb
  omega
 ·have:k > 1000000:=of_decide_eq_true hb
  omega
 rintro V2 _ ⟨rfl,rfl⟩
 refine⟨nofun,_,rfl,fun hb=>?_,fun _=>(cI_NatOf V2 k ⟨by omega,by omega⟩).mono ?_⟩
 ·rw [decide_eq_true (show 0≤m∧m≤6 from hm)] at hb; cases hb
 rintro V3 _ ⟨le3,s3,o3,f3,rfl,L3,_,C3,v3,n3⟩
 have p3:0<o3.length:=(can_pos C3).2 (by omega)
 refine⟨nofun,s3,rfl,(cI_roundQuotient V3 c s s3 n o3 f f3 (h.le le3) L3 ok.1.1 C3 (by omega) p3 m hm).mono ?_⟩
 rintro V4 _ ⟨le4,e4,q,s4,f4,rfl,L4,_,C4,v4,ee⟩
 subst ee
 rw [v3] at v4
 have n4:=rnd_lenN ok.1.1 C4 (by omega) v4
 refine⟨nofun,_,rfl,(cI_natMul V4 s4 s3 q o3 f4 f3 L4 (L3.le le4) C4.1 C3.1 (by omega) (by omega)).mono ?_⟩
 rintro V5 _ ⟨le5,s5,o,bk,rfl,N5,hb5,C5,v5,_⟩
 have n5:=mul_len C3 C5 C4.1 v5
 have L5:=N5.lr
 have e5:=L5.1
 refine⟨fun _=>le5,s5,rfl,(cI_signed V5 _ s5).mono ?_⟩
 rintro V6 _ ⟨rfl,rfl⟩
 have l5:=(le3.trans le4).trans le5
 rw [v3] at v5
 obtain⟨w1,w2⟩:=step_fin (c:=c) C4 C5 (by omega) v4 v5
 refine⟨nofun,_,rfl,l5,_,s5,o,[bk],rfl,L5,⟨by simp,fun b hb=>?_,fun b hb=>?_⟩,?_,?_,by omega⟩
 ·rcases List.mem_singleton.1 hb with rfl
  exact none_of_le (le3.trans le4) hb5
 ·rcases List.mem_singleton.1 hb with rfl
  obtain⟨sp,_,q,_⟩:=N5
  exact⟨_,_,q⟩
 ·rw [show decide ((s5.n:Int) > 0)=decide (0<o.length) from decide_eq_decide.2 (by omega)]; exact w1
 ·rw [show decide ((s5.n:Int) > 0)=decide (0<o.length) from decide_eq_decide.2 (by omega)]; exact w2
theorem cS_IntOfP (V:Know) (k:Int) (k1:1≤k) (k2:k≤1000000):CallX Tryz.prog V 86 [.int .i64 k] (fun V' r=>V.le V'∧∃ s o f,r=qv0 (false,s,())∧LR rI V' s o f∧Can o∧valN o=k∧o.length≤3):=by
 refine CallX.of_fits Tryz.mix (fS_IntOf _) fun _=>?_
 simp only [tS_IntOf,T.wp]
 refine⟨fun hb=>?_,fun _=>⟨fun hb=>?_,fun _=>(cS_NatOf V k ⟨by omega,by omega⟩).mono ?_⟩⟩
 ·have:k=-9223372036854775808:=by simpa using hb
  omega
 ·have:k<0:=of_decide_eq_true hb
  omega
 rintro V1 _ ⟨le1,s1,o1,f1,rfl,L1,_,C1,v1,n1⟩
 refine⟨nofun,s1,rfl,(cS_l04Make V1 false s1 o1 f1 L1 C1 (by omega)).mono ?_⟩
 rintro V2 _ ⟨le2,s2,f2,rfl,L2,_⟩
 exact⟨nofun,_,rfl,le1.trans le2,s2,o1,f2,rfl,L2,C1,v1,n1⟩
theorem cS_RoundTo (V:Know) (c:Bool) (s:SlV) (n:List Lim) (f:List Nat) (h:LR rI V s n f) (ok:IntOkP c n) (l4:n.length≤4) (k:Int) (k1:1≤k) (k2:k≤1000000) (m:Int) (hm:RmP m) :
  CallX Tryz.prog V 42 [qv0 (c,s,()),.int .i64 k,.int .i64 m] (RtoPost V m c n k):=by
 refine CallX.of_fits Tryz.mix (fS_RoundTo _ _ _) fun _=>?_
 have hn:=h.1
 simp only [tS_RoundTo,T.wp]
 refine(cS_IntOk V c s n f h).mono ?_
 rintro V1 _ ⟨rfl,e1,rfl,he1⟩
 obtain rfl:e1=true:=he1.2 ok
 refine⟨nofun,true,rfl,nofun,fun _=>(cS_l01In V1 k 1 1000000).mono ?_⟩
 rintro V2 _ ⟨rfl,rfl⟩
 refine⟨nofun,_,rfl,fun hb=>?_,fun _=>(rS_l06Mode V2 m).mono ?_⟩
 ·rw [decide_eq_true (show 1≤k∧k≤1000000 from⟨k1,k2⟩)] at hb; cases hb
 rintro V3 _ ⟨rfl,rfl⟩
 refine⟨nofun,_,rfl,fun hb=>?_,fun _=>(cS_IntOfP V3 k k1 k2).mono ?_⟩
 ·rw [decide_eq_true (show 0≤m∧m≤6 from hm)] at hb; cases hb
 rintro V4 _ ⟨le4,s4,o4,f4,rfl,L4,C4,v4,n4⟩
 have ok4:IntOkP false o4:=⟨⟨C4,by omega⟩,nofun⟩
 have hmk:CallX Tryz.prog V4 85 [qv0 (c,s,()),qv0 (false,s4,())] (RatPost V4 (sval c n) k):=by
  refine CallX.of_fits Tryz.mix (fS_RatMake _ _) fun _=>?_
  simp only [tS_RatMake,T.wp]
  refine(cS_IntOk V4 c s n f (h.le le4)).mono ?_
  rintro V5 _ ⟨rfl,e5,rfl,he5⟩
  obtain rfl:e5=true:=he5.2 ok
  refine⟨nofun,true,rfl,nofun,fun _=>(cS_IntOk V5 false s4 o4 f4 L4).mono ?_⟩
  rintro V6 _ ⟨rfl,e6,rfl,he6⟩
  obtain rfl:e6=true:=he6.2 ok4
  refine⟨nofun,true,rfl,nofun,fun _=>?_⟩
  rw [show(!c == false)=c by cases c <;> rfl]
  refine(cS_l05Low V6 c s s4 n o4 f f4 (h.le le4) L4 ok.1.1 C4 (by omega) (by omega) (by omega)).mono ?_
  rintro V7 _ ⟨le7,c7,x7,e7,f7,rfl,R7,O7,hx⟩
  rw [v4] at hx
  exact⟨nofun,(c7,e7,()),rfl,le7,c7,x7,e7,f7,rfl,R7,O7,hx⟩
 refine⟨fun _=>le4,_,rfl,hmk.mono ?_⟩
 rintro V5 _ ⟨le5,c5,x5,e5,f5,rfl,R5,O5,hx⟩
 obtain rfl:e5=true:=redS_small hx ok.1.1 C4 (sval_abs ok.1.1.1) v4.symm (by omega) (by omega) (by omega)
 have xok:=redS_ok (show 0<k by omega) hx rfl
 obtain⟨r1,r2⟩:=red_rnd ok (show 0<k by omega) hx m
 obtain⟨sx,sx',gx,gx',rfl,Ax,Bx,_⟩:=rat_elim R5
 have z1:=xok.2.2.2.1
 have z2:=xok.2.2.2.2.1
 refine⟨nofun,(_,true,()),rfl,nofun,fun _=>⟨fun hb=>?_,fun _=>(cS_l06Round V5 _ sx sx' _ _ _ _ Ax Bx xok.1.1.1 xok.2.1.1 (by omega) xok.2.2.1 (by omega) m hm).mono ?_⟩⟩
 ·have:(s.n:Int) > 18:=of_decide_eq_true hb
  omega
 rintro V6 _ ⟨le6,e6,q,s6,f6,rfl,L6,_,C6,v6,ee⟩
 rw [r2] at v6
 rw [r1] at ee
 subst ee
 have n6:=rnd_lenN ok.1.1 C6 (show 0<k by omega) v6
 have okq:IntOkP (c && decide (0<q.length)) q:=(made_ok C6 (by omega)).1
 refine⟨nofun,_,rfl,(cS_IntOfP V6 k k1 k2).mono ?_⟩
 rintro V7 _ ⟨le7,s7,o7,f7,rfl,L7,C7,v7,n7⟩
 refine⟨nofun,_,rfl,(cS_IntMul V7 _ s6 false s7 q o7 f6 f7 (L6.le le7) L7 okq ⟨⟨C7,by omega⟩,nofun⟩ (by omega)).mono ?_⟩
 rintro V8 _ ⟨le8,s8,o,f8,rfl,L8,O8,C8,v8⟩
 have n8:=mul_len C7 C8 C6.1 v8
 rw [v7] at v8
 obtain⟨w1,w2⟩:=step_fin (c:=c) C6 C8 (by omega) v6 v8
 have l7:=((le4.trans le5).trans le6).trans le7
 refine⟨nofun,_,rfl,l7.trans le8,_,s8,o,f8,rfl,L8,O8.pre l7,?_,?_,by omega⟩
 ·rw [Bool.bne_false]; exact w1
 ·rw [Bool.bne_false]; exact w2
end Go.Proofs.YtceoihhldnnenaaGreatDoor
