/-
  Loops over lists of texts: two compared, one measured, one copied.
-/
import Derived.Test.YtagkjnpggkmehaaGreatDoorBkM
import Derived.Test.YtagkjnpggkmehaaGreatDoorTotB
import Derived.Test.YtagkjnpggkmehaaGreatDoorWr
import Derived.Test.YtagkjnpggkmehaaGreatDoorPut
import Derived.Test.YtagkjnpggkmehaaGreatDoorTxt
import Derived.Test.YtagkjnpggkmehaaGreatDoorRead
namespace Go.Proofs.YtagkjnpggkmehaaGreatDoor
open Sx
set_option maxRecDepth 100000
theorem lrNil {sh:List Sc} {α:Type} {r:Rp sh α} {V:Know}:LR r V ⟨none,0,0⟩ [] []:=⟨rfl,Nat.le_refl _,by decide,.inl ⟨rfl,fun _=>rfl,rfl⟩⟩
theorem kset_le2 {V V':Know} {b:Nat} {y:List Value × KTy} (h:V.le V') (hb:V b=none):V.le (kset V' b y):=fun k z hk=>by
 rw [kset_other (fun e=>by rw [e,hb] at hk; cases hk)]
 exact h k z hk
section
variable {sh:List Sc} {α:Type}
def GV (r:Rp sh α) (t:TypeId) (V0 V:Know) (s:SlV) (cs:List (Scs sh)) (l:List α) (fps:List Nat):Prop :=
 s.n=l.length∧s.n≤s.c∧V0.le V∧Els r V0 cs l fps∧∃ b post,s.a=some ⟨b,0,none⟩∧V0 b=none∧V b=some (cs.flatMap (Scs.vals sh)++post,(t,(0,0)))∧post.length=(s.c-s.n)*sh.length
theorem GV.start {r:Rp sh α} {t:TypeId} {V:Know} {b cap:Nat} {spare:List Value} (hb:V b=none) (hs:spare.length=cap*sh.length) :
  GV r t V (kset V b ([]++spare,(t,(0,0)))) ⟨some ⟨b,0,none⟩,0,cap⟩ [] [] [] :=
 ⟨rfl,Nat.zero_le _,kset_le hb,rfl,b,spare,rfl,hb,by rw [kset_same]; rfl,by simpa using hs⟩
theorem GV.lr {r:Rp sh α} {t:TypeId} {V0 V:Know} {s:SlV} {cs:List (Scs sh)} {l:List α} {fps:List Nat} (h:GV r t V0 V s cs l fps) (hl:l.length≤9223372036854775807):∃ b,V0 b=none∧(∃ c u,V b=some (c,(u,(0,0))))∧LR r V s l (b :: fps):=by
 obtain⟨h1,h2,h3,h4,b,post,ha,hb,hv,hp⟩:=h
 exact⟨b,hb,⟨_,_,hv⟩,h1,h2,by omega,.inr ⟨b,[],post,_,fps,cs,ha,hv,h4.le h3,rfl⟩⟩
theorem ap_rowV {P:Program} {r:Rp sh α} {t:TypeId} {V0 V Vd:Know} {s:SlV} {cs:List (Scs sh)} {l:List α} {fps fx:List Nat} {c:Scs sh} {x:α} {bytes:Nat} {k:SlV→T} {K:Know→List Value→Prop} {Ns:List (List LV→Know→Prop)}
  (h:GV r t V0 V s cs l fps) (hx:r.R V0 c x fx) (hP:P.cellsOf t=sh.length) (hb:(l.length+1)*bytes≤140737488355328) (hl:l.length+1≤9223372036854775807)
  (hk:∀ s' V',GV r t V0 V' s' (cs++[c]) (l++[x]) (fps++fx)→(k s').wp P K V' Vd Ns) :
  (T.ap s sh.length bytes (Scs.vals sh c) 1 t k).wp P K V Vd Ns:=by
 obtain⟨h1,h2,h3,he,b,post,ha,hb0,hbk,hp⟩:=h
 have hcl:cs.length=l.length:=he.len
 have hfl:(cs.flatMap (Scs.vals sh)).length=s.n*sh.length:=by rw [flat_len,hcl,h1]
 have hE:=he.snoc hx
 simp only [T.wp]
 refine⟨h2,(fun hn=>by rw [ha] at hn; cases hn),fun h=>absurd h (by decide),fun _ hroom=>?_,fun _ hroom=>⟨by rw [h1]; exact hb,by rw [h1]; exact hl,?_⟩⟩
 ·have hpl:sh.length≤post.length:=by
   rw [hp]; exact Nat.le_mul_of_pos_left _ (by omega)
  have hset:setl (cs.flatMap (Scs.vals sh)++post) (s.n*sh.length) (Scs.vals sh c)=(cs++[c]).flatMap (Scs.vals sh)++post.drop sh.length:=by
   rw [setl_mid hfl.symm (by rw [vals_len]; exact hpl),vals_len]
   simp
  refine⟨b,_,ha,hbk,?_,?_⟩
  ·rw [List.length_append,hfl,hp,← Nat.add_mul]
   exact Nat.mul_le_mul_right _ (by omega)
  ·rw [hset]
   refine hk _ _ ⟨by simp [h1],by show s.n+1≤s.c; omega,kset_le2 h3 hb0,hE,b,post.drop sh.length,ha,hb0,kset_same,?_⟩
   rw [List.length_drop,hp,← Nat.sub_one_mul]
   congr 1
 ·have hnt:∀ cs:List (Scs sh),noTup (cs.flatMap (Scs.vals sh))=true:=fun cs=>by
   induction cs with
   | nil=>rfl
   | cons c cs ih =>
    have hv:=vals_noTup sh c
    unfold noTup at ih hv ⊢
    rw [List.flatMap_cons,List.all_append,hv,ih]; rfl
  refine⟨_,.inr ⟨⟨b,0,none⟩,ha,?_⟩,hnt cs,fun b' cap spare hbn hcap hsp=>?_⟩
  ·simp only [loadV,hbk]
   rw [← hfl]; exact cutv_head
  ·refine hk _ _ ⟨by simp [h1],hcap,h3.trans (kset_le hbn),hE,b',spare,rfl,none_of_le h3 hbn,?_,by rw [hsp,hP]⟩
   rw [kset_same]; simp
end
theorem GV.le {sh:List Sc} {α:Type} {r:Rp sh α} {t:TypeId} {V0 V V':Know} {s:SlV} {cs:List (Scs sh)} {l:List α} {fps:List Nat} (h:GV r t V0 V s cs l fps) (le:V.le V'):GV r t V0 V' s cs l fps:=by
 obtain⟨h1,h2,h3,h4,b,post,ha,hb,hv,hp⟩:=h
 exact⟨h1,h2,h3.trans le,h4,b,post,ha,hb,le _ _ hv,hp⟩
theorem restOf_at {c:ByteArray}:∀ {l:List DRest},restOf l c=atR l c
 | []=>rfl
 | r :: l=>by
  unfold restOf atR
  by_cases e:r.1=c
  ·rw [if_pos e,List.find?_cons_of_pos (by simp [keyB,e])]; rfl
  ·rw [if_neg e,List.find?_cons_of_neg (by simp [keyB,e]),restOf_at]; rfl
def KeepQ (l:List DRest) (c:ByteArray) (r:DRat) (l':List DRest) (e:Bool):Prop :=
 (e=true∧∃ y,AddRP (atR l c) r (y,true)∧l'=addR c y l)∨(e=false∧l'=[]∧∃ y,AddRP (atR l c) r (y,false))
abbrev ReSh:List Sc:=[.s,.b,.l,.l]
abbrev reT:TypeId:=40
theorem fr_app {V:Know} {a b:List Nat} (h:∀ y∈a,V y=none) (k:∀ y∈b,V y=none):∀ y∈a++b,V y=none:=fun y hy=>(List.mem_append.1 hy).elim (h y) (k y)
abbrev RaF (V:Know) (l:List DRest) (c:ByteArray) (r:DRat):Know→Value→Prop:=fun V' v=>V.le V'∧∃ t l' f e,v=.tuple #[Sc.val .l t,.bool e]∧LR rRest V' t l' f∧(∀ y∈f,V y=none)∧KeepQ l c r l' e
theorem cS_RestAdd {V:Know} (hV:HcS V) (s:SlV) (l:List DRest) (f:List Nat) (h:LR rRest V s l f) (hl:RestsOkP l) (c:ByteArray) (kc:known c=true) (d:Scs [.b,.l,.l]) (r:DRat) (g:List Nat) (hr:rRat.R V d r g) (ok:RatP r) :
  CallX Tryz.prog V 98 [Sc.val .l s,.string c,qv0 d] (RaF V l c r):=by
 refine CallX.of_fits Tryz.mix (fS_RestAdd _ _ _) fun _=>?_
 have h20:=rests_len hl
 simp only [tS_RestAdd,ap_d,T.wp]
 refine(cS_RestOf V s l f h (rests_rat hl) c).mono ?_
 rintro V1 _ ⟨le1,c1,f1,rfl,R1⟩
 rw [restOf_at] at R1
 refine⟨fun _=>le1,c1,rfl,?_⟩
 obtain⟨s1,s1',g1,g1',rfl,A1,B1,_⟩:=rat_elim R1
 obtain⟨s2,s2',g2,g2',rfl,A2,B2,_⟩:=rat_elim hr
 refine(cS_RatAdd V1 _ s1 s1' _ s2 s2' _ _ _ _ _ _ _ _ A1 B1 (A2.le le1) (B2.le le1) (atR_ok hl c) ok).mono ?_
 rintro V2 _ ⟨le2,c2,y,e,f2,rfl,R2,O2,hy⟩
 have l2:=le1.trans le2
 refine⟨nofun,(c2,e,()),rfl,(cS_RestsOk (hV.le l2) s l f (h.le l2)).mono ?_⟩
 rintro V3 _ ⟨le3,e3,rfl,he3⟩
 obtain rfl:e3=true:=he3.2 hl
 have l3:=l2.trans le3
 refine⟨nofun,true,rfl,nofun,fun _=>(kS_CurKnown (hV.le l3) c).mono ?_⟩
 rintro V4 _ ⟨le4,rfl⟩
 have l4:=l3.trans le4
 refine⟨nofun,_,rfl,fun hf=>?_,fun _=>⟨fun hf=>?_,fun ht=>?_⟩⟩
 ·rw [kc] at hf; cases hf
 ·obtain rfl:e=false:=by simpa using hf
  exact⟨l4,⟨none,0,0⟩,[],[],false,rfl,lrNil,(fun _ h=>by cases h),.inr ⟨rfl,rfl,y,hy⟩⟩
 obtain rfl:e=true:=by simpa using ht
 have yok:=redS_ok (Int.mul_pos (ratP_pos (atR_ok hl c)) (ratP_pos ok)) hy rfl
 refine(kS_l19Copy V4 s l f (h.le l4) (by have:=rests_tot hl; omega)).mono ?_
 rintro V5 _ ⟨le5,s5,f5,rfl,L5,O5⟩
 have l5:=l4.trans le5
 have R5:=rRat.le R2 ((le3.trans le4).trans le5)
 have n5:=L5.1
 have fr2:∀ y∈f2,V y=none:=fun y hy=>none_of_le le1 (O2.2.1 y hy)
 have fr5:∀ y∈f5,V y=none:=fun y hy=>none_of_le l4 (O5.2.1 y hy)
 have rowC:rRest.R V5 ((c,c2):Scs ReSh) (c,y) f2:=⟨⟨rfl,known_len kc⟩,R5⟩
 obtain⟨sy,sy',gy,gy',rfl,Ay,By,_⟩:=rat_elim R5
 refine⟨nofun,s5,rfl,fun b6 c6 sp hb6 _ hsp=>?_⟩
 refine⟨fun z V'=>∃ (k:Nat) (cs:List (Scs ReSh)) (out:List DRest) (fps:List Nat),z.2.2.1=(k:Int)∧k≤l.length∧GV rRest reT V5 V' z.1 cs out fps∧(∀ y∈fps,V y=none)∧out.length≤2*k∧endR c y out z.2.1 (l.drop k)=addR c y l,fun z _=>((l.length:Int)-(z.2.2.1:Int)).toNat,
  ⟨(⟨some ⟨b6,0,none⟩,0,c6⟩,false,(0:Int),()),rfl,0,[],[],[],rfl,Nat.zero_le _,GV.start hb6 (by rw [hsp]; rfl),(fun _ h=>by cases h),Nat.zero_le _,by rw [List.drop_zero,endR_eq (up_rests hl)]; rfl⟩,?_⟩
 rintro⟨s7,(dn:Bool),(i:Int),u⟩ V6 ⟨k,cs,out,fps,hk,hkl,G,hfr,ho,hE⟩
 replace hk:i=(k:Int):=hk
 subst hk
 replace G:GV rRest reT V5 V6 s7 cs out fps:=G
 replace hE:endR c y out dn (l.drop k)=addR c y l:=hE
 have le6:=G.2.2.1
 have sgC:∀ V',V5.le V'→CallX Tryz.prog V' 91 [qv0 (y.1,sy,sy',())] (fun V'' v=>V'.le V''∧v=.int .i64 (sgn (rS y))):=fun V' le'=>cS_RatSign V' _ sy sy' _ _ _ _ (Ay.le le') (By.le le') yok
 refine⟨fun hlt=>?_,fun hge=>?_⟩
 ·have hi:k<l.length:=by
   have:(k:Int)<(s5.n:Int):=of_decide_eq_true hlt
   omega
  obtain⟨b1,o1,c1,fc,a1,l1,hR,hfc⟩:=L5.at hi
  have e0:(k:Int).toNat=k:=by omega
  have ename:c1.1=l[k].1:=hR.1.1
  rw [List.drop_eq_getElem_cons hi] at hE
  have hm:((l.length:Int)-((k+1:Nat):Int)).toNat<((l.length:Int)-(k:Int)).toNat:=by omega
  dsimp only
  rw [e0]
  refine⟨_,a1,by omega,by omega,c1,loadV_le le6 l1,fun he=>?_,fun he=>?_⟩
  ·have ec:l[k].1=c:=ename.symm.trans (text_eq.1 he)
   rw [endR,if_pos ec] at hE
   exact⟨_,rfl,(s7,dn,((k+1:Nat):Int),()),by rw [nxt hi (by omega)]; rfl,⟨k+1,cs,out,fps,rfl,hi,G,hfr,by omega,hE⟩,hm⟩
  have nc:l[k].1≠c:=fun e=>by
   have:=text_eq.2 (ename.trans e)
   rw [this] at he; cases he
  rw [endR,if_neg nc] at hE
  refine⟨fun z V'=>∃ cs out fps,GV rRest reT V5 V' z.1 cs out fps∧(∀ y∈fps,V y=none)∧out.length≤2*k+1∧endR c y (out++[l[k]]) z.2.1 (l.drop (k+1))=addR c y l,?_,?_⟩
  ·have stay:∀ V',V6.le V'→(!dn && lesB c l[k].1 && !zeroQ y)≠true→∃ z:LShs [.o (.o .l),.o (.o .b)],[LV.v (Sc.val .l s7),.v (.bool dn)]=LShs.lvs _ z∧∃ cs out fps,GV rRest reT V5 V' z.1 cs out fps∧(∀ y∈fps,V y=none)∧out.length≤2*k+1∧endR c y (out++[l[k]]) z.2.1 (l.drop (k+1))=addR c y l:=fun V' le' hn=>by
    rw [if_neg hn] at hE
    exact⟨(s7,dn,()),rfl,cs,out,fps,G.le le',hfr,by omega,hE⟩
   refine⟨fun hd=>⟨fun hb=>(sgC V6 le6).mono ?_,fun hb=>⟨_,rfl,stay V6 (Know.le.refl _) fun k2=>?_⟩⟩,fun hd=>⟨_,rfl,stay V6 (Know.le.refl _) fun k2=>?_⟩⟩
   ·rintro V7 _ ⟨le7,rfl⟩
    refine⟨nofun,_,rfl,fun hz=>?_,fun hz=>⟨_,rfl,stay V7 le7 fun k2=>?_⟩⟩
    ·have hd':dn=false:=by simpa using hd
     have hb':lesB c l[k].1=true:=by
      rw [ename] at hb
      have h2:lesB l[k].1 c=false∧(l[k].1.toList == c.toList)=false:=by simpa [lesB] using hb
      exact LessP.tot (fun q=>by rw [show lesB l[k].1 c=true from q] at h2; cases h2.1) fun q=>by rw [text_eq.2 q] at h2; cases h2.2
     have hz':zeroQ y=false:=by simpa [zeroQ,bne] using hz
     subst hd'
     rw [if_pos (by rw [hb',hz']; rfl)] at hE
     refine⟨rfl,rfl,ap_rowV (sh:=ReSh) (c:=(c,(y.1,sy,sy',()))) (G.le le7) rowC (by kernel_rfl) (by omega) (by omega) fun s9 V9 G9=>⟨_,rfl,(s9,true,()),rfl,_,_,_,G9,fr_app hfr fr2,by rw [List.length_append,List.length_singleton]; omega,hE⟩⟩
    ·have hz':zeroQ y=true:=by simpa [zeroQ,bne] using hz
     rw [hz'] at k2; simp at k2
   ·rw [ename] at hb
    have k3:lesB c l[k].1=true:=by
     simp only [Bool.and_eq_true] at k2
     exact k2.1.2
    have h2:lesB l[k].1 c=false:=les_no k3
    have h3:(l[k].1.toList == c.toList)=false:=text_ne.2 nc
    rw [show Op.bytesLess l[k].1.toList c.toList=false from h2,h3] at hb
    cases hb
   ·have hd':dn=true:=by simpa using hd
    rw [hd'] at k2; simp at k2
  ·rintro⟨s8,(d8:Bool),u⟩ V7 ⟨cs8,out8,fps8,G8,hfr8,ho8,hE8⟩
   refine⟨rfl,rfl,ap_rowV (sh:=ReSh) (c:=c1) G8 hR (by kernel_rfl) (by omega) (by omega) fun s9 V9 G9=>?_⟩
   exact⟨_,rfl,(s9,d8,((k+1:Nat):Int),()),by rw [nxt hi (by omega)]; rfl,⟨k+1,_,_,_,rfl,hi,G9,fr_app hfr8 (fun y hy=>fr5 y (hfc y hy)),by rw [List.length_append,List.length_singleton]; omega,hE8⟩,hm⟩
 ·have hi:k=l.length:=by
   have:¬ (k:Int)<(s5.n:Int):=of_decide_eq_false hge
   omega
  subst hi
  rw [List.drop_length,endR] at hE
  refine⟨fun z V'=>∃ cs fps,GV rRest reT V5 V' z.1 cs (addR c y l) fps∧∀ y∈fps,V y=none,?_,?_⟩
  ·have stay:∀ V',V6.le V'→(!dn && !zeroQ y)≠true→∃ z:LShs [.o (.o .l)],[LV.v (Sc.val .l s7)]=LShs.lvs _ z∧∃ cs fps,GV rRest reT V5 V' z.1 cs (addR c y l) fps∧∀ y∈fps,V y=none:=fun V' le' hn=>by
    rw [if_neg hn] at hE
    subst hE
    exact⟨(s7,()),rfl,cs,fps,G.le le',hfr⟩
   refine⟨fun hd=>(sgC V6 le6).mono ?_,fun hd=>⟨_,rfl,stay V6 (Know.le.refl _) fun k2=>?_⟩⟩
   ·rintro V7 _ ⟨le7,rfl⟩
    refine⟨nofun,_,rfl,fun hz=>?_,fun hz=>⟨_,rfl,stay V7 le7 fun k2=>?_⟩⟩
    ·have hd':dn=false:=by simpa using hd
     have hz':zeroQ y=false:=by simpa [zeroQ,bne] using hz
     subst hd'
     rw [if_pos (by rw [hz']; rfl)] at hE
     rw [← hE]
     exact⟨rfl,rfl,ap_rowV (sh:=ReSh) (c:=(c,(y.1,sy,sy',()))) (G.le le7) rowC (by kernel_rfl) (by omega) (by omega) fun s9 V9 G9=>⟨_,rfl,(s9,()),rfl,_,_,G9,fr_app hfr fr2⟩⟩
    ·have hz':zeroQ y=true:=by simpa [zeroQ,bne] using hz
     rw [hz'] at k2; simp at k2
   ·have hd':dn=true:=by simpa using hd
    rw [hd'] at k2; simp at k2
  ·rintro⟨s8,u⟩ V7 ⟨cs8,fps8,G8,hfr8⟩
   have hlen:(addR c y l).length≤9223372036854775807:=by
    have:=rests_len (addR_ok (y:=y) hl kc yok)
    omega
   obtain⟨b,hb0,_,hL⟩:=GV.lr G8 hlen
   exact⟨l5.trans G8.2.2.1,s8,_,_,true,rfl,hL,(fun y hy=>by
    rcases List.mem_cons.1 hy with rfl | hy
    ·exact none_of_le l5 hb0
    ·exact hfr8 y hy),.inl ⟨rfl,y,hy,rfl⟩⟩
end Go.Proofs.YtagkjnpggkmehaaGreatDoor
namespace Go.Proofs.YtagkjnpggkmehaaGreatDoor
open Sx
set_option maxRecDepth 100000
def negD (y:DRat):DRat:=(!y.1 && decide (0<y.2.1.length),y.2.1,y.2.2.1,())
def negR (l:List DRest):List DRest:=l.map fun x=>(x.1,negD x.2)
theorem negD_ok {y:DRat} (h:RatP y):RatP (negD y)∧rS (negD y)=-rS y:=neg_ok h
theorem rests_pair {x:DRest} {l:List DRest} (h:RestsOkP (x :: l)):RestsOkP l∧∀ y∈l,LessP x.1 y.1:=by
 obtain⟨a,b⟩:=List.pairwise_cons.1 (up_rests h)
 exact⟨rests_up b fun y hy=>rests_mem h (List.mem_cons_of_mem _ hy),a⟩
theorem negR_ok {l:List DRest} (h:RestsOkP l):RestsOkP (negR l):=by
 refine rests_up ?_ fun x hx=>?_
 ·exact List.pairwise_map.2 (up_rests h)
 ·obtain⟨y,hy,rfl⟩:=List.mem_map.1 hx
  obtain⟨a,b,c⟩:=rests_mem h hy
  obtain⟨p,q⟩:=negD_ok (y:=y.2) b
  refine⟨a,p,fun k=>c ?_⟩
  have k1:rS (negD y.2)=0:=sgn_zero.1 k
  rw [q] at k1
  exact sgn_zero.2 (show rS y.2=0 by omega)
theorem atR_mem {l:List DRest} (h:Up l) {x:DRest} (hx:x∈l):atR l x.1=x.2:=by
 induction l with
 | nil=>cases hx
 | cons y l ih =>
  obtain⟨a,b⟩:=List.pairwise_cons.1 h
  unfold atR
  rcases List.mem_cons.1 hx with rfl | hx
  ·rw [List.find?_cons_of_pos (by simp [keyB])]; rfl
  ·rw [List.find?_cons_of_neg (by simp [keyB,les_ne (a x hx)])]
   exact ih b hx
theorem strike {x:DRest} {l l':List DRest} {e:Bool} (h:RestsOkP (x :: l)) (k:KeepQ (x :: l) x.1 (negD x.2) l' e):l'=l∧e=true:=by
 have hx:=(rests_mem h (x:=x) (by simp)).2.1
 obtain⟨n1,n2⟩:=negD_ok (y:=x.2) hx
 obtain⟨_,hlt⟩:=rests_pair h
 have hat:atR (x :: l) x.1=x.2:=atR_mem (up_rests h) (by simp)
 have hp:0<rD x.2:=ratP_pos hx
 have hd:rD (negD x.2)=rD x.2:=rfl
 have hD:0<rD x.2*rD x.2:=Int.mul_pos hp hp
 have key:∀ {y:DRat} {ok:Bool},AddRP (atR (x :: l) x.1) (negD x.2) (y,ok)→ok=true∧zeroQ y=true:=by
  intro y ok hy
  unfold AddRP at hy
  rw [hat,n2,hd,show rS x.2*rD x.2+-rS x.2*rD x.2=0 by rw [Int.neg_mul]; omega] at hy
  have hy:RedS 0 (rD x.2*rD x.2) y ok:=hy
  have h1:RedS 0 1 y ok:=redS_cross hD (by decide) (by simp) hy
  have ht:ok=true:=redS_fits (by decide) h1 (by decide) (by decide)
  subst ht
  obtain⟨v,_,_⟩:=redS_val (by decide) h1
  refine⟨rfl,?_⟩
  have v1:sval y.1 y.2.1=0:=by simpa using v
  unfold zeroQ
  rw [v1]; rfl
 rcases k with ⟨rfl,y,hy,rfl⟩ | ⟨_,_,y,hy⟩
 ·refine⟨?_,rfl⟩
  unfold addR
  rw [if_pos (key hy).2,List.filter_cons_of_neg (by simp [bless_irr]),List.filter_cons_of_neg (by simp [bless_irr]),fil_no fun z hz=>les_no (hlt z hz),fil_all fun z hz=>hlt z hz]
  rfl
 ·have:=(key hy).1
  cases this
def Bd (k:Nat) (l:List DRest):Prop:=(k=0→l=[])∧∀ x∈l,x.2.2.1.length≤6*k-1∧x.2.2.2.1.length≤5*k
theorem valN_lt {l:List Lim} (h:Lims l):valN l<1000000000 ^ l.length:=(valTo_bd h _).2
theorem redS_wide {S D:Int} {x:DRat} (hD:0<D) (h:RedS S D x true) (i j:Nat) (hS:(S.natAbs:Int)<1000000000 ^ i) (hDb:D<1000000000 ^ j):x.2.1.length≤i∧x.2.2.1.length≤j:=by
 obtain⟨p,q,h1,h2⟩:=h
 have hg:=gcd_pos (N:=(S.natAbs:Int)) hD
 have bd:∀ {l:List Lim} {k:Nat},Can l→∀ {N:Int},valN l*(Int.gcd (S.natAbs:Int) D:Int)=N→N<1000000000 ^ k→l.length≤k:=by
  intro l k hl N hv hN
  by_cases kk:l.length≤k
  ·exact kk
  ·have g1:=can_ge hl (by omega)
   have g2:=pw_mono (show k≤l.length-1 by omega)
   have g3:valN l*1≤valN l*(Int.gcd (S.natAbs:Int) D:Int):=Int.mul_le_mul_of_nonneg_left (by omega) (valN_nonneg hl.1)
   omega
 rcases h2 with ⟨_,_,_,rfl⟩ | ⟨_,c,_⟩
 ·exact⟨bd h1.1 h1.2.2.1 hS,bd h1.2.1 h1.2.2.2 hDb⟩
 ·cases c
theorem lim_bd {l:List Lim} (h:Lims l) {k:Nat} (hk:l.length≤k):0≤valN l∧valN l<1000000000 ^ k:=by
 have h1:=valN_nonneg h
 have h2:=valN_lt h
 have h3:=pw_mono hk
 exact⟨h1,by omega⟩
theorem mul_pw {a b:Int} {i j:Nat} (a0:0≤a) (b0:0≤b) (ha:a<1000000000 ^ i) (hb:b<1000000000 ^ j):a*b<1000000000 ^ (i+j):=by
 have hp:(0:Int)<1000000000 ^ j:=by omega
 rw [Int.pow_add]
 exact Int.lt_of_le_of_lt (Int.mul_le_mul_of_nonneg_left (by omega) a0) (Int.mul_lt_mul_of_pos_right ha hp)
theorem sum_bd {x y:DRat} {i j m n k:Nat} (hx:RatP x) (hy:RatP y) (h1:x.2.1.length≤i) (h2:x.2.2.1.length≤j) (h3:y.2.1.length≤m) (h4:y.2.2.1.length≤n) (k1:i+n<k) (k2:m+j<k) :
  ((rS x*rD y+rS y*rD x).natAbs:Int)<1000000000 ^ k∧rD x*rD y<1000000000 ^ (j+n):=by
 have a1:=lim_bd hx.1.1.1.1 h1
 have a2:=lim_bd hx.2.1.1.1 h2
 have a3:=lim_bd hy.1.1.1.1 h3
 have a4:=lim_bd hy.2.1.1.1 h4
 have b1:=mul_pw a1.1 a4.1 a1.2 a4.2
 have b2:=mul_pw a3.1 a2.1 a3.2 a2.2
 have c1:(((rS x*rD y).natAbs:Nat):Int)=valN x.2.1*valN y.2.2.1:=by
  rw [Int.natAbs_mul,Int.natCast_mul,sval_abs hx.1.1.1.1,Int.natAbs_of_nonneg a4.1]
 have c2:(((rS y*rD x).natAbs:Nat):Int)=valN y.2.1*valN x.2.2.1:=by
  rw [Int.natAbs_mul,Int.natCast_mul,sval_abs hy.1.1.1.1,Int.natAbs_of_nonneg a2.1]
 obtain⟨q,rfl⟩:∃ q,k=q+1:=⟨k-1,by omega⟩
 have p1:=pw_mono (show i+n≤q by omega)
 have p2:=pw_mono (show m+j≤q by omega)
 have p3:=pw_succ q
 refine⟨?_,mul_pw a2.1 a4.1 a2.2 a4.2⟩
 have:=Int.natAbs_add_le (rS x*rD y) (rS y*rD x)
 omega
theorem addR_bd {k:Nat} {l l':List DRest} {c:ByteArray} {r:DRat} (h:RestsOkP l) (hb:Bd k l) (hr:RatP r) (h1:r.2.1.length≤5) (h2:r.2.2.1.length≤5) (hk:k≤2) (q:KeepQ l c r l' true):Bd (k+1) l':=by
 rcases q with ⟨_,y,hy,rfl⟩ | ⟨k,_⟩
 ·have hat:=atR_ok h c
  have old:∀ x∈l,x.2.2.1.length≤6*(k+1)-1∧x.2.2.2.1.length≤5*(k+1):=fun x hx=>by
   obtain⟨a,b⟩:=hb.2 x hx
   exact⟨by omega,by omega⟩
  refine⟨by omega,fun x hx=>?_⟩
  rcases addR_mem hx with hx | ⟨rfl,_⟩
  ·exact old x hx
  ·have hsz:∃ i j,(atR l c).2.1.length≤i∧(atR l c).2.2.1.length≤j∧i+5<6*(k+1)∧5+j<6*(k+1)+1∧j+5≤5*(k+1)+1∧(k=0→i=0∧j=1)∧(0<k→j+5≤5*(k+1)∧5+j<6*(k+1)-1∧i+5<6*(k+1)-1):=by
    unfold atR
    cases hf:l.find? (keyB c) with
    | none=>exact⟨0,1,Nat.le_refl _,Nat.le_refl _,by omega,by omega,by omega,fun _=>⟨rfl,rfl⟩,fun _=>⟨by omega,by omega,by omega⟩⟩
    | some x =>
     have hm:=List.mem_of_find?_eq_some hf
     obtain⟨a,b⟩:=hb.2 x hm
     have k0:0<k:=Nat.pos_of_ne_zero fun e=>by rw [hb.1 e] at hm; cases hm
     exact⟨6*k-1,5*k,a,b,by omega,by omega,by omega,by omega,fun _=>⟨by omega,by omega,by omega⟩⟩
   obtain⟨i,j,s1,s2,t1,t2,t3,t4,t5⟩:=hsz
   have hD:0<rD (atR l c)*rD r:=Int.mul_pos (ratP_pos hat) (ratP_pos hr)
   by_cases k0:k=0
   ·subst k0
    obtain⟨rfl,rfl⟩:=t4 rfl
    have e0:atR l c=nought:=by rw [hb.1 rfl]; rfl
    have hy1:RedS (rS r) (rD r) y true:=by
     have:=hy
     unfold AddRP at this
     rw [e0] at this
     simpa [rS,rD,sval,valN,valTo,limb] using this
    obtain⟨_,z1,z2⟩:=redS_len (ratP_pos hr) hy1 5 (by omega) (by rw [sval_abs hr.1.1.1.1]; exact(lim_bd hr.1.1.1.1 h1).2) (lim_bd hr.2.1.1.1 h2).2 (by omega)
    exact⟨by show y.2.1.length≤_; omega,by show y.2.2.1.length≤_; omega⟩
   ·have kp:0<k:=by omega
    obtain⟨u1,u2,u3⟩:=t5 kp
    obtain⟨v1,v2⟩:=sum_bd (k:=6*(k+1)-1) hat hr s1 s2 h1 h2 (by omega) (by omega)
    have w:=pw_mono (show j+5≤5*(k+1) by omega)
    have g:=redS_wide hD hy (6*(k+1)-1) (5*(k+1)) v1 (by omega)
    exact g
 ·cases k
end Go.Proofs.YtagkjnpggkmehaaGreatDoor
namespace Go.Proofs.YtagkjnpggkmehaaGreatDoor
open Sx
set_option maxRecDepth 100000
abbrev bl (t:ByteArray):List UInt8:=t.data.toList
theorem bl_inj {s t:ByteArray} (h:bl s=bl t):s=t:=by
 apply ByteArray.ext
 exact Array.toList_inj.1 h
theorem bl_append (s t:ByteArray):bl (s++t)=bl s++bl t:=by
 show(s++t).data.toList=_
 rw [ByteArray.data_append]; simp
theorem bl_len (t:ByteArray):(bl t).length=t.size:=by
 show t.data.toList.length=t.data.size
 simp
abbrev Dg (c:UInt8):Prop:=48≤c.toNat∧c.toNat≤57
def dvA:List UInt8→Nat→Nat
 | [],a=>a
 | c :: r,a=>dvA r (10*a+(c.toNat-48))
abbrev dv (l:List UInt8):Nat:=dvA l 0
theorem dvA_eq:∀ (l:List UInt8) (a:Nat),dvA l a=a*10 ^ l.length+dv l
 | [],a=>by simp [dvA]
 | c :: r,a=>by
  rw [dvA,dvA_eq r,show dv (c :: r)=dvA r (10*0+(c.toNat-48)) from rfl,dvA_eq r (10*0+(c.toNat-48)),List.length_cons,Nat.pow_succ,Nat.add_mul,Nat.mul_zero,Nat.zero_add]
  have:10*a*10 ^ r.length=a*(10 ^ r.length*10):=by ac_rfl
  omega
theorem dv_cons (c:UInt8) (r:List UInt8):dv (c :: r)=(c.toNat-48)*10 ^ r.length+dv r:=by
 rw [show dv (c :: r)=dvA r (10*0+(c.toNat-48)) from rfl,dvA_eq,Nat.mul_zero,Nat.zero_add]
theorem dv_append:∀ (l m:List UInt8),dv (l++m)=dv l*10 ^ m.length+dv m
 | [],m=>by show dv m=0*_+_; omega
 | c :: r,m=>by
  rw [List.cons_append,dv_cons,dv_append r m,dv_cons,List.length_append,Nat.pow_add,Nat.add_mul]
  have:(c.toNat-48)*(10 ^ r.length*10 ^ m.length)=(c.toNat-48)*10 ^ r.length*10 ^ m.length:=(Nat.mul_assoc ..).symm
  omega
theorem dv_lt:∀ {l:List UInt8},(∀ c∈l,Dg c)→dv l<10 ^ l.length
 | [],_=>by decide
 | c :: r,h=>by
  have h1:=dv_lt fun x hx=>h x (List.mem_cons_of_mem _ hx)
  have h2:=h c (List.mem_cons_self ..)
  rw [dv_cons,List.length_cons,Nat.pow_succ]
  have h3:(c.toNat-48)*10 ^ r.length≤9*10 ^ r.length:=Nat.mul_le_mul_right _ (by omega)
  omega
theorem dg_inj {c d:UInt8} (h:Dg c) (k:Dg d) (e:c.toNat-48=d.toNat-48):c=d:=by
 apply UInt8.toNat_inj.1
 omega
theorem dv_inj:∀ {l m:List UInt8},l.length=m.length→(∀ c∈l,Dg c)→(∀ c∈m,Dg c)→dv l=dv m→l=m
 | [],[],_,_,_,_=>rfl
 | [],_ :: _,h,_,_,_=>by simp at h
 | _ :: _,[],h,_,_,_=>by simp at h
 | c :: r,d :: q,hl,h,k,e=>by
  have hl':r.length=q.length:=by simpa using hl
  have h1:=dv_lt fun x hx=>h x (List.mem_cons_of_mem _ hx)
  have h2:=dv_lt fun x hx=>k x (List.mem_cons_of_mem _ hx)
  rw [dv_cons,dv_cons,← hl'] at e
  rw [← hl'] at h2
  have hp:0<10 ^ r.length:=Nat.pow_pos (by decide)
  rw [Nat.mul_comm (c.toNat-48),Nat.mul_comm (d.toNat-48)] at e
  have e1:(10 ^ r.length*(c.toNat-48)+dv r) / 10 ^ r.length=(10 ^ r.length*(d.toNat-48)+dv q) / 10 ^ r.length:=by rw [e]
  have e2:(10 ^ r.length*(c.toNat-48)+dv r) % 10 ^ r.length=(10 ^ r.length*(d.toNat-48)+dv q) % 10 ^ r.length:=by rw [e]
  rw [Nat.mul_add_div hp,Nat.mul_add_div hp,Nat.div_eq_of_lt h1,Nat.div_eq_of_lt h2] at e1
  rw [Nat.mul_add_mod,Nat.mul_add_mod,Nat.mod_eq_of_lt h1,Nat.mod_eq_of_lt h2] at e2
  rw [dg_inj (h c (List.mem_cons_self ..)) (k d (List.mem_cons_self ..)) (by omega),dv_inj hl' (fun x hx=>h x (List.mem_cons_of_mem _ hx)) (fun x hx=>k x (List.mem_cons_of_mem _ hx)) e2]
def NumTx (l:List UInt8):Prop:=l≠[]∧(∀ c∈l,Dg c)∧(1<l.length→l.head?≠some 48)
theorem num_ge {l:List UInt8} (h:NumTx l) (hl:1<l.length):10 ^ (l.length-1)≤dv l:=by
 cases l with
 | nil=>simp at hl
 | cons c r =>
  have h1:=h.2.2 hl
  have h2:=h.2.1 c (List.mem_cons_self ..)
  have h3:c.toNat≠48:=fun e=>h1 (by
   have:c=48:=UInt8.toNat_inj.1 e
   rw [this]; rfl)
  rw [dv_cons,List.length_cons,Nat.add_sub_cancel]
  have:1*10 ^ r.length≤(c.toNat-48)*10 ^ r.length:=Nat.mul_le_mul_right _ (by omega)
  omega
theorem num_len {l m:List UInt8} (h:NumTx l) (k:NumTx m) (e:dv l=dv m):l.length≤m.length:=by
 have hm:=dv_lt k.2.1
 by_cases hl:1<l.length
 ·have h1:=num_ge h hl
  rcases Nat.lt_or_ge m.length l.length with hlt | hge
  ·have:10 ^ m.length≤10 ^ (l.length-1):=Nat.pow_le_pow_right (by decide) (by omega)
   omega
  ·exact hge
 ·have:m.length≠0:=fun h0=>k.1 (List.eq_nil_of_length_eq_zero h0)
  omega
theorem num_inj {l m:List UInt8} (h:NumTx l) (k:NumTx m) (e:dv l=dv m):l=m :=
 dv_inj (Nat.le_antisymm (num_len h k e) (num_len k h e.symm)) h.2.1 k.2.1 e
theorem dig_bl {k:Nat} (h:k≤9):bl (dig k)=[UInt8.ofNat (48+k)]∧(UInt8.ofNat (48+k)).toNat=48+k:=by
 refine⟨rfl,?_⟩
 rw [UInt8.toNat_ofNat']
 exact Nat.mod_eq_of_lt (by omega)
theorem numT_num:∀ (n:Nat) (k:Int),0≤k→k.toNat=n→NumTx (bl (numT k))∧dv (bl (numT k))=n:=by
 intro n
 induction n using Nat.strongRecOn with
 | _ n ih =>
  intro k h0 hk
  by_cases h9:k<10
  ·obtain⟨e1,e2⟩:=dig_bl (k:=k.toNat) (by omega)
   rw [numT_small h0 h9,e1]
   refine⟨⟨by simp,fun c hc=>?_,fun h=>by simp at h⟩,?_⟩
   ·obtain rfl:c=UInt8.ofNat (48+k.toNat):=by simpa using hc
    show 48≤(UInt8.ofNat (48+k.toNat)).toNat∧(UInt8.ofNat (48+k.toNat)).toNat≤57
    omega
   ·rw [dv_cons,e2]
    show(48+k.toNat-48)*10 ^ 0+0=n
    omega
  ·obtain⟨hn,hv⟩:=ih (k / 10).toNat (by omega) (k / 10) (by omega) rfl
   obtain⟨e1,e2⟩:=dig_bl (k:=(k % 10).toNat) (by omega)
   rw [numT_big (by omega),bl_append,e1]
   refine⟨⟨by simp,fun c hc=>?_,fun _=>?_⟩,?_⟩
   ·rcases List.mem_append.1 hc with h | h
    ·exact hn.2.1 c h
    ·obtain rfl:c=UInt8.ofNat (48+(k % 10).toNat):=by simpa using h
     show 48≤(UInt8.ofNat (48+(k % 10).toNat)).toNat∧(UInt8.ofNat (48+(k % 10).toNat)).toNat≤57
     omega
   ·cases hq:bl (numT (k / 10)) with
    | nil=>exact absurd hq hn.1
    | cons c r =>
     rw [hq] at hn hv
     rw [List.cons_append,List.head?_cons]
     intro hc
     obtain rfl:c=48:=by simpa using hc
     by_cases hr:1<(48 :: r:List UInt8).length
     ·exact hn.2.2 hr rfl
     ·have:r=[]:=List.eq_nil_of_length_eq_zero (by rw [List.length_cons] at hr; omega)
      subst this
      have:dv [48]=0:=by decide
      omega
   ·rw [dv_append,hv]
    show(k / 10).toNat*10 ^ 1+dv [UInt8.ofNat (48+(k % 10).toNat)]=n
    rw [dv_cons,e2]
    show(k / 10).toNat*10 ^ 1+((48+(k % 10).toNat-48)*10 ^ 0+0)=n
    omega
theorem zeros_bl (k:Nat):bl (zeros k)=List.replicate k 48:=by
 show(List.replicate k (48:UInt8)).toArray.toList=_
 simp
theorem dv_zeros:∀ (k:Nat) (l:List UInt8),dv (List.replicate k 48++l)=dv l
 | 0,l=>rfl
 | k+1,l=>by
  rw [List.replicate_succ,List.cons_append,dv_cons,dv_zeros k l]
  show(48-48)*_+_=_
  omega
theorem part_num {k:Int} (h0:0≤k) (h1:k<1000000000):(padB (numT k) 9).size=9∧(∀ c∈bl (padB (numT k) 9),Dg c)∧dv (bl (padB (numT k) 9))=k.toNat:=by
 obtain⟨hn,hv⟩:=numT_num k.toNat k h0 rfl
 have hs:(numT k).size≤9:=by
  rw [← bl_len]
  rcases Nat.lt_or_ge 9 (bl (numT k)).length with h | h
  ·have h2:=num_ge hn (by omega)
   have h3:10 ^ 9≤10 ^ ((bl (numT k)).length-1):=Nat.pow_le_pow_right (by decide) (by omega)
   have h4:(10:Nat) ^ 9=1000000000:=by decide
   omega
  ·exact h
 have e:padB (numT k) 9=zeros (9-(numT k).size)++numT k:=by
  unfold padB
  rw [if_neg (by decide),show((9:Int)-((numT k).size:Int)).toNat=9-(numT k).size by omega]
 refine⟨?_,fun c hc=>?_,?_⟩
 ·rw [e,ByteArray.size_append,zeros_size]; omega
 ·rw [e,bl_append,zeros_bl] at hc
  rcases List.mem_append.1 hc with h | h
  ·obtain rfl:=List.eq_of_mem_replicate h
   decide
  ·exact hn.2.1 c h
 ·rw [e,bl_append,zeros_bl,dv_zeros,hv]
theorem pw9 (i:Nat):((10 ^ (9*i):Nat):Int)=1000000000 ^ i:=by
 rw [Nat.pow_mul]
 have:(10:Nat) ^ 9=1000000000:=by decide
 rw [this]
 exact Int.natCast_pow _ _
theorem natGo_num {l:List Lim} (hl:Lims l):∀ (i:Nat) (s:ByteArray),(∀ c∈bl s,Dg c)→bl s≠[] →
  (natGo l i s).size=s.size+9*i∧(∀ c∈bl (natGo l i s),Dg c)∧(bl (natGo l i s)).head?=(bl s).head?∧(dv (bl (natGo l i s)):Int)=(dv (bl s):Int)*1000000000 ^ i+valTo l i
 | 0,s,h,_=>⟨rfl,h,rfl,by rw [natGo]; simp [valTo]⟩
 | i+1,s,h,hne=>by
  obtain⟨p1,p2,p3⟩:=part_num (hl i).1 (hl i).2
  have hd:∀ c∈bl (s++padB (numT (limb l i)) 9),Dg c:=fun c hc=>by
   rw [bl_append] at hc
   exact(List.mem_append.1 hc).elim (h c) (p2 c)
  obtain⟨q1,q2,q3,q4⟩:=natGo_num hl i (s++padB (numT (limb l i)) 9) hd (by rw [bl_append]; simp [hne])
  rw [natGo]
  refine⟨by rw [q1,ByteArray.size_append,p1]; omega,q2,?_,?_⟩
  ·rw [q3,bl_append]
   cases hs:bl s with
   | nil=>exact absurd hs hne
   | cons c r=>rfl
  ·rw [q4,bl_append,dv_append,p3,bl_len,p1,pw_succ]
   show _=_+(valTo l i+limb l i*1000000000 ^ i)
   have h0:=(hl i).1
   have e9:((10 ^ 9:Nat):Int)=1000000000:=by decide
   have ek:((limb l i).toNat:Int)=limb l i:=by omega
   rw [Int.natCast_add,Int.natCast_mul,e9,ek,Int.add_mul,Int.mul_assoc]
   omega
theorem natT_num {l:List Lim} (h:Can l):NumTx (bl (natT l))∧(dv (bl (natT l)):Int)=valN l∧(natT l).size≤9*l.length+1∧(0<l.length→(natT l).size≤9*l.length):=by
 by_cases h0:l.length=0
 ·have e:natT l=⟨#[48]⟩:=by unfold natT; rw [if_pos h0]
  have:l=[]:=List.eq_nil_of_length_eq_zero h0
  subst this
  rw [e]
  exact⟨⟨by decide,by decide,fun h=>absurd h (by decide)⟩,rfl,by decide,fun h=>absurd h (by decide)⟩
 ·have e:natT l=natGo l (l.length-1) (numT (limb l (l.length-1))):=by unfold natT; rw [if_neg h0]
  have hb:=h.1 (l.length-1)
  obtain⟨hn,hv⟩:=numT_num (limb l (l.length-1)).toNat _ hb.1 rfl
  obtain⟨q1,q2,q3,q4⟩:=natGo_num h.1 (l.length-1) _ hn.2.1 hn.1
  have hp:=(part_num hb.1 hb.2).1
  have hs:(numT (limb l (l.length-1))).size≤9:=by
   have:=(padB_size (numT (limb l (l.length-1))) 9).2.2.2
   omega
  have htop:limb l (l.length-1)≠0:=by
   rcases h.2 with h2 | h2
   ·exact absurd h2 h0
   ·exact h2
  have hval:valTo l (l.length-1+1)=valN l:=by rw [show l.length-1+1=l.length by omega]; rfl
  have hval2:valTo l (l.length-1+1)=valTo l (l.length-1)+limb l (l.length-1)*1000000000 ^ (l.length-1):=rfl
  rw [e]
  refine⟨⟨fun hnil=>?_,q2,fun _ hc=>?_⟩,?_,by omega,fun _=>by omega⟩
  ·rw [hnil] at q3
   cases hq:bl (numT (limb l (l.length-1))) with
   | nil=>exact hn.1 hq
   | cons c r=>rw [hq] at q3; cases q3
  ·rw [q3] at hc
   cases hq:bl (numT (limb l (l.length-1))) with
   | nil=>exact hn.1 hq
   | cons c r =>
    rw [hq] at hc hn hv
    obtain rfl:c=48:=by simpa using hc
    by_cases hr:1<(48 :: r:List UInt8).length
    ·exact hn.2.2 hr rfl
    ·have:r=[]:=List.eq_nil_of_length_eq_zero (by rw [List.length_cons] at hr; omega)
     subst this
     have:dv [48]=0:=by decide
     omega
  ·rw [q4,hv,← hval,hval2]
   have:((limb l (l.length-1)).toNat:Int)=limb l (l.length-1):=by omega
   rw [this]
   omega
theorem natT_inj {l m:List Lim} (h:Can l) (k:Can m) (e:natT l=natT m):l=m:=by
 refine can_inj h k ?_
 rw [← (natT_num h).2.1,← (natT_num k).2.1,e]
theorem val_app1 (a:List Lim) (x:Int):valN (a++[(x,())])=valN a+x*1000000000 ^ a.length:=by
 unfold valN
 rw [List.length_append]
 show valTo (a++[(x,())]) a.length+limb (a++[(x,())]) a.length*1000000000 ^ a.length=_
 rw [valTo_snoc (Nat.le_refl _),limb_snoc]
theorem dv_part {s:List UInt8} (hs:∀ c∈s,Dg c) (j n:Nat) (hn:n≤9):dv ((s.drop j).take n)<1000000000:=by
 have h1:=dv_lt (l:=(s.drop j).take n) fun c hc=>hs c (List.mem_of_mem_drop (List.mem_of_mem_take hc))
 have h2:10 ^ ((s.drop j).take n).length≤10 ^ 9:=Nat.pow_le_pow_right (by decide) (by rw [List.length_take]; omega)
 have h3:(10:Nat) ^ 9=1000000000:=by decide
 omega
theorem rd_step {s:List UInt8} (hs:∀ c∈s,Dg c) {a:List Lim} {e j:Nat} (he:e+9*a.length=s.length) (ha:Lims a) (hv:valN a=(dv (s.drop e):Int)) (hj:j≤e) (hj9:e-j≤9) :
  Lims (a++[((dv ((s.drop j).take (e-j)):Int),())])∧valN (a++[((dv ((s.drop j).take (e-j)):Int),())])=(dv (s.drop j):Int):=by
 have hb:=dv_part hs j (e-j) hj9
 refine⟨lims_snoc ha ⟨by show(0:Int)≤(dv _:Int); omega,by show(dv _:Int)<1000000000; omega⟩,?_⟩
 have e1:s.drop j=(s.drop j).take (e-j)++s.drop e:=by
  have:s.drop e=(s.drop j).drop (e-j):=by rw [List.drop_drop]; congr 1; omega
  rw [this,List.take_append_drop]
 have e2:(s.drop e).length=9*a.length:=by rw [List.length_drop]; omega
 rw [val_app1,hv]
 conv=>rhs; rw [e1]
 rw [dv_append,e2,Int.natCast_add,Int.natCast_mul,pw9]
 omega
def NatTx (s:ByteArray):Prop:=NumTx (bl s)∧s.size≤450
theorem natTx_no {s:ByteArray} (h:¬ NatTx s) {q:List Lim} (hq:Can q) (h50:q.length≤50):natT q≠s:=fun e=>by
 obtain⟨h1,_,h3,h4⟩:=natT_num hq
 rw [e] at h1 h3 h4
 exact h ⟨h1,by omega⟩
theorem natTx_yes {s:ByteArray} (h:NatTx s) {a:List Lim} (ha:Lims a) (hv:valN a=(dv (bl s):Int)) (hl:9*a.length≤s.size+8):Can (trimL a)∧(trimL a).length≤50∧natT (trimL a)=s:=by
 obtain⟨c1,c2⟩:=trim_can ha
 have hle:(trimL a).length≤a.length:=by unfold trimL; rw [List.length_take]; exact Nat.min_le_right _ _
 refine⟨c1,by have:=h.2; omega,bl_inj ?_⟩
 obtain⟨n1,n2,_⟩:=natT_num c1
 exact num_inj n1 h.1 (by omega)
end Go.Proofs.YtagkjnpggkmehaaGreatDoor
namespace Go.Proofs.YtagkjnpggkmehaaGreatDoor
open Sx
abbrev rString:Rp [.s] (ByteArray × Unit):=rStr rNil
theorem LR.txt {V:Know} {s:SlV} {l:List (ByteArray × Unit)} {f:List Nat} (h:LR rString V s l f) {i:Nat} (hi:i<l.length) :
  (∃ b o,s.a=some ⟨b,o,none⟩∧loadV V ((⟨b,o,none⟩:Addr).add (i*1)) 1=some [.string l[i].1])∧l[i].1.size≤9223372036854775807:=by
 obtain⟨b1,o1,c1,f1,a1,l1,r1,_⟩:=h.at hi
 have e:c1.1=l[i].1:=r1.1.1
 refine⟨?_,r1.1.2⟩
 rw [← e]
 exact⟨b1,o1,a1,l1⟩
end Go.Proofs.YtagkjnpggkmehaaGreatDoor
