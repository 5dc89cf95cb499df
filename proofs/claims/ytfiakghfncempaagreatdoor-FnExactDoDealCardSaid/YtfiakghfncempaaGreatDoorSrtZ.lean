/-
  The library's stable sorting of parts, and a sorted copy.
-/
import Derived.Test.YtfiakghfncempaaGreatDoorMath
import Derived.Test.YtfiakghfncempaaGreatDoorCur
import Derived.Test.YtfiakghfncempaaGreatDoorSrtY
namespace Go.Proofs.YtfiakghfncempaaGreatDoor
open Sx
set_option maxRecDepth 100000
theorem els_int {V:Know}:∀ o:List Lim,Els rI V o o []
 | []=>rfl
 | _ :: o=>⟨[],[],rfl,⟨rfl,rfl⟩,els_int o⟩
theorem els_int_eq {V:Know}:∀ {cs l:List Lim} {f:List Nat},Els rI V cs l f→cs=l∧f=[]
 | [],[],_,h=>⟨rfl,h⟩
 | (c,()) :: cs,(x,()) :: l,_,⟨f,g,rfl,h1,h2⟩=>by
  obtain⟨rfl,rfl⟩:=els_int_eq h2
  have e1:c=x:=h1.1
  have e2:f=[]:=h1.2
  subst e1; subst e2
  exact⟨rfl,rfl⟩
def cellI (x:Lim):Value:=.int .i64 x.1
theorem flat_int:∀ o:List Lim,o.flatMap (Scs.vals [.i .i64])=o.map cellI
 | []=>rfl
 | x :: o=>by rw [List.flatMap_cons,flat_int o]; rfl
theorem one_int:∀ o:List Lim,one (o.map cellI)=true
 | []=>rfl
 | x :: o=>by
  have:=one_int o
  unfold one at this ⊢
  rw [List.map_cons,List.all_cons,this]; rfl
theorem LR.shrink {V:Know} {s:SlV} {l:List Lim} {f:List Nat} (h:LR rI V s l f) {k:Nat} (hk:k≤l.length):LR rI V ⟨s.a,k,s.c⟩ (l.take k) f:=by
 obtain⟨h1,h2,h3,h4⟩:=h
 refine⟨by simp; omega,(by omega:k≤s.c),(by omega:k≤9223372036854775807),?_⟩
 rcases h4 with ⟨h0,hc,hf⟩ | ⟨b,pre,post,t,fps,cs,k1,k2,k3,rfl⟩
 ·exact .inl ⟨(by omega:k=0),hc,hf⟩
 ·obtain⟨rfl,rfl⟩:=els_int_eq k3
  refine .inr ⟨b,pre,(cs.drop k).flatMap (Scs.vals [.i .i64])++post,t,[],cs.take k,k1,?_,els_int _,rfl⟩
  have e:(cs.take k).flatMap (Scs.vals [.i .i64])++((cs.drop k).flatMap (Scs.vals [.i .i64])++post)=cs.flatMap (Scs.vals [.i .i64])++post:=by
   rw [← List.append_assoc,← List.flatMap_append,List.take_append_drop]
  rw [k2,e]
theorem LR.rdI {V:Know} {s:SlV} {l:List Lim} {f:List Nat} (h:LR rI V s l f) :
  ((s.n=0∧(s.a=none→s.c=0)∧l.map cellI=[])∨∃ ad,s.a=some ad∧loadV V ad (s.n*1)=some (l.map cellI))∧one (l.map cellI)=true:=by
 obtain⟨h1,h2,h3,h4⟩:=h
 refine⟨?_,one_int l⟩
 rcases h4 with ⟨h0,hc,hf⟩ | ⟨b,pre,post,t,fps,cs,k1,k2,k3,rfl⟩
 ·have:l=[]:=List.eq_nil_of_length_eq_zero (by omega)
  subst this
  exact .inl ⟨h0,hc,rfl⟩
 ·obtain⟨rfl,rfl⟩:=els_int_eq k3
  refine .inr ⟨_,k1,?_⟩
  simp only [loadV,k2]
  have:=cutv_skip (x:=pre) (y:=cs.flatMap (Scs.vals [.i .i64])++post) (o:=0) (n:=s.n*1)
  rw [Nat.add_zero] at this
  rw [this,flat_int,h1,Nat.mul_one]
  have:=cutv_head (x:=cs.map cellI) (y:=post)
  rwa [List.length_map] at this
theorem newI {V:Know} {b cap:Nat} {o:List Lim} {spare:List Value} {t:TypeId} (hb:V b=none) (hc:o.length≤cap) (hl:o.length≤9223372036854775807) :
  LR rI (kset V b (o.map cellI++spare,(t,(0,0)))) ⟨some ⟨b,0,none⟩,o.length,cap⟩ o [b]∧Own V (kset V b (o.map cellI++spare,(t,(0,0)))) [b]:=by
 refine⟨⟨rfl,hc,hl,.inr ⟨b,[],spare,(t,(0,0)),[],o,rfl,?_,els_int o,rfl⟩⟩,by simp,?_,?_⟩
 ·rw [kset_same,flat_int]; rfl
 ·intro b' hb'; simp at hb'; subst hb'; exact hb
 ·intro b' hb'; simp at hb'; subst hb'; exact⟨_,_,kset_same⟩
theorem cI_trim (V:Know) (s:SlV) (l:List Lim) (f:List Nat) (h:LR rI V s l f) :
  CallX Tryz.prog V 112 [Sc.val .l s] (fun V' r=>V'=V∧∃ s',r=Sc.val .l s'∧LR rI V s' (trimL l) f):=by
 refine CallX.of_fits Tryz.mix (fI_trim s) fun _=>?_
 simp only [tI_trim,T.wp]
 refine⟨fun y V'=>V'=V∧∃ m:Nat,m≤l.length∧tl l m=tl l l.length∧LR rI V y.1 (l.take m) f,fun y=>y.1.n,
  ⟨(s,()),rfl,rfl,l.length,Nat.le_refl _,rfl,by rw [List.take_length]; exact h⟩,?_⟩
 rintro⟨s1,u⟩ V' ⟨rfl,m,hm,htl,hL⟩
 replace hL:LR rI V' s1 (l.take m) f:=hL
 have hn:s1.n=m:=by have:=hL.1; simp at this; omega
 have hcap:=hL.2.1
 have h63:=hL.2.2.1
 refine⟨fun hpos=>?_,fun hz=>?_⟩
 ·have hp:(s1.n:Int) > 0:=of_decide_eq_true hpos
  obtain⟨j,rfl⟩:∃ j,m=j+1:=⟨m-1,by omega⟩
  have hj:j<(l.take (j+1)).length:=by simp; omega
  have hjl:j<l.length:=by omega
  obtain⟨b,o,a1,l1⟩:=hL.int hj
  have hw:IntKind.i64.wrap ((s1.n:Int)-1)=(j:Int):=by rw [wrap_i64 (by omega)]; omega
  show ∃ ad,s1.a=some ad∧_
  rw [hw]
  refine⟨_,a1,(by omega:(0:Int)≤(j:Int)),(by omega:(j:Int)<(s1.n:Int)),(l.take (j+1))[j].1,l1,fun h0=>?_,fun h0=>?_⟩
  ·have e0:limb l j=0:=by
    rw [limb_lt hjl]
    have:(l.take (j+1))[j].1=0:=by simpa using h0
    simpa using this
   have hsame:(if (s1.c:Int).toNat=Int.toNat (0:Int) then s1.a else Option.map (fun x=>x.add (Int.toNat (0:Int)*Tryz.prog.types[(3:Nat)].size)) s1.a)=s1.a:=by
    split
    ·rfl
    ·cases s1.a with
     | none=>rfl
     | some ad=>simp [Addr.add]
   have hL2:=hL.shrink (k:=j) (by simp; omega)
   refine⟨⟨(by omega:(0:Int)≤0),(by omega:(0:Int)≤(j:Int)),(by omega:(j:Int)≤(s1.c:Int)),(by omega:(s1.c:Int)≤(s1.c:Int))⟩,_,rfl,((⟨if (s1.c:Int).toNat=Int.toNat (0:Int) then s1.a else Option.map (fun x=>x.add (Int.toNat (0:Int)*Tryz.prog.types[(3:Nat)].size)) s1.a,(j:Int).toNat-Int.toNat (0:Int),(s1.c:Int).toNat-Int.toNat (0:Int)⟩:SlV),()),rfl,⟨rfl,j,by omega,?_,?_⟩,?_⟩
   ·rw [← htl,tl,if_pos e0]
   ·have e3:((j:Int).toNat-Int.toNat (0:Int))=j:=by omega
    have e4:((s1.c:Int).toNat-Int.toNat (0:Int))=s1.c:=by omega
    show LR rI V' ⟨if (s1.c:Int).toNat=Int.toNat (0:Int) then s1.a else Option.map (fun x=>x.add (Int.toNat (0:Int)*Tryz.prog.types[(3:Nat)].size)) s1.a,(j:Int).toNat-Int.toNat (0:Int),(s1.c:Int).toNat-Int.toNat (0:Int)⟩ _ _
    rw [hsame,e3,e4]
    rw [List.take_take] at hL2
    rwa [Nat.min_eq_left (by omega)] at hL2
   ·show(j:Int).toNat-Int.toNat (0:Int)<s1.n
    omega
  ·have e0:limb l j≠0:=by
    rw [limb_lt hjl]
    have:¬ (l.take (j+1))[j].1=0:=by simpa using h0
    simpa using this
   refine⟨rfl,s1,rfl,?_⟩
   rw [tl,if_neg e0] at htl
   unfold trimL
   rw [← htl]; exact hL
 ·have hz':¬ (s1.n:Int) > 0:=of_decide_eq_false hz
  have:m=0:=by omega
  subst this
  refine⟨rfl,s1,rfl,?_⟩
  unfold trimL
  rw [← htl]; exact hL
theorem cI_natCopy (V:Know) (s:SlV) (l:List Lim) (f:List Nat) (h:LR rI V s l f) (hl:l.length≤1048576) :
  CallX Tryz.prog V 63 [Sc.val .l s] (fun V' r=>V.le V'∧∃ s' f',r=Sc.val .l s'∧LR rI V' s' l f'∧Own V V' f'):=by
 refine CallX.of_fits Tryz.mix (fI_natCopy s) fun _=>?_
 simp only [tI_natCopy,T.wp]
 obtain⟨h1,h2⟩:=h.rdI
 have hn:=h.1
 refine⟨_,h1,h2,⟨h2,(by omega:(0+s.n)*8≤140737488355328),(by omega:0+s.n≤9223372036854775807)⟩,?_⟩
 intro b cap spare hb hc _
 have hk:=newI (o:=l) (spare:=spare) (t:=3) (cap:=cap) hb (by omega) (by omega)
 refine⟨kset_le hb,⟨some ⟨b,0,none⟩,0+s.n,cap⟩,[b],rfl,?_,hk.2⟩
 rw [Nat.zero_add,hn]; exact hk.1
theorem cmp_body {l l':List Lim} {n:Nat}:cmpAt l l' (n+1)=if limb l n<limb l' n then -1 else if limb l n > limb l' n then 1 else cmpAt l l' n:=rfl
theorem cI_natCmp (V:Know) (s s':SlV) (l l':List Lim) (f f':List Nat) (h:LR rI V s l f) (h':LR rI V s' l' f') :
  CallX Tryz.prog V 108 [Sc.val .l s,Sc.val .l s'] (fun V' r=>V'=V∧r=.int .i64 (cmpL l l')):=by
 refine CallX.of_fits Tryz.mix (fI_natCmp _ _) fun _=>?_
 simp only [tI_natCmp,T.wp]
 have hn:=h.1
 have hn':=h'.1
 have hb:=h.2.2.1
 refine⟨fun hne=>?_,fun heq=>?_⟩
 ·have hne':l.length≠l'.length:=by
   have:((s.n:Nat):Int)≠((s'.n:Nat):Int):=by simpa using hne
   omega
  refine⟨fun hlt=>⟨by trivial,?_⟩,fun hge=>⟨by trivial,?_⟩⟩
  ·have:(s.n:Int)<(s'.n:Int):=of_decide_eq_true hlt
   rw [cmpL,if_pos hne',if_pos (by omega)]; rfl
  ·have:¬ (s.n:Int)<(s'.n:Int):=of_decide_eq_false hge
   rw [cmpL,if_pos hne',if_neg (by omega)]; rfl
 have hl:l.length=l'.length:=by
  have:((s.n:Nat):Int)=((s'.n:Nat):Int):=by simpa using heq
  omega
 have hc:cmpL l l'=cmpAt l l' l.length:=by rw [cmpL,if_neg (by simpa using hl)]
 rw [hc]
 have hw:IntKind.i64.wrap ((s.n:Int)-1)=(s.n:Int)-1:=wrap_i64 (by omega)
 refine⟨fun y V'=>V'=V∧∃ n:Nat,y.1=(n:Int)-1∧n≤l.length∧cmpAt l l' n=cmpAt l l' l.length,fun y=>((y.1:Int)+1).toNat,
  ⟨((s.n:Int)-1,()),by rw [hw]; rfl,rfl,l.length,by rw [hn],Nat.le_refl _,rfl⟩,?_⟩
 rintro⟨(i:Int),u⟩ V' ⟨rfl,n,hi,hle,hcm⟩
 replace hi:i=(n:Int)-1:=hi
 refine⟨fun hge=>?_,fun hlt=>?_⟩
 ·have hge':i≥0:=of_decide_eq_true hge
  obtain⟨m,rfl⟩:∃ m,n=m+1:=⟨n-1,by omega⟩
  have hi:i=(m:Int):=by omega
  subst hi
  have h1:m<l.length:=hle
  have h2:m<l'.length:=by omega
  obtain⟨b1,o1,a1,l1⟩:=h.int h1
  obtain⟨b2,o2,a2,l2⟩:=h'.int h2
  rw [cmp_body,limb_lt h1,limb_lt h2] at hcm
  refine⟨_,a1,by omega,(by omega:(m:Int)<(s.n:Int)),l[m].1,l1,_,a2,by omega,(by omega:(m:Int)<(s'.n:Int)),l'[m].1,l2,fun hne=>?_,fun heq=>?_⟩
  ·have hne':l[m].1≠l'[m].1:=by simpa using hne
   refine⟨_,a1,by omega,(by omega:(m:Int)<(s.n:Int)),l[m].1,l1,_,a2,by omega,(by omega:(m:Int)<(s'.n:Int)),l'[m].1,l2,fun hlt=>⟨rfl,?_⟩,fun hge1=>⟨rfl,?_⟩⟩
   ·rw [if_pos (of_decide_eq_true hlt)] at hcm
    rw [← hcm]; rfl
   ·have:¬ l[m].1<l'[m].1:=of_decide_eq_false hge1
    rw [if_neg this,if_pos (by omega)] at hcm
    rw [← hcm]; rfl
  ·have heq':l[m].1=l'[m].1:=by simpa using heq
   rw [if_neg (by omega),if_neg (by omega)] at hcm
   refine⟨_,rfl,((m:Int)-1,()),by rw [show IntKind.i64.wrap ((m:Int)-1)=(m:Int)-1 from wrap_i64 (by omega)]; rfl,⟨rfl,m,rfl,by omega,hcm⟩,?_⟩
   show((m:Int)-1+1).toNat<((m:Int)+1).toNat
   omega
 ·have:¬ i≥0:=of_decide_eq_false hlt
  have hz:n=0:=by omega
  subst hz
  refine⟨rfl,?_⟩
  rw [← hcm]; rfl
theorem cS_l02Cmp (V:Know) (s s':SlV) (l l':List Lim) (f f':List Nat) (h:LR rI V s l f) (h':LR rI V s' l' f') :
  CallX Tryz.prog V 212 [Sc.val .l s,Sc.val .l s'] (fun V' r=>V'=V∧r=.int .i64 (cmpL l l')):=by
 refine CallX.of_fits Tryz.mix (fS_l02Cmp _ _) fun _=>?_
 simp only [tS_l02Cmp,T.wp]
 have hn:=h.1
 have hn':=h'.1
 have hb:=h.2.2.1
 refine⟨fun hne=>?_,fun heq=>?_⟩
 ·have hne':l.length≠l'.length:=by
   have:((s.n:Nat):Int)≠((s'.n:Nat):Int):=by simpa using hne
   omega
  refine⟨fun hlt=>⟨by trivial,?_⟩,fun hge=>⟨by trivial,?_⟩⟩
  ·have:(s.n:Int)<(s'.n:Int):=of_decide_eq_true hlt
   rw [cmpL,if_pos hne',if_pos (by omega)]; rfl
  ·have:¬ (s.n:Int)<(s'.n:Int):=of_decide_eq_false hge
   rw [cmpL,if_pos hne',if_neg (by omega)]; rfl
 have hl:l.length=l'.length:=by
  have:((s.n:Nat):Int)=((s'.n:Nat):Int):=by simpa using heq
  omega
 have hc:cmpL l l'=cmpAt l l' l.length:=by rw [cmpL,if_neg (by simpa using hl)]
 rw [hc]
 have hw:IntKind.i64.wrap ((s.n:Int)-1)=(s.n:Int)-1:=wrap_i64 (by omega)
 refine⟨fun y V'=>V'=V∧∃ n:Nat,y.1=(n:Int)-1∧n≤l.length∧cmpAt l l' n=cmpAt l l' l.length,fun y=>((y.1:Int)+1).toNat,
  ⟨((s.n:Int)-1,()),by rw [hw]; rfl,rfl,l.length,by rw [hn],Nat.le_refl _,rfl⟩,?_⟩
 rintro⟨(i:Int),u⟩ V' ⟨rfl,n,hi,hle,hcm⟩
 replace hi:i=(n:Int)-1:=hi
 refine⟨fun hge=>?_,fun hlt=>?_⟩
 ·have hge':i≥0:=of_decide_eq_true hge
  obtain⟨m,rfl⟩:∃ m,n=m+1:=⟨n-1,by omega⟩
  have hi:i=(m:Int):=by omega
  subst hi
  have h1:m<l.length:=hle
  have h2:m<l'.length:=by omega
  obtain⟨b1,o1,a1,l1⟩:=h.int h1
  obtain⟨b2,o2,a2,l2⟩:=h'.int h2
  rw [cmp_body,limb_lt h1,limb_lt h2] at hcm
  refine⟨_,a1,by omega,(by omega:(m:Int)<(s.n:Int)),l[m].1,l1,_,a2,by omega,(by omega:(m:Int)<(s'.n:Int)),l'[m].1,l2,fun hlt=>⟨rfl,?_⟩,fun hge1=>?_⟩
  ·rw [if_pos (of_decide_eq_true hlt)] at hcm
   rw [← hcm]; rfl
  rw [if_neg (of_decide_eq_false hge1)] at hcm
  refine⟨_,a1,by omega,(by omega:(m:Int)<(s.n:Int)),l[m].1,l1,_,a2,by omega,(by omega:(m:Int)<(s'.n:Int)),l'[m].1,l2,fun hgt=>⟨rfl,?_⟩,fun hle1=>?_⟩
  ·rw [if_pos (of_decide_eq_true hgt)] at hcm
   rw [← hcm]; rfl
  rw [if_neg (of_decide_eq_false hle1)] at hcm
  refine⟨_,rfl,((m:Int)-1,()),by rw [show IntKind.i64.wrap ((m:Int)-1)=(m:Int)-1 from wrap_i64 (by omega)]; rfl,⟨rfl,m,rfl,by omega,hcm⟩,?_⟩
  show((m:Int)-1+1).toNat<((m:Int)+1).toNat
  omega
 ·have:¬ i≥0:=of_decide_eq_false hlt
  have hz:n=0:=by omega
  subst hz
  refine⟨rfl,?_⟩
  rw [← hcm]; rfl
end Go.Proofs.YtfiakghfncempaaGreatDoor
namespace Go.Proofs.YtfiakghfncempaaGreatDoor
open Sx
set_option maxRecDepth 100000
theorem cI_natAdd (V:Know) (s s':SlV) (a b:List Lim) (f f':List Nat) (h:LR rI V s a f) (h':LR rI V s' b f') (ha:Lims a) (hb:Lims b) (la:a.length≤1000000) (lb:b.length≤1000000) :
  CallX Tryz.prog V 114 [Sc.val .l s,Sc.val .l s'] (fun V' r=>V.le V'∧∃ s'' o f'',r=Sc.val .l s''∧LR rI V' s'' o f''∧Own V V' f''∧Can o∧valN o=valN a+valN b∧o.length≤1000001):=by
 refine CallX.of_fits Tryz.mix (fI_natAdd _ _) fun _=>?_
 have hn:=h.1
 have hn':=h'.1
 obtain⟨m,hm,hm1,hm2,hm3⟩:∃ m:Nat,(if (s'.n:Int) > (s.n:Int) then (s'.n:Int) else (s.n:Int))=(m:Int)∧a.length≤m∧b.length≤m∧m≤1000000:=by
  by_cases hgt:(s'.n:Int) > (s.n:Int)
  ·exact⟨s'.n,by rw [if_pos hgt],by omega,by omega,by omega⟩
  ·exact⟨s.n,by rw [if_neg hgt],by omega,by omega,by omega⟩
 simp only [tI_natAdd,T.wp,hm]
 have hw:IntKind.i64.wrap ((m:Int)+1)=(m:Int)+1:=wrap_i64 (by omega)
 rw [hw]
 refine⟨⟨by omega,by omega,by omega,by omega⟩,?_⟩
 refine⟨fun y V'=>V'=V∧∃ (k:Nat) (o:List Lim),y.2.2.1=(k:Int)∧k≤m∧0≤(y.2.1:Int)∧(y.2.1:Int)≤1∧y.1.1=k∧y.1.2=o.map cellI∧o.length=k∧Lims o∧valTo o k+(y.2.1:Int)*1000000000 ^ k=valTo a k+valTo b k,
  fun y=>((m:Int)-(y.2.2.1:Int)).toNat,⟨((0,[]),(0:Int),(0:Int),()),rfl,rfl,0,[],rfl,by omega,by decide,by decide,rfl,rfl,rfl,lims_nil,rfl⟩,?_⟩
 rintro⟨⟨n1,ys⟩,(c:Int),(i:Int),u⟩ V' ⟨rfl,k,o,hi,hk,hc0,hc1,hn1,hys,hol,hlo,hv⟩
 replace hi:i=(k:Int):=hi
 replace hc0:0≤c:=hc0
 replace hc1:c≤1:=hc1
 replace hn1:n1=k:=hn1
 replace hys:ys=o.map cellI:=hys
 replace hv:valTo o k+c*1000000000 ^ k=valTo a k+valTo b k:=hv
 subst hi hn1 hys
 have la1:=ha n1
 have lb1:=hb n1
 refine⟨fun hlt=>?_,fun hge=>?_⟩
 ·have hkm:n1<m:=by
   have:(n1:Int)<(m:Int):=of_decide_eq_true hlt
   omega
  have hwi:IntKind.i64.wrap ((n1:Int)+1)=((n1+1:Nat):Int):=nxt hkm (by omega)
  have next:∀ t:Int,t=c+limb a n1+limb b n1→∃ y':LShs [.a 3,.o (.o (.i .i64)),.o (.o (.i .i64))],
    [LV.a 3 (n1+1) (o.map cellI++[.int .i64 (t.tmod (1000000000:Int))]),.v (.int .i64 (IntKind.i64.wrap (t.tdiv (1000000000:Int)))),.v (.int .i64 (IntKind.i64.wrap ((n1:Int)+1)))]=LShs.lvs _ y' ∧
    (V'=V'∧∃ (k:Nat) (o:List Lim),y'.2.2.1=(k:Int)∧k≤m∧0≤(y'.2.1:Int)∧(y'.2.1:Int)≤1∧y'.1.1=k∧y'.1.2=o.map cellI∧o.length=k∧Lims o∧valTo o k+(y'.2.1:Int)*1000000000 ^ k=valTo a k+valTo b k) ∧
    ((m:Int)-(y'.2.2.1:Int)).toNat<((m:Int)-(n1:Int)).toNat:=by
   intro t ht
   have ht0:0≤t:=by omega
   have htm:t.tmod 1000000000=t % 1000000000:=Int.tmod_eq_emod_of_nonneg ht0
   have htd:t.tdiv 1000000000=t / 1000000000:=Int.tdiv_eq_ediv_of_nonneg ht0
   have hwd:IntKind.i64.wrap (t / 1000000000)=t / 1000000000:=wrap_i64 (by omega)
   rw [htm,htd,hwi,hwd]
   refine⟨((n1+1,(o++[(t % 1000000000,())]).map cellI),t / 1000000000,((n1+1:Nat):Int),()),?_,⟨rfl,n1+1,o++[(t % 1000000000,())],rfl,hkm,(by omega:(0:Int)≤t / 1000000000),(by omega:t / 1000000000≤1),rfl,rfl,by simp [hol],lims_snoc hlo ⟨(by omega:(0:Int)≤t % 1000000000),(by omega:t % 1000000000<1000000000)⟩,?_⟩,?_⟩
   ·simp [LShs.lvs,LSh.lv,Sh1.val,Sc.val,cellI]
   ·have:=add_step (d:=t % 1000000000) (e:=t / 1000000000) hol hv (by omega)
    exact this
   ·show((m:Int)-((n1+1:Nat):Int)).toNat<_
    omega
  have hB:(1000000000:Int)≠0:=by decide
  refine⟨fun hxa=>?_,fun hxa=>?_⟩
  ·have hka:n1<a.length:=by
    have:(n1:Int)<(s.n:Int):=of_decide_eq_true hxa
    omega
   obtain⟨b1,o1,a1,l1⟩:=h.int hka
   have ea:a[n1].1=limb a n1:=(limb_lt hka).symm
   have e1:IntKind.i64.wrap (c+limb a n1)=c+limb a n1:=wrap_i64 (by omega)
   refine⟨_,a1,(by omega:(0:Int)≤(n1:Int)),(by omega:(n1:Int)<(s.n:Int)),limb a n1,by rw [← ea]; exact l1,?_⟩
   show(_→_)∧(_→_)
   refine⟨fun hxb=>?_,fun hxb=>?_⟩
   ·have hkb:n1<b.length:=by
     have:(n1:Int)<(s'.n:Int):=of_decide_eq_true hxb
     omega
    obtain⟨b2,o2,a2,l2⟩:=h'.int hkb
    have eb:b[n1].1=limb b n1:=(limb_lt hkb).symm
    have e2:IntKind.i64.wrap (c+limb a n1+limb b n1)=c+limb a n1+limb b n1:=wrap_i64 (by omega)
    refine⟨_,a2,(by omega:(0:Int)≤(n1:Int)),(by omega:(n1:Int)<(s'.n:Int)),limb b n1,by rw [← eb]; exact l2,hB,rfl,⟨rfl,(by omega:(n1+1)*8≤140737488355328),(by omega:n1+1≤9223372036854775807)⟩,hB,_,rfl,?_⟩
    have:=next _ (rfl:c+limb a n1+limb b n1=_)
    rw [← e2,← e1] at this
    exact this
   ·have hkb:b.length≤n1:=by
     have:¬ (n1:Int)<(s'.n:Int):=of_decide_eq_false hxb
     omega
    refine⟨hB,rfl,⟨rfl,(by omega:(n1+1)*8≤140737488355328),(by omega:n1+1≤9223372036854775807)⟩,hB,_,rfl,?_⟩
    have:=next (c+limb a n1) (by rw [limb_ge hkb]; omega)
    rw [← e1] at this
    exact this
  ·have hka:a.length≤n1:=by
    have:¬ (n1:Int)<(s.n:Int):=of_decide_eq_false hxa
    omega
   refine⟨fun hxb=>?_,fun hxb=>?_⟩
   ·have hkb:n1<b.length:=by
     have:(n1:Int)<(s'.n:Int):=of_decide_eq_true hxb
     omega
    obtain⟨b2,o2,a2,l2⟩:=h'.int hkb
    have eb:b[n1].1=limb b n1:=(limb_lt hkb).symm
    have e2:IntKind.i64.wrap (c+limb b n1)=c+limb b n1:=wrap_i64 (by omega)
    refine⟨_,a2,(by omega:(0:Int)≤(n1:Int)),(by omega:(n1:Int)<(s'.n:Int)),limb b n1,by rw [← eb]; exact l2,hB,rfl,⟨rfl,(by omega:(n1+1)*8≤140737488355328),(by omega:n1+1≤9223372036854775807)⟩,hB,_,rfl,?_⟩
    have:=next (c+limb b n1) (by rw [limb_ge hka]; omega)
    rw [← e2] at this
    exact this
   ·have hkb:b.length≤n1:=by
     have:¬ (n1:Int)<(s'.n:Int):=of_decide_eq_false hxb
     omega
    refine⟨hB,rfl,⟨rfl,(by omega:(n1+1)*8≤140737488355328),(by omega:n1+1≤9223372036854775807)⟩,hB,_,rfl,?_⟩
    exact next c (by rw [limb_ge hka,limb_ge hkb]; omega)
 ·have hkm:n1=m:=by
   have:¬ (n1:Int)<(m:Int):=of_decide_eq_false hge
   omega
  refine⟨rfl,⟨rfl,(by omega:(n1+1)*8≤140737488355328),(by omega:n1+1≤9223372036854775807)⟩,?_⟩
  intro bk cap spare hbk hcap _
  have hcap':n1+1≤cap:=hcap
  have hO:Lims (o++[(c,())]):=lims_snoc hlo ⟨hc0,(by omega:c<1000000000)⟩
  have hk:=newI (V:=V') (b:=bk) (cap:=cap) (o:=o++[(c,())]) (spare:=spare) (t:=3) hbk (by simp [hol]; omega) (by simp [hol]; omega)
  have hlen:(o++[((c:Int),())]).length=n1+1:=by simp [hol]
  have hys:o.map cellI++[(Sh1.o (.i .i64)).val c]=(o++[(c,())]).map cellI:=by simp [Sh1.val,Sc.val,cellI]
  have hle:=kset_le (x:=((o++[((c:Int),())]).map cellI++spare,((3:TypeId),((0,0):Nat × Nat)))) hbk
  obtain⟨hcan,hval⟩:=trim_can hO
  have key:=cI_trim _ _ _ _ hk.1
  rw [hlen] at key
  have e0:kset V' bk (o.map cellI++[(Sh1.o (.i .i64)).val c]++spare,((3:TypeId),((0,0):Nat × Nat)))=kset V' bk ((o++[(c,())]).map cellI++spare,(3,(0,0))):=by rw [hys]
  show CallX _ (kset V' bk (o.map cellI++[(Sh1.o (.i .i64)).val c]++spare,((3:TypeId),((0,0):Nat × Nat)))) _ _ _
  rw [e0]
  refine key.mono ?_
  rintro V2 r ⟨rfl,s2,rfl,hL⟩
  refine⟨nofun,s2,rfl,hle,s2,_,_,rfl,hL,hk.2,hcan,?_,?_⟩
  ·rw [hval,valN,hlen,valTo,valTo_snoc (by omega),← hol,limb_snoc,hol]
   show valTo o n1+c*1000000000 ^ n1=_
   rw [hv,valTo_ge (by omega),valTo_ge (by omega)]
  ·have:=tl_le (o++[((c:Int),())]) (o++[((c:Int),())]).length
   unfold trimL
   rw [List.length_take]
   omega
theorem cI_natSub (V:Know) (s s':SlV) (a b:List Lim) (f f':List Nat) (h:LR rI V s a f) (h':LR rI V s' b f') (ha:Lims a) (hb:Lims b) (la:a.length≤1000000) (lb:b.length≤a.length) (hge0:valN b≤valN a) :
  CallX Tryz.prog V 115 [Sc.val .l s,Sc.val .l s'] (fun V' r=>V.le V'∧∃ s'' o f'',r=Sc.val .l s''∧LR rI V' s'' o f''∧Own V V' f''∧Can o∧valN o=valN a-valN b∧o.length≤1000000):=by
 refine CallX.of_fits Tryz.mix (fI_natSub _ _) fun _=>?_
 have hn:=h.1
 have hn':=h'.1
 simp only [tI_natSub,T.wp]
 refine⟨⟨by omega,by omega,by omega,by omega⟩,?_⟩
 refine⟨fun y V'=>V'=V∧∃ (k:Nat) (o:List Lim) (rest:List Value),y.2.2.1=(k:Int)∧k≤a.length∧0≤(y.2.1:Int)∧(y.2.1:Int)≤1∧y.1.1=a.length∧y.1.2=o.map cellI++rest∧rest.length=a.length-k∧o.length=k∧Lims o∧valTo o k=valTo a k-valTo b k+(y.2.1:Int)*1000000000 ^ k,
  fun y=>((a.length:Int)-(y.2.2.1:Int)).toNat,
  ⟨(((s.n:Int).toNat,(madeCells ⟨[.int .i64 (0:Int)]⟩ ((s.n:Int).toNat*1)).toList),(0:Int),(0:Int),()),rfl,rfl,0,[],_,rfl,by omega,(by omega:(0:Int)≤0),(by omega:(0:Int)≤1),(by omega:(s.n:Int).toNat=a.length),rfl,by rw [made_len]; omega,rfl,lims_nil,rfl⟩,?_⟩
 rintro⟨⟨n1,ys⟩,(c:Int),(i:Int),u⟩ V' ⟨rfl,k,o,rest,hi,hk,hc0,hc1,hn1,hys,hrest,hol,hlo,hv⟩
 replace hi:i=(k:Int):=hi
 replace hc0:0≤c:=hc0
 replace hc1:c≤1:=hc1
 replace hn1:n1=a.length:=hn1
 replace hys:ys=o.map cellI++rest:=hys
 replace hv:valTo o k=valTo a k-valTo b k+c*1000000000 ^ k:=hv
 subst hi hn1 hys
 have la1:=ha k
 have lb1:=hb k
 refine⟨fun hlt=>?_,fun hge=>?_⟩
 ·have hka:k<a.length:=by
   have:(k:Int)<(s.n:Int):=of_decide_eq_true hlt
   omega
  have hwi:IntKind.i64.wrap ((k:Int)+1)=((k+1:Nat):Int):=nxt hka (by omega)
  have hfit:(k:Int).toNat*1+1≤(o.map cellI++rest).length:=by simp [hol]; omega
  have next:∀ t e:Int,t=limb a k-c-limb b k+1000000000*e→0≤t→t<1000000000→0≤e→e≤1→∃ y':LShs [.a 3,.o (.o (.i .i64)),.o (.o (.i .i64))],
    [LV.a 3 a.length (setl (o.map cellI++rest) ((k:Int).toNat*1) [.int .i64 t]),.v (.int .i64 e),.v (.int .i64 (IntKind.i64.wrap ((k:Int)+1)))]=LShs.lvs _ y' ∧
    (V'=V'∧∃ (k:Nat) (o:List Lim) (rest:List Value),y'.2.2.1=(k:Int)∧k≤a.length∧0≤(y'.2.1:Int)∧(y'.2.1:Int)≤1∧y'.1.1=a.length∧y'.1.2=o.map cellI++rest∧rest.length=a.length-k∧o.length=k∧Lims o∧valTo o k=valTo a k-valTo b k+(y'.2.1:Int)*1000000000 ^ k) ∧
    ((a.length:Int)-(y'.2.2.1:Int)).toNat<((a.length:Int)-(k:Int)).toNat:=by
   intro t e ht ht0 ht1 he0 he1
   rw [hwi]
   have hset:setl (o.map cellI++rest) ((k:Int).toNat*1) [.int .i64 t]=(o++[(t,())]).map cellI++rest.drop 1:=by
    rw [setl_mid (by simp [hol]) (by simp; omega)]
    simp [cellI]
   rw [hset]
   refine⟨((a.length,(o++[(t,())]).map cellI++rest.drop 1),e,((k+1:Nat):Int),()),rfl,⟨rfl,k+1,o++[(t,())],rest.drop 1,rfl,hka,he0,he1,rfl,rfl,by simp [hrest]; omega,by simp [hol],lims_snoc hlo ⟨ht0,ht1⟩,sub_step hol hv ht⟩,?_⟩
   show((a.length:Int)-((k+1:Nat):Int)).toNat<_
   omega
  obtain⟨b1,o1,a1,l1⟩:=h.int hka
  have ea:a[k].1=limb a k:=(limb_lt hka).symm
  have e1:IntKind.i64.wrap (limb a k-c)=limb a k-c:=wrap_i64 (by omega)
  refine⟨_,a1,(by omega:(0:Int)≤(k:Int)),(by omega:(k:Int)<(s.n:Int)),limb a k,by rw [← ea]; exact l1,?_⟩
  have hin:(0:Int)≤(k:Int)∧(k:Int)<((a.length:Nat):Int):=⟨by omega,by omega⟩
  show(_→_)∧(_→_)
  rw [e1]
  refine⟨fun hxb=>?_,fun hxb=>?_⟩
  ·have hkb:k<b.length:=by
    have:(k:Int)<(s'.n:Int):=of_decide_eq_true hxb
    omega
   obtain⟨b2,o2,a2,l2⟩:=h'.int hkb
   have eb:b[k].1=limb b k:=(limb_lt hkb).symm
   have e2:IntKind.i64.wrap (limb a k-c-limb b k)=limb a k-c-limb b k:=wrap_i64 (by omega)
   refine⟨_,a2,(by omega:(0:Int)≤(k:Int)),(by omega:(k:Int)<(s'.n:Int)),limb b k,by rw [← eb]; exact l2,?_⟩
   show(_→_)∧(_→_)
   rw [e2]
   refine⟨fun hneg=>?_,fun hpos=>?_⟩
   ·have hneg':limb a k-c-limb b k<0:=of_decide_eq_true hneg
    have e3:IntKind.i64.wrap (limb a k-c-limb b k+1000000000)=limb a k-c-limb b k+1000000000:=wrap_i64 (by omega)
    rw [e3]
    exact⟨hin,hfit,_,rfl,next _ 1 (by omega) (by omega) (by omega) (by omega) (by omega)⟩
   ·have hpos':¬ limb a k-c-limb b k<0:=of_decide_eq_false hpos
    exact⟨hin,hfit,_,rfl,next _ 0 (by omega) (by omega) (by omega) (by omega) (by omega)⟩
  ·have hkb:b.length≤k:=by
    have:¬ (k:Int)<(s'.n:Int):=of_decide_eq_false hxb
    omega
   have z:=limb_ge hkb
   refine⟨fun hneg=>?_,fun hpos=>?_⟩
   ·have hneg':limb a k-c<0:=of_decide_eq_true hneg
    have e3:IntKind.i64.wrap (limb a k-c+1000000000)=limb a k-c+1000000000:=wrap_i64 (by omega)
    rw [e3]
    exact⟨hin,hfit,_,rfl,next _ 1 (by omega) (by omega) (by omega) (by omega) (by omega)⟩
   ·have hpos':¬ limb a k-c<0:=of_decide_eq_false hpos
    exact⟨hin,hfit,_,rfl,next _ 0 (by omega) (by omega) (by omega) (by omega) (by omega)⟩
 ·have hkm:k=a.length:=by
   have:¬ (k:Int)<(s.n:Int):=of_decide_eq_false hge
   omega
  have hr0:rest=[]:=List.eq_nil_of_length_eq_zero (by omega)
  subst hr0
  intro bk cap spare hbk hcap _
  have hcap':a.length≤cap:=hcap
  have hk:=newI (V:=V') (b:=bk) (cap:=cap) (o:=o) (spare:=spare) (t:=3) hbk (by omega) (by omega)
  have hle:=kset_le (x:=(o.map cellI++spare,((3:TypeId),((0,0):Nat × Nat)))) hbk
  obtain⟨hcan,hval⟩:=trim_can hlo
  have key:=cI_trim _ _ _ _ hk.1
  rw [show o.length=a.length by omega] at key
  show CallX _ (kset V' bk (o.map cellI++[]++spare,((3:TypeId),((0,0):Nat × Nat)))) _ _ _
  rw [List.append_nil]
  refine key.mono ?_
  rintro V2 r ⟨rfl,s2,rfl,hL⟩
  refine⟨nofun,s2,rfl,hle,s2,_,_,rfl,hL,hk.2,hcan,?_,?_⟩
  ·rw [hval,valN,show o.length=k by omega,hv]
   have hbd:=valTo_bd hlo k
   rw [hv] at hbd
   rw [valTo_ge (show a.length≤k by omega),valTo_ge (show b.length≤k by omega)] at hbd ⊢
   have hc:c=0:=by
    rcases(show c=0∨c=1 by omega) with hc | hc
    ·exact hc
    ·exfalso
     rw [hc,Int.one_mul] at hbd
     omega
   rw [hc]; simp
  ·have:=tl_le o o.length
   unfold trimL
   rw [List.length_take]
   omega
end Go.Proofs.YtfiakghfncempaaGreatDoor
namespace Go.Proofs.YtfiakghfncempaaGreatDoor
open Sx Srt
set_option maxRecDepth 100000
theorem cX_stable {lt:PrC→PrC→Prop} (tr:∀ x y z,lt x y→lt y z→lt x z) {U V:Know} {b:Nat} {t:TypeId} {post:List Value} {s:SlV} {Z:List PrC} (ha:s.a=some ⟨b,0,none⟩) (hn:s.n=Z.length) (hl:Z.length≤39) (h:AtR (sh:=prSh) U b t post Z V) (lin:Lin lt Z) (hC:Cmp U lt Z) :
  CallX Tryz.prog V 326 [Sc.val .l s,.int .i64 (Z.length:Int),fnP] (fun V' r=>r=.tuple #[]∧∃ Z',AtR (sh:=prSh) U b t post Z' V'∧Upd 0 Z.length Z Z'∧Sr lt 0 Z.length Z'):=by
 refine CallX.of_fits Tryz.mix (fX_stableCmpFunc_part _ _) fun _=>?_
 simp only [tX_stableCmpFunc_part,T.wp]
 refine⟨fun q V'=>∃ Y:List PrC,AtR (sh:=prSh) U b t post Y V'∧Upd 0 Z.length Z Y∧((q.1=(0:Int)∧q.2.1=(20:Int))∨(q.1=(20:Int)∧q.2.1=(40:Int)∧20≤Z.length∧Sr lt 0 20 Y)),fun q _=>(60-(q.2.1:Int)).toNat,⟨((0:Int),(20:Int),()),rfl,Z,h,.rf,.inl ⟨rfl,rfl⟩⟩,?_⟩
 rintro⟨(x:Int),(y:Int),u⟩ V1 ⟨Y,hA,hU,hS⟩
 have hyl:=hU.len
 have linY:=lin.upd hU
 have hCY:=hC.upd hU
 refine⟨fun hlt=>?_,fun hge=>?_⟩
 ·have k:y≤(Z.length:Int):=of_decide_eq_true hlt
  rcases hS with ⟨e1,e2⟩ | ⟨e1,e2,_⟩
  ·replace e1:x=0:=e1
   replace e2:y=20:=e2
   subst e1 e2
   refine(cX_insertionSort tr ha (by omega) (by omega) hA linY hCY (x:=0) (y:=20) (by omega) (by omega)).mono ?_
   rintro V2 r ⟨rfl,Y2,hA2,hU2,hS2⟩
   refine⟨nofun,(),rfl,_,rfl,((20:Int),(40:Int),()),rfl,⟨Y2,hA2,hU.tr (hU2.mono (Nat.le_refl _) (by omega)),.inr ⟨rfl,rfl,by omega,hS2⟩⟩,by show(60-(40:Int)).toNat<(60-(20:Int)).toNat; decide⟩
  ·replace e2:y=40:=e2
   omega
 have k0:¬ y≤(Z.length:Int):=of_decide_eq_false hge
 have mid:∃ p:Nat,x=(p:Int)∧p≤Z.length∧((p=0∧Z.length<20)∨(p=20∧20≤Z.length∧Sr lt 0 20 Y)):=by
  rcases hS with ⟨e1,e2⟩ | ⟨e1,e2,e3,e4⟩
  ·replace e1:x=0:=e1
   replace e2:y=20:=e2
   exact⟨0,e1,by omega,.inl ⟨rfl,by omega⟩⟩
  ·exact⟨20,e1,e3,.inr ⟨rfl,e3,e4⟩⟩
 obtain⟨p,rfl,hp,hS1⟩:=mid
 refine(cX_insertionSort tr ha (by omega) (by omega) hA linY hCY (x:=p) (y:=Z.length) (by omega) (by omega)).mono ?_
 rintro V2 r ⟨rfl,Y2,hA2,hU2,hS2⟩
 refine⟨nofun,(),rfl,?_⟩
 refine⟨fun q V'=>∃ X:List PrC,AtR (sh:=prSh) U b t post X V'∧Upd 0 Z.length Z X∧((q.1=(20:Int)∧((Z.length≤20∧Sr lt 0 Z.length X)∨(20<Z.length∧Sr lt 0 20 X∧Sr lt 20 Z.length X)))∨(q.1=(40:Int)∧Sr lt 0 Z.length X)),fun q _=>(60-(q.1:Int)).toNat,⟨((20:Int),()),rfl,Y2,hA2,hU.tr (hU2.mono (by omega) (Nat.le_refl _)),.inl ⟨rfl,?_⟩⟩,?_⟩
 ·rcases hS1 with ⟨rfl,e⟩ | ⟨rfl,e,e2⟩
  ·exact .inl ⟨by omega,hS2⟩
  ·have e3:Sr lt 0 20 Y2:=e2.congr fun k _ k2=>hU2.lo k2
   by_cases q:Z.length=20
   ·exact .inl ⟨by omega,by rw [q]; exact e3⟩
   ·exact .inr ⟨by omega,e3,hS2⟩
 rintro⟨(bs:Int),u2⟩ V3 ⟨X,hA3,hU3,hS3⟩
 have hxl:=hU3.len
 refine⟨fun hlt=>?_,fun hge=>?_⟩
 ·have k:bs<(Z.length:Int):=of_decide_eq_true hlt
  rcases hS3 with ⟨e1,hS3⟩ | ⟨e1,_⟩
  ·replace e1:bs=20:=e1
   subst e1
   obtain⟨q1,q2,q3⟩:20<Z.length∧Sr lt 0 20 X∧Sr lt 20 Z.length X:=by
    rcases hS3 with ⟨e,_⟩ | e
    ·omega
    ·exact e
   refine⟨fun q V'=>q.1=(0:Int)∧q.2.1=(40:Int)∧V'=V3,fun _ _=>0,⟨((0:Int),(40:Int),()),rfl,rfl,rfl,rfl⟩,?_⟩
   rintro⟨(a:Int),(c:Int),u3⟩ V4 ⟨e1,e2,rfl⟩
   replace e1:a=0:=e1
   replace e2:c=40:=e2
   subst e1 e2
   refine⟨fun hlt2=>?_,fun hge2=>⟨fun hlt3=>?_,fun hge3=>?_⟩⟩
   ·have:(40:Int)≤(Z.length:Int):=of_decide_eq_true hlt2
    omega
   ·refine(cX_symMerge tr ha Z.length V4 X 0 20 Z.length (by omega) (by omega) (by omega) hA3 (lin.upd hU3) (hC.upd hU3) (by omega) q1 (by omega) q2 q3).mono ?_
    rintro V5 r ⟨rfl,X2,hA5,hU5,hS5⟩
    exact⟨nofun,(),rfl,_,rfl,((40:Int),()),rfl,⟨X2,hA5,hU3.tr hU5,.inr ⟨rfl,hS5⟩⟩,by show(60-(40:Int)).toNat<(60-(20:Int)).toNat; decide⟩
   ·have:¬ (20:Int)<(Z.length:Int):=of_decide_eq_false hge3
    omega
  ·replace e1:bs=40:=e1
   omega
 ·have k:¬ bs<(Z.length:Int):=of_decide_eq_false hge
  refine⟨rfl,X,hA3,hU3,?_⟩
  rcases hS3 with ⟨e1,⟨_,e⟩ | ⟨e,_⟩⟩ | ⟨_,e⟩
  ·exact e
  ·replace e1:bs=20:=e1
   omega
  ·exact e
theorem cX_SortStable {lt:PrC→PrC→Prop} (tr:∀ x y z,lt x y→lt y z→lt x z) {U V:Know} {b:Nat} {t:TypeId} {post:List Value} {s:SlV} {Z:List PrC} (ha:s.a=some ⟨b,0,none⟩) (hn:s.n=Z.length) (hl:Z.length≤39) (h:AtR (sh:=prSh) U b t post Z V) (lin:Lin lt Z) (hC:Cmp U lt Z) :
  CallX Tryz.prog V 323 [Sc.val .l s,fnP] (fun V' r=>r=.tuple #[]∧∃ Z',AtR (sh:=prSh) U b t post Z' V'∧Upd 0 Z.length Z Z'∧Sr lt 0 Z.length Z'):=by
 refine CallX.of_fits Tryz.mix (fX_SortStableFunc_part _) fun _=>?_
 simp only [tX_SortStableFunc_part,T.wp]
 rw [hn]
 refine(cX_stable tr ha hn hl h lin hC).mono ?_
 rintro V' r ⟨rfl,k⟩
 exact⟨nofun,(),rfl,rfl,k⟩
theorem one_rows:∀ Z:List PrC,one (Z.flatMap (Scs.vals prSh))=true
 | []=>rfl
 | c :: Z=>by
  have ih:=one_rows Z
  rw [List.flatMap_cons]
  unfold one at ih ⊢
  rw [List.all_append,ih]
  rfl
theorem cX_Clone {V:Know} {b c:Nat} {t:KTy} {post:List Value} {Z:List PrC} (hb:V b=some (Z.flatMap (Scs.vals prSh)++post,t)) (hl:Z.length≤1048576) :
  CallX Tryz.prog V 322 [.slice (some ⟨b,0,none⟩) Z.length c] (fun V' r=>∃ b2 c2 post2,r=.slice (some ⟨b2,0,none⟩) Z.length c2∧Z.length≤c2∧V b2=none∧V'=kset V b2 (Z.flatMap (Scs.vals prSh)++post2,(322,(0,0)))):=by
 refine CallX.of_fits Tryz.mix (fX_Clone_part_s _ _ _) fun _=>?_
 simp only [tX_Clone_part_s,T.wp]
 refine⟨nofun,fun _=>?_⟩
 have hfl:(Z.flatMap (Scs.vals prSh)).length=Z.length*2:=flat_len (sh:=prSh) Z
 refine⟨Z.flatMap (Scs.vals prSh),.inr ⟨_,rfl,?_⟩,one_rows Z,⟨one_rows Z,(by omega:(0+Z.length)*32≤140737488355328),(by omega:0+Z.length≤9223372036854775807)⟩,?_⟩
 ·simp only [loadV,hb]
  rw [← hfl]; exact cutv_head
 ·intro b2 c2 sp hb2 hc2 _
  refine⟨b2,c2,sp,?_,by omega,hb2,rfl⟩
  show Value.slice _ (0+Z.length) c2=_
  rw [Nat.zero_add]
theorem cI_sortBy {lt:PrC→PrC→Prop} (tr:∀ x y z,lt x y→lt y z→lt x z) {V:Know} {b c:Nat} {t:KTy} {post:List Value} {Z:List PrC} (hb:V b=some (Z.flatMap (Scs.vals prSh)++post,t)) (hl:Z.length≤39) (lin:Lin lt Z) (hC:Cmp V lt Z) :
  CallX Tryz.prog V 314 [.slice (some ⟨b,0,none⟩) Z.length c,fnP] (fun V' r=>∃ b2 c2 post2 Z',r=.slice (some ⟨b2,0,none⟩) Z.length c2∧Z.length≤c2∧V b2=none∧V.le V'∧V' b2=some (Z'.flatMap (Scs.vals prSh)++post2,(322,(0,0)))∧Z'.Perm Z∧Sr lt 0 Z.length Z'):=by
 refine CallX.of_fits Tryz.mix (fI_sortBy_loop_example_g00793_impl_part_ (⟨some ⟨b,0,none⟩,Z.length,c⟩:SlV)) fun _=>?_
 simp only [tI_sortBy_loop_example_g00793_impl_part_,T.wp]
 refine(cX_Clone hb (by omega)).mono ?_
 rintro V1 r ⟨b2,c2,post2,rfl,hc2,hb2,rfl⟩
 have le:=kset_le (x:=(Z.flatMap (Scs.vals prSh)++post2,((322:TypeId),((0,0):Nat × Nat)))) hb2
 refine⟨nofun,(⟨some ⟨b2,0,none⟩,Z.length,c2⟩:SlV),rfl,?_⟩
 refine(cX_SortStable tr (s:=(⟨some ⟨b2,0,none⟩,Z.length,c2⟩:SlV)) rfl rfl hl (U:=V) ⟨hb2,le,kset_same⟩ lin hC).mono ?_
 rintro V2 r ⟨rfl,Z',hA,hU,hS⟩
 exact⟨nofun,(),rfl,b2,c2,post2,Z',rfl,hc2,hb2,hA.2.1,hA.2.2,hU.1,hS⟩
theorem cX_isNaN (V:Know) (x:Int):CallX Tryz.prog V 324 [.int .i64 x] (fun V' r=>V'=V∧r=.bool false):=by
 refine CallX.of_fits Tryz.mix (fX_isNaN_int _) fun _=>?_
 simp only [tX_isNaN_int,T.wp]
 refine⟨by trivial,?_⟩
 show Value.bool (x != x)=_
 simp
theorem cX_Compare (V:Know) (x y:Int):CallX Tryz.prog V 317 [.int .i64 x,.int .i64 y] (fun V' r=>V'=V∧r=.int .i64 (if x<y then -1 else if y<x then 1 else 0)):=by
 refine CallX.of_fits Tryz.mix (fX_Compare_int _ _) fun _=>?_
 simp only [tX_Compare_int,T.wp]
 refine(cX_isNaN V x).mono ?_
 rintro V1 r ⟨rfl,rfl⟩
 refine⟨nofun,_,rfl,(cX_isNaN V1 y).mono ?_⟩
 rintro V2 r ⟨rfl,rfl⟩
 refine⟨nofun,_,rfl,(fun h=>by cases h),fun _=>⟨(fun h=>by cases h),fun _=>⟨fun h=>?_,fun h=>⟨fun k=>?_,fun k=>?_⟩⟩⟩⟩
 ·rw [if_pos (of_decide_eq_true h)]; exact⟨by trivial,rfl⟩
 ·have h':¬ x<y:=of_decide_eq_false h
  have k':x > y:=of_decide_eq_true k
  rw [if_neg h',if_pos k']; exact⟨by trivial,rfl⟩
 ·have h':¬ x<y:=of_decide_eq_false h
  have k':¬ x > y:=of_decide_eq_false k
  rw [if_neg h',if_neg (show ¬ y<x from k')]; exact⟨by trivial,rfl⟩
theorem cX_Or2 (V:Know) (b:Nat) (t:KTy) (x y:Int) (hb:V b=some ([.int .i64 x,.int .i64 y],t)):CallX Tryz.prog V 316 [.slice (some ⟨b,0,none⟩) 2 2] (fun V' r=>V'=V∧r=.int .i64 (if x≠0 then x else y)):=by
 refine CallX.of_fits Tryz.mix (fX_Or_int (⟨some ⟨b,0,none⟩,2,2⟩:SlV)) fun _=>?_
 simp only [tX_Or_int,T.wp]
 refine⟨fun q V'=>V'=V∧((q.1=(0:Int))∨(q.1=(1:Int)∧x=0)∨(q.1=(2:Int)∧x=0∧y=0)),fun q _=>(2-(q.1:Int)).toNat,⟨((0:Int),()),rfl,rfl,.inl rfl⟩,?_⟩
 rintro⟨(i:Int),u⟩ V' ⟨rfl,hi⟩
 refine⟨fun hlt=>?_,fun hge=>?_⟩
 ·have k:i<2:=of_decide_eq_true hlt
  rcases hi with hi | ⟨hi,h0⟩ | ⟨hi,_⟩
  ·replace hi:i=0:=hi
   subst hi
   have l0:loadV V' ((⟨b,0,none⟩:Addr).add (0*1)) 1=some [.int .i64 x]:=by simp only [loadV,addr_add_eq,hb]; rfl
   refine⟨_,rfl,(by show(0:Int)≤0; decide),(by show(0:Int)<2; decide),x,l0,fun hne=>?_,fun he=>?_⟩
   ·have:x≠0:=by simpa using hne
    rw [if_pos this]; exact⟨by trivial,rfl⟩
   ·have:x=0:=by simpa using he
    exact⟨_,rfl,((1:Int),()),rfl,⟨by trivial,.inr (.inl ⟨rfl,this⟩)⟩,by show(2-(1:Int)).toNat<(2-(0:Int)).toNat; decide⟩
  ·replace hi:i=1:=hi
   subst hi
   have l0:loadV V' ((⟨b,0,none⟩:Addr).add (1*1)) 1=some [.int .i64 y]:=by simp only [loadV,addr_add_eq,hb]; rfl
   refine⟨_,rfl,(by show(0:Int)≤1; decide),(by show(1:Int)<2; decide),y,l0,fun hne=>?_,fun he=>?_⟩
   ·rw [if_neg (by simp [h0])]; exact⟨by trivial,rfl⟩
   ·have:y=0:=by simpa using he
    exact⟨_,rfl,((2:Int),()),rfl,⟨by trivial,.inr (.inr ⟨rfl,h0,this⟩)⟩,by show(2-(2:Int)).toNat<(2-(1:Int)).toNat; decide⟩
  ·replace hi:i=2:=hi
   omega
 ·have k:¬ i<2:=of_decide_eq_false hge
  rcases hi with hi | ⟨hi,h0⟩ | ⟨hi,h0,h1⟩
  ·replace hi:i=0:=hi
   omega
  ·replace hi:i=1:=hi
   omega
  ·rw [if_neg (by simp [h0]),h1]; exact⟨by trivial,rfl⟩
def PrLt (ρ:Int→List Lim) (c d:PrC):Prop:=valN (ρ d.1)<valN (ρ c.1)∨(valN (ρ c.1)=valN (ρ d.1)∧c.1<d.1)
theorem PrLt.tr {ρ:Int→List Lim}:∀ x y z,PrLt ρ x y→PrLt ρ y z→PrLt ρ x z:=fun x y z h k=>by unfold PrLt at *; omega
theorem cmp_parts {ρ:Int→List Lim} {U:Know} {Z:List PrC} (hR:∀ c∈Z,(∃ f,LR rI U c.2.1 (ρ c.1) f)∧Can (ρ c.1)):Cmp U (PrLt ρ) Z:=by
 rintro V ⟨i,s,u⟩ ⟨j,s',u'⟩ le hc hd
 obtain⟨⟨f,L⟩,cc⟩:=hR _ hc
 obtain⟨⟨f',L'⟩,cd⟩:=hR _ hd
 replace L:LR rI U s (ρ i) f:=L
 replace L':LR rI U s' (ρ j) f':=L'
 replace cc:Can (ρ i):=cc
 replace cd:Can (ρ j):=cd
 refine CallX.of_fits Tryz.mix (fI_Shares_1 _ _) fun _=>?_
 simp only [tI_Shares_1,T.wp]
 refine(cI_natCmp V s' s _ _ _ _ (L'.le le) (L.le le)).mono ?_
 rintro V1 r ⟨rfl,rfl⟩
 refine⟨fun _=>Know.le.refl _,_,rfl,(cX_Compare V1 i j).mono ?_⟩
 rintro V2 r ⟨rfl,rfl⟩
 refine⟨nofun,_,rfl,fun b hb=>?_⟩
 refine(cX_Or2 _ b _ _ _ kset_same).mono ?_
 rintro V3 r ⟨rfl,rfl⟩
 refine⟨nofun,_,rfl,kset_le hb,_,rfl,?_⟩
 have hcmp:=cmpL_val cd cc
 unfold Cmps at hcmp
 show _↔valN (ρ j)<valN (ρ i)∨(valN (ρ i)=valN (ρ j)∧i<j)
 repeat' split
 all_goals omega
end Go.Proofs.YtfiakghfncempaaGreatDoor
