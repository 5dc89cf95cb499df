/-
  What the program's functions on lists of limbs give: trim, copy, comparison, sum, difference.
-/
import Derived.Test.YtccnjccabllcaaaGreatDoorMath
import Derived.Test.YtccnjccabllcaaaGreatDoorT
import Derived.Test.YtccnjccabllcaaaGreatDoorCur
namespace Go.Proofs.YtccnjccabllcaaaGreatDoor
open Sx
set_option maxRecDepth 100000
theorem els_int {V:Know}:∀ o:List Lim,Els rI V o o []
 | []=>rfl
 | _ :: o=>⟨[],[],rfl,⟨rfl,rfl⟩,els_int o⟩
theorem els_int_eq {V:Know}:∀ {cs l:List Lim} {f:List Nat},Els rI V cs l f→cs=l∧f=[]
 | [],[],_,h=>⟨rfl,h⟩
 | (c,()) :: cs,(x,()) :: l,_,⟨f,g,rfl,h1,h2⟩=>by
  obtain⟨rfl,rfl⟩:=els_int_eq h2
  have e1:c=x:=h1.1
  have e2:f=[]:=h1.2
  subst e1; subst e2
  exact⟨rfl,rfl⟩
def cellI (x:Lim):Value:=.int .i64 x.1
theorem flat_int:∀ o:List Lim,o.flatMap (Scs.vals [.i .i64])=o.map cellI
 | []=>rfl
 | x :: o=>by rw [List.flatMap_cons,flat_int o]; rfl
theorem one_int:∀ o:List Lim,one (o.map cellI)=true
 | []=>rfl
 | x :: o=>by
  have:=one_int o
  unfold one at this ⊢
  rw [List.map_cons,List.all_cons,this]; rfl
theorem LR.shrink {V:Know} {s:SlV} {l:List Lim} {f:List Nat} (h:LR rI V s l f) {k:Nat} (hk:k≤l.length):LR rI V ⟨s.a,k,s.c⟩ (l.take k) f:=by
 obtain⟨h1,h2,h3,h4⟩:=h
 refine⟨by simp; omega,(by omega:k≤s.c),(by omega:k≤9223372036854775807),?_⟩
 rcases h4 with ⟨h0,hc,hf⟩ | ⟨b,pre,post,t,fps,cs,k1,k2,k3,rfl⟩
 ·exact .inl ⟨(by omega:k=0),hc,hf⟩
 ·obtain⟨rfl,rfl⟩:=els_int_eq k3
  refine .inr ⟨b,pre,(cs.drop k).flatMap (Scs.vals [.i .i64])++post,t,[],cs.take k,k1,?_,els_int _,rfl⟩
  have e:(cs.take k).flatMap (Scs.vals [.i .i64])++((cs.drop k).flatMap (Scs.vals [.i .i64])++post)=cs.flatMap (Scs.vals [.i .i64])++post:=by
   rw [← List.append_assoc,← List.flatMap_append,List.take_append_drop]
  rw [k2,e]
theorem LR.rdI {V:Know} {s:SlV} {l:List Lim} {f:List Nat} (h:LR rI V s l f) :
  ((s.n=0∧(s.a=none→s.c=0)∧l.map cellI=[])∨∃ ad,s.a=some ad∧loadV V ad (s.n*1)=some (l.map cellI))∧one (l.map cellI)=true:=by
 obtain⟨h1,h2,h3,h4⟩:=h
 refine⟨?_,one_int l⟩
 rcases h4 with ⟨h0,hc,hf⟩ | ⟨b,pre,post,t,fps,cs,k1,k2,k3,rfl⟩
 ·have:l=[]:=List.eq_nil_of_length_eq_zero (by omega)
  subst this
  exact .inl ⟨h0,hc,rfl⟩
 ·obtain⟨rfl,rfl⟩:=els_int_eq k3
  refine .inr ⟨_,k1,?_⟩
  simp only [loadV,k2]
  have:=cutv_skip (x:=pre) (y:=cs.flatMap (Scs.vals [.i .i64])++post) (o:=0) (n:=s.n*1)
  rw [Nat.add_zero] at this
  rw [this,flat_int,h1,Nat.mul_one]
  have:=cutv_head (x:=cs.map cellI) (y:=post)
  rwa [List.length_map] at this
theorem newI {V:Know} {b cap:Nat} {o:List Lim} {spare:List Value} {t:TypeId} (hb:V b=none) (hc:o.length≤cap) (hl:o.length≤9223372036854775807) :
  LR rI (kset V b (o.map cellI++spare,(t,(0,0)))) ⟨some ⟨b,0,none⟩,o.length,cap⟩ o [b]∧Own V (kset V b (o.map cellI++spare,(t,(0,0)))) [b]:=by
 refine⟨⟨rfl,hc,hl,.inr ⟨b,[],spare,(t,(0,0)),[],o,rfl,?_,els_int o,rfl⟩⟩,by simp,?_,?_⟩
 ·rw [kset_same,flat_int]; rfl
 ·intro b' hb'; simp at hb'; subst hb'; exact hb
 ·intro b' hb'; simp at hb'; subst hb'; exact⟨_,_,kset_same⟩
theorem cI_natCopy (V:Know) (s:SlV) (l:List Lim) (f:List Nat) (h:LR rI V s l f) (hl:l.length≤1048576) :
  CallX Tryz.prog V gI_natCopy [Sc.val .l s] (fun V' r=>V.le V'∧∃ s' f',r=Sc.val .l s'∧LR rI V' s' l f'∧Own V V' f'):=by
 refine CallX.of_fits Tryz.mix (fI_natCopy s) fun _=>?_
 simp only [tI_natCopy,T.wp]
 obtain⟨h1,h2⟩:=h.rdI
 have hn:=h.1
 refine⟨_,h1,h2,⟨h2,(by omega:(0+s.n)*8≤140737488355328),(by omega:0+s.n≤9223372036854775807)⟩,?_⟩
 intro b cap spare hb hc _
 have hk:=newI (o:=l) (spare:=spare) (t:=3) (cap:=cap) hb (by omega) (by omega)
 refine⟨kset_le hb,⟨some ⟨b,0,none⟩,0+s.n,cap⟩,[b],rfl,?_,hk.2⟩
 rw [Nat.zero_add,hn]; exact hk.1
theorem cmp_body {l l':List Lim} {n:Nat}:cmpAt l l' (n+1)=if limb l n<limb l' n then -1 else if limb l n > limb l' n then 1 else cmpAt l l' n:=rfl
theorem cI_natCmp (V:Know) (s s':SlV) (l l':List Lim) (f f':List Nat) (h:LR rI V s l f) (h':LR rI V s' l' f') :
  CallX Tryz.prog V gI_natCmp [Sc.val .l s,Sc.val .l s'] (fun V' r=>V'=V∧r=.int .i64 (cmpL l l')):=by
 refine CallX.of_fits Tryz.mix (fI_natCmp _ _) fun _=>?_
 simp only [tI_natCmp,T.wp]
 have hn:=h.1
 have hn':=h'.1
 have hb:=h.2.2.1
 refine⟨fun hne=>?_,fun heq=>?_⟩
 ·have hne':l.length≠l'.length:=by
   have:((s.n:Nat):Int)≠((s'.n:Nat):Int):=by simpa using hne
   omega
  refine⟨fun hlt=>⟨by trivial,?_⟩,fun hge=>⟨by trivial,?_⟩⟩
  ·have:(s.n:Int)<(s'.n:Int):=of_decide_eq_true hlt
   rw [cmpL,if_pos hne',if_pos (by omega)]; rfl
  ·have:¬ (s.n:Int)<(s'.n:Int):=of_decide_eq_false hge
   rw [cmpL,if_pos hne',if_neg (by omega)]; rfl
 have hl:l.length=l'.length:=by
  have:((s.n:Nat):Int)=((s'.n:Nat):Int):=by simpa using heq
  omega
 have hc:cmpL l l'=cmpAt l l' l.length:=by rw [cmpL,if_neg (by simpa using hl)]
 rw [hc]
 have hw:IntKind.i64.wrap ((s.n:Int)-1)=(s.n:Int)-1:=wrap_i64 (by omega)
 refine⟨fun y V'=>V'=V∧∃ n:Nat,y.1=(n:Int)-1∧n≤l.length∧cmpAt l l' n=cmpAt l l' l.length,fun y=>((y.1:Int)+1).toNat,
  ⟨((s.n:Int)-1,()),by rw [hw]; rfl,rfl,l.length,by rw [hn],Nat.le_refl _,rfl⟩,?_⟩
 rintro⟨(i:Int),u⟩ V' ⟨rfl,n,hi,hle,hcm⟩
 replace hi:i=(n:Int)-1:=hi
 refine⟨fun hge=>?_,fun hlt=>?_⟩
 ·have hge':i≥0:=of_decide_eq_true hge
  obtain⟨m,rfl⟩:∃ m,n=m+1:=⟨n-1,by omega⟩
  have hi:i=(m:Int):=by omega
  subst hi
  have h1:m<l.length:=hle
  have h2:m<l'.length:=by omega
  obtain⟨b1,o1,a1,l1⟩:=h.int h1
  obtain⟨b2,o2,a2,l2⟩:=h'.int h2
  rw [cmp_body,limb_lt h1,limb_lt h2] at hcm
  refine⟨_,a1,by omega,(by omega:(m:Int)<(s.n:Int)),l[m].1,l1,_,a2,by omega,(by omega:(m:Int)<(s'.n:Int)),l'[m].1,l2,fun hne=>?_,fun heq=>?_⟩
  ·have hne':l[m].1≠l'[m].1:=by simpa using hne
   refine⟨_,a1,by omega,(by omega:(m:Int)<(s.n:Int)),l[m].1,l1,_,a2,by omega,(by omega:(m:Int)<(s'.n:Int)),l'[m].1,l2,fun hlt=>⟨rfl,?_⟩,fun hge1=>⟨rfl,?_⟩⟩
   ·rw [if_pos (of_decide_eq_true hlt)] at hcm
    rw [← hcm]; rfl
   ·have:¬ l[m].1<l'[m].1:=of_decide_eq_false hge1
    rw [if_neg this,if_pos (by omega)] at hcm
    rw [← hcm]; rfl
  ·have heq':l[m].1=l'[m].1:=by simpa using heq
   rw [if_neg (by omega),if_neg (by omega)] at hcm
   refine⟨_,rfl,((m:Int)-1,()),by rw [show IntKind.i64.wrap ((m:Int)-1)=(m:Int)-1 from wrap_i64 (by omega)]; rfl,⟨rfl,m,rfl,by omega,hcm⟩,?_⟩
   show((m:Int)-1+1).toNat<((m:Int)+1).toNat
   omega
 ·have:¬ i≥0:=of_decide_eq_false hlt
  have hz:n=0:=by omega
  subst hz
  refine⟨rfl,?_⟩
  rw [← hcm]; rfl
theorem cS_l02Cmp (V:Know) (s s':SlV) (l l':List Lim) (f f':List Nat) (h:LR rI V s l f) (h':LR rI V s' l' f') :
  CallX Tryz.prog V gS_l02Cmp [Sc.val .l s,Sc.val .l s'] (fun V' r=>V'=V∧r=.int .i64 (cmpL l l')):=by
 refine CallX.of_fits Tryz.mix (fS_l02Cmp _ _) fun _=>?_
 simp only [tS_l02Cmp,T.wp]
 have hn:=h.1
 have hn':=h'.1
 have hb:=h.2.2.1
 refine⟨fun hne=>?_,fun heq=>?_⟩
 ·have hne':l.length≠l'.length:=by
   have:((s.n:Nat):Int)≠((s'.n:Nat):Int):=by simpa using hne
   omega
  refine⟨fun hlt=>⟨by trivial,?_⟩,fun hge=>⟨by trivial,?_⟩⟩
  ·have:(s.n:Int)<(s'.n:Int):=of_decide_eq_true hlt
   rw [cmpL,if_pos hne',if_pos (by omega)]; rfl
  ·have:¬ (s.n:Int)<(s'.n:Int):=of_decide_eq_false hge
   rw [cmpL,if_pos hne',if_neg (by omega)]; rfl
 have hl:l.length=l'.length:=by
  have:((s.n:Nat):Int)=((s'.n:Nat):Int):=by simpa using heq
  omega
 have hc:cmpL l l'=cmpAt l l' l.length:=by rw [cmpL,if_neg (by simpa using hl)]
 rw [hc]
 have hw:IntKind.i64.wrap ((s.n:Int)-1)=(s.n:Int)-1:=wrap_i64 (by omega)
 refine⟨fun y V'=>V'=V∧∃ n:Nat,y.1=(n:Int)-1∧n≤l.length∧cmpAt l l' n=cmpAt l l' l.length,fun y=>((y.1:Int)+1).toNat,
  ⟨((s.n:Int)-1,()),by rw [hw]; rfl,rfl,l.length,by rw [hn],Nat.le_refl _,rfl⟩,?_⟩
 rintro⟨(i:Int),u⟩ V' ⟨rfl,n,hi,hle,hcm⟩
 replace hi:i=(n:Int)-1:=hi
 refine⟨fun hge=>?_,fun hlt=>?_⟩
 ·have hge':i≥0:=of_decide_eq_true hge
  obtain⟨m,rfl⟩:∃ m,n=m+1:=⟨n-1,by omega⟩
  have hi:i=(m:Int):=by omega
  subst hi
  have h1:m<l.length:=hle
  have h2:m<l'.length:=by omega
  obtain⟨b1,o1,a1,l1⟩:=h.int h1
  obtain⟨b2,o2,a2,l2⟩:=h'.int h2
  rw [cmp_body,limb_lt h1,limb_lt h2] at hcm
  refine⟨_,a1,by omega,(by omega:(m:Int)<(s.n:Int)),l[m].1,l1,_,a2,by omega,(by omega:(m:Int)<(s'.n:Int)),l'[m].1,l2,fun hlt=>⟨rfl,?_⟩,fun hge1=>?_⟩
  ·rw [if_pos (of_decide_eq_true hlt)] at hcm
   rw [← hcm]; rfl
  rw [if_neg (of_decide_eq_false hge1)] at hcm
  refine⟨_,a1,by omega,(by omega:(m:Int)<(s.n:Int)),l[m].1,l1,_,a2,by omega,(by omega:(m:Int)<(s'.n:Int)),l'[m].1,l2,fun hgt=>⟨rfl,?_⟩,fun hle1=>?_⟩
  ·rw [if_pos (of_decide_eq_true hgt)] at hcm
   rw [← hcm]; rfl
  rw [if_neg (of_decide_eq_false hle1)] at hcm
  refine⟨_,rfl,((m:Int)-1,()),by rw [show IntKind.i64.wrap ((m:Int)-1)=(m:Int)-1 from wrap_i64 (by omega)]; rfl,⟨rfl,m,rfl,by omega,hcm⟩,?_⟩
  show((m:Int)-1+1).toNat<((m:Int)+1).toNat
  omega
 ·have:¬ i≥0:=of_decide_eq_false hlt
  have hz:n=0:=by omega
  subst hz
  refine⟨rfl,?_⟩
  rw [← hcm]; rfl
end Go.Proofs.YtccnjccabllcaaaGreatDoor
