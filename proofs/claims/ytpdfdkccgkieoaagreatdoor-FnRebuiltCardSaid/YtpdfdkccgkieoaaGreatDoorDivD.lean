/-
  One digit of a long division: a multiple is taken away in place, and given back once where it was too great.
-/
import Derived.Test.YtpdfdkccgkieoaaGreatDoorDivB
namespace Go.Proofs.YtpdfdkccgkieoaaGreatDoor
open Sx
set_option maxRecDepth 100000
def Nw (V:Know) (s:SlV) (o:List Lim) (b:Nat):Prop :=
 ∃ spare,s=⟨some ⟨b,0,none⟩,o.length,o.length+spare.length⟩∧V b=some (o.map cellI++spare,(3,(0,0)))∧o.length≤9223372036854775807
theorem Nw.lr {V:Know} {s:SlV} {o:List Lim} {b:Nat} (h:Nw V s o b):LR rI V s o [b]:=by
 obtain⟨spare,rfl,h1,h2⟩:=h
 refine⟨rfl,(by omega:o.length≤o.length+spare.length),h2,.inr ⟨b,[],spare,(3,(0,0)),[],o,rfl,?_,els_int o,rfl⟩⟩
 rw [h1,flat_int]; rfl
theorem Nw.own {V V':Know} {s:SlV} {o:List Lim} {b:Nat} (h:Nw V' s o b) (hb:V b=none):Own V V' [b]:=by
 obtain⟨spare,rfl,h1,h2⟩:=h
 refine⟨by simp,?_,?_⟩
 ·intro b' hb'; simp at hb'; subst hb'; exact hb
 ·intro b' hb'; simp at hb'; subst hb'; exact⟨_,_,h1⟩
theorem Nw.trim {V:Know} {s:SlV} {o:List Lim} {b:Nat} (h:Nw V s o b):Nw V ⟨s.a,tl o o.length,s.c⟩ (trimL o) b:=by
 obtain⟨spare,rfl,h1,h2⟩:=h
 have hle:=tl_le o o.length
 have hlen:(trimL o).length=tl o o.length:=by simp [trimL]; omega
 refine⟨(o.drop (tl o o.length)).map cellI++spare,?_,?_,by omega⟩
 ·rw [hlen]
  show(⟨_,_,_⟩:SlV)=_
  congr 1
  simp
  omega
 ·rw [h1,← List.append_assoc,← List.map_append]
  unfold trimL
  rw [List.take_append_drop]
theorem cells_int:Tryz.prog.cellsOf 3=1:=by kernel_rfl
theorem nwI {V:Know} {b cap:Nat} {o:List Lim} {spare:List Value} (hc:o.length≤cap) (hs:spare.length=(cap-o.length)*Tryz.prog.cellsOf 3) (hl:o.length≤9223372036854775807) :
  Nw (kset V b (o.map cellI++spare,(3,(0,0)))) ⟨some ⟨b,0,none⟩,o.length,cap⟩ o b:=by
 rw [cells_int] at hs
 refine⟨spare,?_,kset_same,hl⟩
 rw [show o.length+spare.length=cap by omega]
theorem mul_bd {a b C D:Int} (ha:0≤a∧a<C) (hb:0≤b∧b<D):0≤a*b∧a*b<C*D:=by
 refine⟨Int.mul_nonneg ha.1 hb.1,?_⟩
 have h1:a*b≤a*D:=Int.mul_le_mul_of_nonneg_left (by omega) ha.1
 have h2:a*D<C*D:=Int.mul_lt_mul_of_pos_right ha.2 (by omega)
 omega
theorem mul_lim {x y:Int} (hx:0≤x∧x<1000000000) (hy:0≤y∧y<1000000000):0≤x*y∧x*y≤999999998000000001:=by
 refine⟨Int.mul_nonneg hx.1 hy.1,?_⟩
 have:x*y≤999999999*999999999:=Int.mul_le_mul (by omega) (by omega) hy.1 (by omega)
 omega
theorem mul_len {a b o:List Lim} (hb:Can b) (ho:Can o) (ha:Lims a) (h:valN o=valN a*valN b):o.length≤a.length+b.length:=by
 by_cases e:o.length≤a.length+b.length
 ·exact e
 ·exfalso
  have h1:=can_ge ho (by omega)
  have h2:=mul_bd (valTo_bd ha a.length) (valTo_bd hb.1 b.length)
  rw [← pw_add] at h2
  have h3:=pw_mono (show a.length+b.length≤o.length-1 by omega)
  have:valN a*valN b<1000000000 ^ (a.length+b.length):=h2.2
  omega
abbrev MulPost (V:Know) (a b:List Lim) (m:Nat):Know→Value→Prop:=fun V' r=>V.le V'∧∃ s o bk,r=Sc.val .l s∧Nw V' s o bk∧V bk=none∧Can o∧valN o=valN a*valN b∧m≤s.c
theorem cI_natMul (V:Know) (s s':SlV) (a b:List Lim) (f f':List Nat) (h:LR rI V s a f) (h':LR rI V s' b f') (ha:Lims a) (hb:Lims b) (la:a.length≤1000000) (lb:b.length≤1000000) :
  CallX Tryz.prog V 201 [Sc.val .l s,Sc.val .l s'] (MulPost V a b (a.length+b.length+1)):=by
 refine CallX.of_fits Tryz.mix (fI_natMul _ _) fun _=>?_
 have hn:=h.1
 have hn':=h'.1
 have w1:IntKind.i64.wrap (IntKind.i64.wrap ((s.n:Int)+(s'.n:Int))+1)=((a.length+b.length+1:Nat):Int):=by
  rw [show IntKind.i64.wrap ((s.n:Int)+(s'.n:Int))=(s.n:Int)+(s'.n:Int) from wrap_i64 (by omega),wrap_i64 (by omega)]
  omega
 have hB:(1000000000:Int)≠0:=by decide
 simp only [tI_natMul,T.wp,w1]
 obtain⟨N,hN⟩:∃ N:Nat,N=a.length+b.length+1:=⟨_,rfl⟩
 rw [← hN]
 refine⟨⟨by omega,by omega,by omega,by omega⟩,?_⟩
 refine⟨fun y V'=>V'=V∧∃ (i:Nat) (o:List Lim),y.2.1=(i:Int)∧i≤a.length∧y.1.1=N∧y.1.2=o.map cellI∧o.length=N∧Lims o∧valN o=valTo a i*valN b,
  fun y=>((a.length:Int)-(y.2.1:Int)).toNat,⟨((((N:Nat):Int).toNat,(madeCells ⟨[.int .i64 (0:Int)]⟩ (((N:Nat):Int).toNat*1)).toList),(0:Int),()),rfl,rfl,0,zer N,rfl,by omega,(by omega:((N:Nat):Int).toNat=N),by rw [show((N:Nat):Int).toNat*1=N by omega]; exact made_zer _,len_zer _,lims_zer _,by rw [valN_zer]; simp [valTo]⟩,?_⟩
 rintro⟨⟨n1,ys⟩,(i:Int),u⟩ V' ⟨rfl,k,o,hi,hk,hn1,hys,hol,hlo,hv⟩
 replace hi:i=(k:Int):=hi
 replace hn1:n1=N:=hn1
 replace hys:ys=o.map cellI:=hys
 subst hn1 hys hi
 refine⟨fun hlt=>?_,fun hge=>?_⟩
 ·have hka:k<a.length:=by
   have:(k:Int)<(s.n:Int):=of_decide_eq_true hlt
   omega
  obtain⟨b1,o1,a1,l1⟩:=h.int hka
  have ea:a[k].1=limb a k:=(limb_lt hka).symm
  have lax:=ha k
  refine⟨_,a1,(by omega:(0:Int)≤(k:Int)),(by omega:(k:Int)<(s.n:Int)),limb a k,by rw [← ea]; exact l1,?_⟩
  refine⟨fun y V''=>V''=V'∧∃ (j:Nat) (o:List Lim),y.2.2.1=(j:Int)∧j≤b.length∧0≤(y.2.1:Int)∧(y.2.1:Int)<1000000000∧y.1.1=n1∧y.1.2=o.map cellI∧o.length=n1∧Lims o∧valN o+(y.2.1:Int)*1000000000 ^ (k+j)=valTo a k*valN b+limb a k*valTo b j*1000000000 ^ k,
   fun y=>((b.length:Int)-(y.2.2.1:Int)).toNat,⟨((n1,o.map cellI),(0:Int),(0:Int),()),rfl,rfl,0,o,rfl,by omega,(by omega:(0:Int)≤0),(by omega:(0:Int)<1000000000),rfl,rfl,hol,hlo,by rw [hv]; simp [valTo]⟩,?_⟩
  rintro⟨⟨n2,ys⟩,(c:Int),(i:Int),u⟩ V'' ⟨rfl,j,o2,hi,hj,hc0,hc1,hn2,hys,hol2,hlo2,hv2⟩
  replace hi:i=(j:Int):=hi
  replace hc0:0≤c:=hc0
  replace hc1:c<1000000000:=hc1
  replace hn2:n2=n1:=hn2
  replace hys:ys=o2.map cellI:=hys
  replace hv2:valN o2+c*1000000000 ^ (k+j)=valTo a k*valN b+limb a k*valTo b j*1000000000 ^ k:=hv2
  subst hn2 hys hi
  refine⟨fun hlt2=>?_,fun hge2=>?_⟩
  ·have hjb:j<b.length:=by
    have:(j:Int)<(s'.n:Int):=of_decide_eq_true hlt2
    omega
   obtain⟨b2,q2,a2,l2⟩:=h'.int hjb
   have eb:b[j].1=limb b j:=(limb_lt hjb).symm
   have lbx:=hb j
   have lox:=hlo2 (k+j)
   have hxy:=mul_lim lax lbx
   have hw:IntKind.i64.wrap ((k:Int)+(j:Int))=((k+j:Nat):Int):=by rw [wrap_i64 (by omega)]; omega
   have hkj:k+j<o2.length:=by omega
   have hin:(0:Int)≤((k+j:Nat):Int)∧((k+j:Nat):Int)<((n2:Nat):Int):=⟨by omega,by omega⟩
   refine⟨_,a2,(by omega:(0:Int)≤(j:Int)),(by omega:(j:Int)<(s'.n:Int)),limb b j,by rw [← eb]; exact l2,?_⟩
   show((0:Int)≤IntKind.i64.wrap ((k:Int)+(j:Int))∧IntKind.i64.wrap ((k:Int)+(j:Int))<((n2:Nat):Int))∧_
   rw [hw]
   have e0:((k+j:Nat):Int).toNat*1=k+j:=by omega
   refine⟨hin,limb o2 (k+j),by rw [e0]; exact cut_cell hkj,hB,hin,?_,hB,_,rfl,?_⟩
   ·show((k+j:Nat):Int).toNat*1+1≤(o2.map cellI).length
    rw [List.length_map]; omega
   have e1:IntKind.i64.wrap (limb a k*limb b j)=limb a k*limb b j:=wrap_i64 (by omega)
   have e2:IntKind.i64.wrap (limb o2 (k+j)+limb a k*limb b j)=limb o2 (k+j)+limb a k*limb b j:=wrap_i64 (by omega)
   have e3:IntKind.i64.wrap (c+(limb o2 (k+j)+limb a k*limb b j))=c+(limb o2 (k+j)+limb a k*limb b j):=wrap_i64 (by omega)
   have e6:IntKind.i64.wrap ((j:Int)+1)=((j+1:Nat):Int):=nxt hjb (by omega)
   rw [e1,e2,e3,e6]
   obtain⟨t,ht⟩:∃ t,t=c+(limb o2 (k+j)+limb a k*limb b j):=⟨_,rfl⟩
   rw [← ht]
   have t0:0≤t:=by omega
   have t1:t<1000000000000000000:=by omega
   have e4:t.tmod 1000000000=t % 1000000000:=Int.tmod_eq_emod_of_nonneg t0
   have e5:IntKind.i64.wrap (t.tdiv 1000000000)=t / 1000000000:=by rw [Int.tdiv_eq_ediv_of_nonneg t0]; exact wrap_i64 (by omega)
   rw [e4,e5,e0]
   refine⟨((n2,(o2.set (k+j) (t % 1000000000,())).map cellI),t / 1000000000,((j+1:Nat):Int),()),?_,⟨rfl,j+1,_,rfl,hjb,(by omega:(0:Int)≤t / 1000000000),(by omega:t / 1000000000<1000000000),rfl,rfl,by rw [List.length_set]; exact hol2,lims_set hlo2 hkj ⟨by omega,by omega⟩,?_⟩,?_⟩
   ·rw [setl_cell hkj]
    rfl
   ·exact mul_step (d:=t % 1000000000) (e:=t / 1000000000) hkj hv2 (by omega)
   ·show((b.length:Int)-((j+1:Nat):Int)).toNat<((b.length:Int)-(j:Int)).toNat
    omega
  ·have hjb:j=b.length:=by
    have:¬ (j:Int)<(s'.n:Int):=of_decide_eq_false hge2
    omega
   subst hjb
   obtain⟨T,hT⟩:∃ T,T=valTo a (k+1)*valN b:=⟨_,rfl⟩
   have hT1:valN o2+c*1000000000 ^ (k+b.length)=T:=by
    rw [hv2,hT,valTo,show valTo b b.length=valN b from rfl]
    grind
   have hTb:T<1000000000 ^ (k+1+b.length):=by
    have:=(mul_bd (valTo_bd ha (k+1)) (valTo_bd hb b.length)).2
    rw [← pw_add] at this
    rw [hT]; exact this
   have w2:IntKind.i64.wrap ((k:Int)+(s'.n:Int))=((k+b.length:Nat):Int):=by rw [wrap_i64 (by omega)]; omega
   rw [w2]
   refine⟨fun y V3=>V3=V''∧∃ (j:Nat) (o:List Lim),y.2.2.1=(j:Int)∧0≤(y.2.1:Int)∧(y.2.1:Int)<1000000000∧y.1.1=n2∧y.1.2=o.map cellI∧o.length=n2∧Lims o∧valN o+(y.2.1:Int)*1000000000 ^ j=T,
    fun y=>((n2:Int)-(y.2.2.1:Int)).toNat,⟨((n2,o2.map cellI),c,((k+b.length:Nat):Int),()),rfl,rfl,k+b.length,o2,rfl,hc0,hc1,rfl,rfl,hol2,hlo2,hT1⟩,?_⟩
   rintro⟨⟨n3,ys⟩,(c:Int),(i:Int),u⟩ V3 ⟨rfl,j,o,hi,hc0,hc1,hn3,hys,hol,hlo,hv⟩
   replace hi:i=(j:Int):=hi
   replace hc0:0≤c:=hc0
   replace hc1:c<1000000000:=hc1
   replace hn3:n3=n2:=hn3
   replace hys:ys=o.map cellI:=hys
   replace hv:valN o+c*1000000000 ^ j=T:=hv
   subst hn3 hys hi
   have hnn:=valN_nonneg hlo
   refine⟨fun hgt=>?_,fun hle=>?_⟩
   ·have hpos:c > 0:=of_decide_eq_true hgt
    have hjlt:j<k+1+b.length:=by
     by_cases e:j<k+1+b.length
     ·exact e
     ·exfalso
      have p1:=pw_mono (show k+1+b.length≤j by omega)
      have p2:=mul_pw_le (show 1≤c by omega) j
      omega
    have hjo:j<o.length:=by omega
    have lox:=hlo j
    have hin:(0:Int)≤(j:Int)∧(j:Int)<((n3:Nat):Int):=⟨by omega,by omega⟩
    have e0:(j:Int).toNat*1=j:=by omega
    refine⟨hin,limb o j,by show cutv _ ((j:Int).toNat*1) _=_; rw [e0]; exact cut_cell hjo,hB,hin,?_,hB,_,rfl,?_⟩
    ·show(j:Int).toNat*1+1≤(o.map cellI).length
     rw [List.length_map]; omega
    have e1:IntKind.i64.wrap (c+limb o j)=c+limb o j:=wrap_i64 (by omega)
    have e6:IntKind.i64.wrap ((j:Int)+1)=((j+1:Nat):Int):=nxt hjo (by omega)
    rw [e1,e6]
    obtain⟨t,ht⟩:∃ t,t=c+limb o j:=⟨_,rfl⟩
    rw [← ht]
    have t0:0≤t:=by omega
    have e4:t.tmod 1000000000=t % 1000000000:=Int.tmod_eq_emod_of_nonneg t0
    have e5:IntKind.i64.wrap (t.tdiv 1000000000)=t / 1000000000:=by rw [Int.tdiv_eq_ediv_of_nonneg t0]; exact wrap_i64 (by omega)
    rw [e4,e5]
    refine⟨((n3,(o.set j (t % 1000000000,())).map cellI),t / 1000000000,((j+1:Nat):Int),()),?_,⟨rfl,j+1,_,rfl,(by omega:(0:Int)≤t / 1000000000),(by omega:t / 1000000000<1000000000),rfl,rfl,by rw [List.length_set]; exact hol,lims_set hlo hjo ⟨by omega,by omega⟩,?_⟩,?_⟩
    ·show [LV.a 3 n3 (setl (o.map cellI) ((j:Int).toNat*1) [_]),_,_]=_
     rw [e0,setl_cell hjo]
     rfl
    ·exact carry_step (d:=t % 1000000000) (e:=t / 1000000000) hjo hv (by omega)
    ·show((n3:Int)-((j+1:Nat):Int)).toNat<((n3:Int)-(j:Int)).toNat
     omega
   ·have hz:¬ c > 0:=of_decide_eq_false hle
    have hc:c=0:=by omega
    subst hc
    have e6:IntKind.i64.wrap ((k:Int)+1)=((k+1:Nat):Int):=nxt hka (by omega)
    refine⟨_,rfl,((n3,o.map cellI),((k+1:Nat):Int),()),by rw [e6]; rfl,⟨rfl,k+1,o,rfl,hka,rfl,rfl,hol,hlo,?_⟩,?_⟩
    ·rw [← hT,← hv]; simp
    ·show((a.length:Int)-((k+1:Nat):Int)).toNat<((a.length:Int)-(k:Int)).toNat
     omega
 ·have hka:k=a.length:=by
   have:¬ (k:Int)<(s.n:Int):=of_decide_eq_false hge
   omega
  subst hka
  intro bk cap spare hbk hcap hsp
  have hcap':n1≤cap:=hcap
  have hsp':spare.length=(cap-n1)*Tryz.prog.cellsOf 3:=hsp
  have hk:=nwI (V:=V') (b:=bk) (cap:=cap) (o:=o) (spare:=spare) (by omega) (by rw [hol]; exact hsp') (by omega)
  have hle:=kset_le (x:=(o.map cellI++spare,((3:TypeId),((0,0):Nat × Nat)))) hbk
  obtain⟨hcan,hval⟩:=trim_can hlo
  have key:=cI_trim2 _ _ _ _ hk.lr
  rw [hol] at key
  refine key.mono ?_
  rintro V2 r2 ⟨rfl,s2,rfl,hs2,hL⟩
  refine⟨nofun,s2,rfl,hle,s2,_,bk,rfl,?_,hbk,hcan,?_,?_⟩
  ·have:=hk.trim
   rw [hol] at this
   rw [hs2,hol]; exact this
  ·rw [hval,hv]; rfl
  ·rw [hs2]
   show n1≤cap
   omega
theorem cS_l02Mul (V:Know) (s s':SlV) (a b:List Lim) (f f':List Nat) (h:LR rI V s a f) (h':LR rI V s' b f') (ha:Lims a) (hb:Lims b) (la:a.length≤1000000) (lb:b.length≤1000000) :
  CallX Tryz.prog V 108 [Sc.val .l s,Sc.val .l s'] (fun V' r=>V.le V'∧∃ s o f,r=Sc.val .l s∧LR rI V' s o f∧Own V V' f∧Can o∧valN o=valN a*valN b):=by
 refine CallX.of_fits Tryz.mix (fS_l02Mul _ _) fun _=>?_
 have hn:=h.1
 have hn':=h'.1
 have w1:IntKind.i64.wrap ((s.n:Int)+(s'.n:Int))=((a.length+b.length:Nat):Int):=by rw [wrap_i64 (by omega)]; omega
 have hB:(1000000000:Int)≠0:=by decide
 simp only [tS_l02Mul,T.wp,w1]
 have nil:∀ x:Int,x=0→V.le V∧∃ s o f,packed [Value.slice none 0 0]=Sc.val .l s∧LR rI V s o f∧Own V V f∧Can o∧valN o=x:=by
  intro x hx
  exact⟨Know.le.refl _,⟨none,0,0⟩,[],[],rfl,⟨rfl,Nat.le_refl _,by simp,.inl ⟨rfl,fun _=>rfl,rfl⟩⟩,Own.nil,⟨lims_nil,.inl rfl⟩,by rw [hx]; rfl⟩
 refine⟨fun hz=>nil _ ?_,fun hz=>⟨fun hz2=>nil _ ?_,fun hz2=>?_⟩⟩
 ·have:(s.n:Int)=0:=by simpa using hz
  have:a=[]:=List.eq_nil_of_length_eq_zero (by omega)
  rw [this,valN_nil,Int.zero_mul]
 ·have:(s'.n:Int)=0:=by simpa using hz2
  have:b=[]:=List.eq_nil_of_length_eq_zero (by omega)
  rw [this,valN_nil,Int.mul_zero]
 obtain⟨N,hN⟩:∃ N:Nat,N=a.length+b.length:=⟨_,rfl⟩
 rw [← hN]
 refine⟨⟨by omega,by omega,by omega,by omega⟩,?_⟩
 refine⟨fun y V'=>V'=V∧∃ (i:Nat) (o:List Lim),y.2.1=(i:Int)∧i≤a.length∧y.1.1=N∧y.1.2=o.map cellI∧o.length=N∧Lims o∧valN o=valTo a i*valN b,
  fun y=>((a.length:Int)-(y.2.1:Int)).toNat,⟨((((N:Nat):Int).toNat,(madeCells ⟨[.int .i64 (0:Int)]⟩ (((N:Nat):Int).toNat*1)).toList),(0:Int),()),rfl,rfl,0,zer N,rfl,by omega,(by omega:((N:Nat):Int).toNat=N),by rw [show((N:Nat):Int).toNat*1=N by omega]; exact made_zer _,len_zer _,lims_zer _,by rw [valN_zer]; simp [valTo]⟩,?_⟩
 rintro⟨⟨n1,ys⟩,(i:Int),u⟩ V' ⟨rfl,k,o,hi,hk,hn1,hys,hol,hlo,hv⟩
 replace hi:i=(k:Int):=hi
 replace hn1:n1=N:=hn1
 replace hys:ys=o.map cellI:=hys
 subst hn1 hys hi
 refine⟨fun hlt=>?_,fun hge=>?_⟩
 ·have hka:k<a.length:=by
   have:(k:Int)<(s.n:Int):=of_decide_eq_true hlt
   omega
  obtain⟨b1,o1,a1,l1⟩:=h.int hka
  have ea:a[k].1=limb a k:=(limb_lt hka).symm
  have lax:=ha k
  have hvlt:valN o<1000000000 ^ (k+b.length):=by
   have:=(mul_bd (valTo_bd ha k) (valTo_bd hb b.length)).2
   rw [← pw_add] at this
   rw [hv]; exact this
  refine⟨_,a1,(by omega:(0:Int)≤(k:Int)),(by omega:(k:Int)<(s.n:Int)),limb a k,by rw [← ea]; exact l1,?_⟩
  refine⟨fun y V''=>V''=V'∧∃ (j:Nat) (o:List Lim),y.2.2.1=(j:Int)∧j≤b.length∧0≤(y.2.1:Int)∧(y.2.1:Int)<1000000000∧y.1.1=n1∧y.1.2=o.map cellI∧o.length=n1∧Lims o∧limb o (k+b.length)=0∧valN o+(y.2.1:Int)*1000000000 ^ (k+j)=valTo a k*valN b+limb a k*valTo b j*1000000000 ^ k,
   fun y=>((b.length:Int)-(y.2.2.1:Int)).toNat,⟨((n1,o.map cellI),(0:Int),(0:Int),()),rfl,rfl,0,o,rfl,by omega,(by omega:(0:Int)≤0),(by omega:(0:Int)<1000000000),rfl,rfl,hol,hlo,limb_top hlo hvlt (Nat.le_refl _),by rw [hv]; simp [valTo]⟩,?_⟩
  rintro⟨⟨n2,ys⟩,(c:Int),(i:Int),u⟩ V'' ⟨rfl,j,o2,hi,hj,hc0,hc1,hn2,hys,hol2,hlo2,htop,hv2⟩
  replace hi:i=(j:Int):=hi
  replace hc0:0≤c:=hc0
  replace hc1:c<1000000000:=hc1
  replace hn2:n2=n1:=hn2
  replace hys:ys=o2.map cellI:=hys
  replace hv2:valN o2+c*1000000000 ^ (k+j)=valTo a k*valN b+limb a k*valTo b j*1000000000 ^ k:=hv2
  subst hn2 hys hi
  refine⟨fun hlt2=>?_,fun hge2=>?_⟩
  ·have hjb:j<b.length:=by
    have:(j:Int)<(s'.n:Int):=of_decide_eq_true hlt2
    omega
   obtain⟨b2,q2,a2,l2⟩:=h'.int hjb
   have eb:b[j].1=limb b j:=(limb_lt hjb).symm
   have lbx:=hb j
   have lox:=hlo2 (k+j)
   have hxy:=mul_lim lax lbx
   have hw:IntKind.i64.wrap ((k:Int)+(j:Int))=((k+j:Nat):Int):=by rw [wrap_i64 (by omega)]; omega
   have hkj:k+j<o2.length:=by omega
   have hin:(0:Int)≤((k+j:Nat):Int)∧((k+j:Nat):Int)<((n2:Nat):Int):=⟨by omega,by omega⟩
   refine⟨_,a2,(by omega:(0:Int)≤(j:Int)),(by omega:(j:Int)<(s'.n:Int)),limb b j,by rw [← eb]; exact l2,?_⟩
   show((0:Int)≤IntKind.i64.wrap ((k:Int)+(j:Int))∧IntKind.i64.wrap ((k:Int)+(j:Int))<((n2:Nat):Int))∧_
   rw [hw]
   have e0:((k+j:Nat):Int).toNat*1=k+j:=by omega
   refine⟨hin,limb o2 (k+j),by rw [e0]; exact cut_cell hkj,hB,hin,?_,hB,_,rfl,?_⟩
   ·show((k+j:Nat):Int).toNat*1+1≤(o2.map cellI).length
    rw [List.length_map]; omega
   have e1:IntKind.i64.wrap (limb a k*limb b j)=limb a k*limb b j:=wrap_i64 (by omega)
   have e2:IntKind.i64.wrap (limb o2 (k+j)+limb a k*limb b j)=limb o2 (k+j)+limb a k*limb b j:=wrap_i64 (by omega)
   have e3:IntKind.i64.wrap (limb o2 (k+j)+limb a k*limb b j+c)=limb o2 (k+j)+limb a k*limb b j+c:=wrap_i64 (by omega)
   have e6:IntKind.i64.wrap ((j:Int)+1)=((j+1:Nat):Int):=nxt hjb (by omega)
   rw [e1,e2,e3,e6]
   obtain⟨t,ht⟩:∃ t,t=limb o2 (k+j)+limb a k*limb b j+c:=⟨_,rfl⟩
   rw [← ht]
   have t0:0≤t:=by omega
   have t1:t<1000000000000000000:=by omega
   have e4:t.tmod 1000000000=t % 1000000000:=Int.tmod_eq_emod_of_nonneg t0
   have e5:IntKind.i64.wrap (t.tdiv 1000000000)=t / 1000000000:=by rw [Int.tdiv_eq_ediv_of_nonneg t0]; exact wrap_i64 (by omega)
   rw [e4,e5,e0]
   refine⟨((n2,(o2.set (k+j) (t % 1000000000,())).map cellI),t / 1000000000,((j+1:Nat):Int),()),?_,⟨rfl,j+1,_,rfl,hjb,(by omega:(0:Int)≤t / 1000000000),(by omega:t / 1000000000<1000000000),rfl,rfl,by rw [List.length_set]; exact hol2,lims_set hlo2 hkj ⟨by omega,by omega⟩,?_,?_⟩,?_⟩
   ·rw [setl_cell hkj]
    rfl
   ·rw [limb_set hkj,if_neg (by omega)]; exact htop
   ·exact mul_step (d:=t % 1000000000) (e:=t / 1000000000) hkj hv2 (by omega)
   ·show((b.length:Int)-((j+1:Nat):Int)).toNat<((b.length:Int)-(j:Int)).toNat
    omega
  ·have hjb:j=b.length:=by
    have:¬ (j:Int)<(s'.n:Int):=of_decide_eq_false hge2
    omega
   subst hjb
   have w2:IntKind.i64.wrap ((k:Int)+(s'.n:Int))=((k+b.length:Nat):Int):=by rw [wrap_i64 (by omega)]; omega
   have hkj:k+b.length<o2.length:=by omega
   have e0:((k+b.length:Nat):Int).toNat*1=k+b.length:=by omega
   have e6:IntKind.i64.wrap ((k:Int)+1)=((k+1:Nat):Int):=nxt hka (by omega)
   rw [w2,e0,e6]
   refine⟨⟨by omega,(by omega:((k+b.length:Nat):Int)<((n2:Nat):Int))⟩,?_,_,rfl,((n2,(o2.set (k+b.length) (c,())).map cellI),((k+1:Nat):Int),()),?_,⟨rfl,k+1,_,rfl,hka,rfl,rfl,by rw [List.length_set]; exact hol2,lims_set hlo2 hkj ⟨hc0,hc1⟩,?_⟩,?_⟩
   ·show k+b.length+1≤(o2.map cellI).length
    rw [List.length_map]; omega
   ·show [LV.a 3 n2 (setl (o2.map cellI) (k+b.length) [Value.int .i64 c]),_]=_
    rw [setl_cell hkj]
    rfl
   ·rw [valN_set hkj,htop,valTo]
    rw [show valTo b b.length=valN b from rfl] at hv2
    grind
   ·show((a.length:Int)-((k+1:Nat):Int)).toNat<((a.length:Int)-(k:Int)).toNat
    omega
 ·have hka:k=a.length:=by
   have:¬ (k:Int)<(s.n:Int):=of_decide_eq_false hge
   omega
  subst hka
  intro bk cap spare hbk hcap _
  have hcap':n1≤cap:=hcap
  have hk:=newI (V:=V') (b:=bk) (cap:=cap) (o:=o) (spare:=spare) (t:=3) hbk (by omega) (by omega)
  have hle:=kset_le (x:=(o.map cellI++spare,((3:TypeId),((0,0):Nat × Nat)))) hbk
  obtain⟨hcan,hval⟩:=trim_can hlo
  have key:=cS_l02Trim _ _ _ _ hk.1
  rw [hol] at key
  refine key.mono ?_
  rintro V2 r2 ⟨rfl,s2,rfl,hs2,hL⟩
  exact⟨nofun,s2,rfl,hle,s2,_,_,rfl,hL,hk.2,hcan,by rw [hval,hv]; rfl⟩
theorem cS_l02Sub (V:Know) (s s':SlV) (a b:List Lim) (f f':List Nat) (h:LR rI V s a f) (h':LR rI V s' b f') (ha:Lims a) (hb:Lims b) (la:a.length≤1000000) (lb:b.length≤a.length) (hge0:valN b≤valN a) :
  CallX Tryz.prog V 160 [Sc.val .l s,Sc.val .l s'] (fun V' r=>V.le V'∧∃ s'' o f'',r=Sc.val .l s''∧LR rI V' s'' o f''∧Own V V' f''∧Can o∧valN o=valN a-valN b):=by
 refine CallX.of_fits Tryz.mix (fS_l02Sub _ _) fun _=>?_
 have hn:=h.1
 have hn':=h'.1
 simp only [tS_l02Sub,T.wp]
 refine⟨fun y V'=>V'=V∧∃ (k:Nat) (o:List Lim),y.2.2.1=(k:Int)∧k≤a.length∧0≤(y.2.1:Int)∧(y.2.1:Int)≤1∧y.1.1=k∧y.1.2=o.map cellI∧o.length=k∧Lims o∧valTo o k=valTo a k-valTo b k+(y.2.1:Int)*1000000000 ^ k,
  fun y=>((a.length:Int)-(y.2.2.1:Int)).toNat,
  ⟨((0,[]),(0:Int),(0:Int),()),rfl,rfl,0,[],rfl,by omega,(by omega:(0:Int)≤0),(by omega:(0:Int)≤1),rfl,rfl,rfl,lims_nil,rfl⟩,?_⟩
 rintro⟨⟨n1,ys⟩,(c:Int),(i:Int),u⟩ V' ⟨rfl,k,o,hi,hk,hc0,hc1,hn1,hys,hol,hlo,hv⟩
 replace hi:i=(k:Int):=hi
 replace hc0:0≤c:=hc0
 replace hc1:c≤1:=hc1
 replace hn1:n1=k:=hn1
 replace hys:ys=o.map cellI:=hys
 replace hv:valTo o k=valTo a k-valTo b k+c*1000000000 ^ k:=hv
 subst hi hn1 hys
 have la1:=ha n1
 have lb1:=hb n1
 refine⟨fun hlt=>?_,fun hge=>?_⟩
 ·have hka:n1<a.length:=by
   have:(n1:Int)<(s.n:Int):=of_decide_eq_true hlt
   omega
  have hwi:IntKind.i64.wrap ((n1:Int)+1)=((n1+1:Nat):Int):=nxt hka (by omega)
  have next:∀ t e:Int,t=limb a n1-c-limb b n1+1000000000*e→0≤t→t<1000000000→0≤e→e≤1→∃ y':LShs [.a 3,.o (.o (.i .i64)),.o (.o (.i .i64))],
    [LV.a 3 (n1+1) (o.map cellI++[.int .i64 t]),.v (.int .i64 e),.v (.int .i64 (IntKind.i64.wrap ((n1:Int)+1)))]=LShs.lvs _ y' ∧
    (V'=V'∧∃ (k:Nat) (o:List Lim),y'.2.2.1=(k:Int)∧k≤a.length∧0≤(y'.2.1:Int)∧(y'.2.1:Int)≤1∧y'.1.1=k∧y'.1.2=o.map cellI∧o.length=k∧Lims o∧valTo o k=valTo a k-valTo b k+(y'.2.1:Int)*1000000000 ^ k) ∧
    ((a.length:Int)-(y'.2.2.1:Int)).toNat<((a.length:Int)-(n1:Int)).toNat:=by
   intro t e ht ht0 ht1 he0 he1
   rw [hwi]
   refine⟨((n1+1,(o++[(t,())]).map cellI),e,((n1+1:Nat):Int),()),by simp [LShs.lvs,LSh.lv,Sh1.val,Sc.val,cellI],⟨rfl,n1+1,o++[(t,())],rfl,hka,he0,he1,rfl,rfl,by simp [hol],lims_snoc hlo ⟨ht0,ht1⟩,sub_step hol hv ht⟩,?_⟩
   show((a.length:Int)-((n1+1:Nat):Int)).toNat<_
   omega
  have hfit:∀ v:Int,one [Value.int .i64 v]=true∧(n1+1)*8≤140737488355328∧n1+1≤9223372036854775807:=fun v=>⟨rfl,by omega,by omega⟩
  obtain⟨b1,o1,a1,l1⟩:=h.int hka
  have ea:a[n1].1=limb a n1:=(limb_lt hka).symm
  have e1:IntKind.i64.wrap (limb a n1-c)=limb a n1-c:=wrap_i64 (by omega)
  refine⟨_,a1,(by omega:(0:Int)≤(n1:Int)),(by omega:(n1:Int)<(s.n:Int)),limb a n1,by rw [← ea]; exact l1,?_⟩
  show(_→_)∧(_→_)
  rw [e1]
  refine⟨fun hxb=>?_,fun hxb=>?_⟩
  ·have hkb:n1<b.length:=by
    have:(n1:Int)<(s'.n:Int):=of_decide_eq_true hxb
    omega
   obtain⟨b2,o2,a2,l2⟩:=h'.int hkb
   have eb:b[n1].1=limb b n1:=(limb_lt hkb).symm
   have e2:IntKind.i64.wrap (limb a n1-c-limb b n1)=limb a n1-c-limb b n1:=wrap_i64 (by omega)
   refine⟨_,a2,(by omega:(0:Int)≤(n1:Int)),(by omega:(n1:Int)<(s'.n:Int)),limb b n1,by rw [← eb]; exact l2,?_⟩
   show(_→_)∧(_→_)
   rw [e2]
   refine⟨fun hneg=>?_,fun hpos=>?_⟩
   ·have hneg':limb a n1-c-limb b n1<0:=of_decide_eq_true hneg
    have e3:IntKind.i64.wrap (limb a n1-c-limb b n1+1000000000)=limb a n1-c-limb b n1+1000000000:=wrap_i64 (by omega)
    rw [e3]
    exact⟨rfl,hfit _,_,rfl,next _ 1 (by omega) (by omega) (by omega) (by omega) (by omega)⟩
   ·have hpos':¬ limb a n1-c-limb b n1<0:=of_decide_eq_false hpos
    exact⟨rfl,hfit _,_,rfl,next _ 0 (by omega) (by omega) (by omega) (by omega) (by omega)⟩
  ·have hkb:b.length≤n1:=by
    have:¬ (n1:Int)<(s'.n:Int):=of_decide_eq_false hxb
    omega
   have z:=limb_ge hkb
   refine⟨fun hneg=>?_,fun hpos=>?_⟩
   ·have hneg':limb a n1-c<0:=of_decide_eq_true hneg
    have e3:IntKind.i64.wrap (limb a n1-c+1000000000)=limb a n1-c+1000000000:=wrap_i64 (by omega)
    rw [e3]
    exact⟨rfl,hfit _,_,rfl,next _ 1 (by omega) (by omega) (by omega) (by omega) (by omega)⟩
   ·have hpos':¬ limb a n1-c<0:=of_decide_eq_false hpos
    exact⟨rfl,hfit _,_,rfl,next _ 0 (by omega) (by omega) (by omega) (by omega) (by omega)⟩
 ·have hkm:n1=a.length:=by
   have:¬ (n1:Int)<(s.n:Int):=of_decide_eq_false hge
   omega
  intro bk cap spare hbk hcap _
  have hcap':n1≤cap:=hcap
  have hk:=newI (V:=V') (b:=bk) (cap:=cap) (o:=o) (spare:=spare) (t:=3) hbk (by omega) (by omega)
  have hle:=kset_le (x:=(o.map cellI++spare,((3:TypeId),((0,0):Nat × Nat)))) hbk
  obtain⟨hcan,hval⟩:=trim_can hlo
  have key:=cS_l02Trim _ _ _ _ hk.1
  rw [hol] at key
  refine key.mono ?_
  rintro V2 r ⟨rfl,s2,rfl,hs2,hL⟩
  refine⟨nofun,s2,rfl,hle,s2,_,_,rfl,hL,hk.2,hcan,?_⟩
  rw [hval,valN,hol,hv]
  have hbd:=valTo_bd hlo n1
  rw [hv] at hbd
  rw [valTo_ge (show a.length≤n1 by omega),valTo_ge (show b.length≤n1 by omega)] at hbd ⊢
  have hc:c=0:=by
   rcases(show c=0∨c=1 by omega) with hc | hc
   ·exact hc
   ·exfalso
    rw [hc,Int.one_mul] at hbd
    omega
  rw [hc]; simp
end Go.Proofs.YtpdfdkccgkieoaaGreatDoor
namespace Go.Proofs.YtpdfdkccgkieoaaGreatDoor
open Sx
set_option maxRecDepth 100000
theorem kset_kset {V:Know} {b:Nat} {x y}:kset (kset V b x) b y=kset V b y:=by
 funext k
 simp only [kset]
 split <;> rfl
theorem kset_self {V:Know} {b:Nat} {x} (h:V b=some x):kset V b x=V:=by
 funext k
 simp only [kset]
 split
 ·rename_i e; rw [e,h]
 ·rfl
def segV (V:Know) (b:Nat) (pre:List Value) (w:List Lim) (post:List Value):Know:=kset V b (pre++(w.map cellI++post),(3,(0,0)))
theorem seg_at {V:Know} {b:Nat} {pre post:List Value} {w:List Lim}:segV V b pre w post b=some (pre++(w.map cellI++post),(3,(0,0))):=kset_same
theorem seg_ld {V:Know} {b:Nat} {pre post:List Value} {w:List Lim} {i:Nat} (h:i<w.length):loadV (segV V b pre w post) ((⟨b,pre.length,none⟩:Addr).add (i*1)) 1=some [.int .i64 (limb w i)]:=by
 simp only [addr_add_eq,loadV,seg_at]
 rw [cutv_skip,Nat.mul_one]
 have e1:w.map cellI++post=(w.take i).map cellI++((w.drop i).map cellI++post):=by rw [← List.append_assoc,← List.map_append,List.take_append_drop]
 have e3:(w.drop i).map cellI++post=[cellI w[i]]++((w.drop (i+1)).map cellI++post):=by rw [List.drop_eq_getElem_cons h]; rfl
 have:=cutv_skip (x:=(w.take i).map cellI) (y:=(w.drop i).map cellI++post) (o:=0) (n:=1)
 rw [show((w.take i).map cellI).length+0=i by simp; omega] at this
 rw [e1,this,e3,limb_lt h]
 exact cutv_head
theorem seg_at2 {V:Know} {b k:Nat} {pre post:List Value} {w:List Lim}:segV V b pre w post ((⟨b,pre.length,none⟩:Addr).add k).block=some (pre++(w.map cellI++post),(3,(0,0))):=by
 rw [addr_add_eq]; exact kset_same
theorem seg_spot {b p k:Nat}:((⟨b,p,none⟩:Addr).add k).spot=none:=by rw [addr_add_eq]
theorem seg_fit {b:Nat} {pre post:List Value} {w:List Lim} {i:Nat} {x:Value} (h:i<w.length):((⟨b,pre.length,none⟩:Addr).add (i*1)).off+[x].length≤(pre++(w.map cellI++post)).length:=by
 rw [addr_add_eq]
 show pre.length+i*1+1≤_
 simp
 omega
theorem seg_put {V:Know} {b:Nat} {pre post:List Value} {w:List Lim} {i:Nat} {x:Int} (h:i<w.length) :
  kset (segV V b pre w post) ((⟨b,pre.length,none⟩:Addr).add (i*1)).block (setl (pre++(w.map cellI++post)) ((⟨b,pre.length,none⟩:Addr).add (i*1)).off [.int .i64 x],(3,(0,0)))=segV V b pre (w.set i (x,())) post:=by
 rw [addr_add_eq]
 show kset (kset V b _) b (setl (pre++(w.map cellI++post)) (pre.length+i*1) _,_)=kset V b _
 rw [kset_kset]
 have e1:pre++(w.map cellI++post)=(pre++(w.take i).map cellI)++((w.drop i).map cellI++post):=by
  rw [List.append_assoc,← List.append_assoc ((w.take i).map cellI),← List.map_append,List.take_append_drop]
 have e3:(w.drop i).map cellI++post=cellI w[i] :: ((w.drop (i+1)).map cellI++post):=by rw [List.drop_eq_getElem_cons h]; rfl
 have e2:w.set i (x,())=w.take i++(x,()) :: w.drop (i+1):=by rw [List.set_eq_take_append_cons_drop,if_pos h]
 rw [e1,e3,setl_mid (by simp; omega) (by simp),e2]
 simp only [List.length_singleton,List.drop_succ_cons,List.drop_zero,List.map_append,List.map_cons,List.append_assoc,List.cons_append,List.nil_append]
 rfl
theorem seg_lr {V:Know} {b:Nat} {pre post:List Value} {w:List Lim} {s:SlV} {l:List Lim} {f:List Nat} (h:LR rI V s l f) (hb:b ∉ f):LR rI (segV V b pre w post) s l f :=
 h.loc fun c hc=>kset_other (fun e=>hb (by rw [← e]; exact hc))
def Low (w:List Lim) (n:Nat):Prop:=∀ j,j<n→0≤limb w j∧limb w j<1000000000
theorem Low.val {w:List Lim} {n:Nat} (h:Low w n):0≤valTo w n∧valTo w n<1000000000 ^ n:=by
 induction n with
 | zero=>simp [valTo]
 | succ n ih =>
  have h0:=ih (fun j hj=>h j (by omega))
  have hl:=h n (by omega)
  have h1:=mul_pw_nonneg hl.1 n
  have h2:=mul_pw_le (show limb w n≤999999999 by omega) n
  rw [valTo,pw_succ]
  constructor
  ·omega
  ·omega
theorem top_zero {w:List Lim} {n:Nat} (hw:w.length=n+1) (h:Low w n) (h0:0≤valN w) (h1:valN w<1000000000 ^ n):Lims w:=by
 have hv:=h.val
 rw [valN,hw,valTo] at h0 h1
 have ht:limb w n=0:=by
  rcases(show limb w n≤-1∨limb w n=0∨1≤limb w n by omega) with e | e | e
  ·have:=mul_pw_le e n
   omega
  ·exact e
  ·have:=mul_pw_le e n
   omega
 intro j
 by_cases e:j<n
 ·exact h j e
 ·by_cases e2:j=n
  ·rw [e2,ht]; omega
  ·rw [limb_ge (by omega)]; omega
theorem cI_subTimes {V:Know} {b cap:Nat} {pre post:List Value} {w v:List Lim} {s:SlV} {f:List Nat} {q:Int} (hw:Lims w) (hl:w.length=v.length+1) (hv:LR rI V s v f) (hb:b ∉ f) (lv:Lims v) (lw:v.length≤1000000) (hq:0≤q∧q<1000000000) :
  CallX Tryz.prog (segV V b pre w post) 218 [Sc.val .l ⟨some ⟨b,pre.length,none⟩,w.length,cap⟩,Sc.val .l s,.int .i64 q]
   (fun V' r=>∃ w',V'=segV V b pre w' post∧w'.length=w.length∧Low w' v.length∧valN w'=valN w-q*valN v∧-1000000000<limb w' v.length∧limb w' v.length<1000000000∧r=.bool (decide (limb w' v.length<0))):=by
 refine CallX.of_fits Tryz.mix (fI_subTimes _ _ _) fun _=>?_
 have hn:=hv.1
 have hB:(1000000000:Int)≠0:=by decide
 simp only [tI_subTimes,T.wp]
 refine⟨fun y V'=>∃ (k:Nat) (o:List Lim),V'=segV V b pre o post∧y.1=⟨some ⟨b,pre.length,none⟩,w.length,cap⟩∧y.2.2.1=(k:Int)∧k≤v.length∧0≤(y.2.1:Int)∧(y.2.1:Int)<1000000000∧o.length=w.length∧Lims o∧valN o=valN w+(y.2.1:Int)*1000000000 ^ k-q*valTo v k,
  fun y=>((v.length:Int)-(y.2.2.1:Int)).toNat,⟨((⟨some ⟨b,pre.length,none⟩,w.length,cap⟩:SlV),(0:Int),(0:Int),()),rfl,0,w,rfl,rfl,rfl,by omega,(by omega:(0:Int)≤0),(by omega:(0:Int)<1000000000),rfl,hw,by simp [valTo]⟩,?_⟩
 rintro⟨s1,(c:Int),(i:Int),u⟩ V' ⟨k,o,rfl,hs1,hi,hk,hc0,hc1,hol,hlo,hvo⟩
 replace hs1:s1=⟨some ⟨b,pre.length,none⟩,w.length,cap⟩:=hs1
 replace hi:i=(k:Int):=hi
 replace hc0:0≤c:=hc0
 replace hc1:c<1000000000:=hc1
 replace hvo:valN o=valN w+c*1000000000 ^ k-q*valTo v k:=hvo
 subst hs1 hi
 refine⟨fun hlt=>?_,fun hge=>?_⟩
 ·have hkv:k<v.length:=by
   have:(k:Int)<(s.n:Int):=of_decide_eq_true hlt
   omega
  obtain⟨b1,o1,a1,l1⟩:=(seg_lr (pre:=pre) (post:=post) (w:=o) hv hb).int hkv
  have ev:v[k].1=limb v k:=(limb_lt hkv).symm
  have lvx:=lv k
  have lox:=hlo k
  have hko:k<o.length:=by omega
  have hxq:=mul_lim lvx hq
  have e0:(k:Int).toNat=k:=by omega
  have hk0:(0:Int)≤(k:Int):=by omega
  have hkw:(k:Int)<((w.length:Nat):Int):=by omega
  have wi:IntKind.i64.wrap ((k:Int)+1)=((k+1:Nat):Int):=nxt hkv (by omega)
  refine⟨_,a1,hk0,(by omega:(k:Int)<(s.n:Int)),limb v k,by rw [← ev]; exact l1,_,rfl,hk0,hkw,limb o k,seg_ld hko,?_⟩
  have e1:IntKind.i64.wrap (limb v k*q)=limb v k*q:=wrap_i64 (by omega)
  have e2:IntKind.i64.wrap (limb o k-limb v k*q)=limb o k-limb v k*q:=wrap_i64 (by omega)
  have e3:IntKind.i64.wrap (limb o k-limb v k*q-c)=limb o k-limb v k*q-c:=wrap_i64 (by omega)
  show(_→_)∧(_→_)
  rw [e1,e2,e3]
  obtain⟨d,hd⟩:∃ d,d=limb o k-limb v k*q-c:=⟨_,rfl⟩
  rw [← hd]
  have next:∀ t e:Int,t=d+e*1000000000→0≤t→t<1000000000→0≤e→e<1000000000→∃ y':LShs [.o (.o .l),.o (.o (.i .i64)),.o (.o (.i .i64))],
    [LV.v (Sc.val .l ⟨some ⟨b,pre.length,none⟩,w.length,cap⟩),.v (.int .i64 e),.v (.int .i64 (IntKind.i64.wrap ((k:Int)+1)))]=LShs.lvs _ y' ∧
    (∃ (k':Nat) (o':List Lim),segV V b pre (o.set k (t,())) post=segV V b pre o' post∧y'.1=⟨some ⟨b,pre.length,none⟩,w.length,cap⟩∧y'.2.2.1=(k':Int)∧k'≤v.length∧0≤(y'.2.1:Int)∧(y'.2.1:Int)<1000000000∧o'.length=w.length∧Lims o'∧valN o'=valN w+(y'.2.1:Int)*1000000000 ^ k'-q*valTo v k') ∧
    ((v.length:Int)-(y'.2.2.1:Int)).toNat<((v.length:Int)-(k:Int)).toNat:=by
   intro t e ht ht0 ht1 he0 he1
   rw [wi]
   refine⟨((⟨some ⟨b,pre.length,none⟩,w.length,cap⟩:SlV),e,((k+1:Nat):Int),()),rfl,⟨k+1,_,rfl,rfl,rfl,hkv,he0,he1,by rw [List.length_set]; exact hol,lims_set hlo hko ⟨ht0,ht1⟩,subt_step (b':=e) hko hvo (by omega)⟩,?_⟩
   show((v.length:Int)-((k+1:Nat):Int)).toNat<_
   omega
  refine⟨fun hneg=>?_,fun hpos=>?_⟩
  ·have hneg':d<0:=of_decide_eq_true hneg
   have g1:IntKind.i64.wrap (0-d)=-d:=by rw [wrap_i64 (by omega)]; omega
   have g2:IntKind.i64.wrap (-d+1000000000)=-d+1000000000:=wrap_i64 (by omega)
   have g3:IntKind.i64.wrap (-d+1000000000-1)=-d+999999999:=by rw [wrap_i64 (by omega)]; omega
   have g4:IntKind.i64.wrap ((-d+999999999).tdiv 1000000000)=(-d+999999999) / 1000000000:=by rw [Int.tdiv_eq_ediv_of_nonneg (by omega)]; exact wrap_i64 (by omega)
   obtain⟨e,he⟩:∃ e,e=(-d+999999999) / 1000000000:=⟨_,rfl⟩
   have g5:IntKind.i64.wrap (e*1000000000)=e*1000000000:=wrap_i64 (by omega)
   have g6:IntKind.i64.wrap (d+e*1000000000)=d+e*1000000000:=wrap_i64 (by omega)
   rw [g1,g2,g3,g4,← he,g5,g6]
   refine⟨hB,_,rfl,hk0,hkw,?_⟩
   rw [e0]
   refine⟨_,_,seg_spot,seg_at2,seg_fit hko,?_⟩
   rw [seg_put hko]
   exact⟨_,rfl,next _ e rfl (by omega) (by omega) (by omega) (by omega)⟩
  ·have hpos':¬ d<0:=of_decide_eq_false hpos
   refine⟨_,rfl,hk0,hkw,?_⟩
   rw [e0]
   refine⟨_,_,seg_spot,seg_at2,seg_fit hko,?_⟩
   rw [seg_put hko]
   exact⟨_,rfl,next d 0 (by omega) (by omega) (by omega) (by omega) (by omega)⟩
 ·have hkv:k=v.length:=by
   have:¬ (k:Int)<(s.n:Int):=of_decide_eq_false hge
   omega
  subst hkv
  have hko:v.length<o.length:=by omega
  have lox:=hlo v.length
  have e0:(s.n:Int).toNat=v.length:=by omega
  have hk0:(0:Int)≤(s.n:Int):=by omega
  have hkw:(s.n:Int)<((w.length:Nat):Int):=by omega
  rw [e0]
  have e1:IntKind.i64.wrap (limb o v.length-c)=limb o v.length-c:=wrap_i64 (by omega)
  refine⟨_,rfl,hk0,hkw,limb o v.length,seg_ld hko,_,rfl,hk0,hkw,?_⟩
  show ∃ cs u,_∧_
  rw [e1]
  have hx:limb (o.set v.length (limb o v.length-c,())) v.length=limb o v.length-c:=by rw [limb_set hko,if_pos rfl]
  refine⟨_,_,seg_spot,seg_at2,seg_fit hko,?_⟩
  rw [seg_put hko]
  refine⟨_,rfl,hk0,hkw,limb (o.set v.length (limb o v.length-c,())) v.length,seg_ld (by rw [List.length_set]; exact hko),?_⟩
  refine⟨_,rfl,by rw [List.length_set]; exact hol,fun j hj=>?_,?_,?_,?_,rfl⟩
  ·rw [limb_set hko,if_neg (by omega)]; exact hlo j
  ·rw [valN_set hko,hvo]
   show _=valN w-q*valTo v v.length
   grind
  ·rw [hx]; omega
  ·rw [hx]; omega
theorem cI_addBack {V:Know} {b cap:Nat} {pre post:List Value} {w v:List Lim} {s:SlV} {f:List Nat} (hw:Low w v.length) (hl:w.length=v.length+1) (hv:LR rI V s v f) (hb:b ∉ f) (lv:Lims v) (lw:v.length≤1000000) (htop:-1000000000<limb w v.length∧limb w v.length<1000000000) :
  CallX Tryz.prog (segV V b pre w post) 219 [Sc.val .l ⟨some ⟨b,pre.length,none⟩,w.length,cap⟩,Sc.val .l s]
   (fun V' r=>∃ w',V'=segV V b pre w' post∧w'.length=w.length∧Low w' v.length∧valN w'=valN w+valN v∧r=.tuple #[]):=by
 refine CallX.of_fits Tryz.mix (fI_addBack _ _) fun _=>?_
 have hn:=hv.1
 have hB:(1000000000:Int)≠0:=by decide
 simp only [tI_addBack,T.wp]
 refine⟨fun y V'=>∃ (k:Nat) (o:List Lim),V'=segV V b pre o post∧y.1=⟨some ⟨b,pre.length,none⟩,w.length,cap⟩∧y.2.2.1=(k:Int)∧k≤v.length∧0≤(y.2.1:Int)∧(y.2.1:Int)≤1∧o.length=w.length∧Low o v.length∧limb o v.length=limb w v.length∧valN o+(y.2.1:Int)*1000000000 ^ k=valN w+valTo v k,
  fun y=>((v.length:Int)-(y.2.2.1:Int)).toNat,⟨((⟨some ⟨b,pre.length,none⟩,w.length,cap⟩:SlV),(0:Int),(0:Int),()),rfl,0,w,rfl,rfl,rfl,by omega,(by omega:(0:Int)≤0),(by omega:(0:Int)≤1),rfl,hw,rfl,by simp [valTo]⟩,?_⟩
 rintro⟨s1,(c:Int),(i:Int),u⟩ V' ⟨k,o,rfl,hs1,hi,hk,hc0,hc1,hol,hlo,hto,hvo⟩
 replace hs1:s1=⟨some ⟨b,pre.length,none⟩,w.length,cap⟩:=hs1
 replace hi:i=(k:Int):=hi
 replace hc0:0≤c:=hc0
 replace hc1:c≤1:=hc1
 replace hvo:valN o+c*1000000000 ^ k=valN w+valTo v k:=hvo
 subst hs1 hi
 refine⟨fun hlt=>?_,fun hge=>?_⟩
 ·have hkv:k<v.length:=by
   have:(k:Int)<(s.n:Int):=of_decide_eq_true hlt
   omega
  obtain⟨b1,o1,a1,l1⟩:=(seg_lr (pre:=pre) (post:=post) (w:=o) hv hb).int hkv
  have ev:v[k].1=limb v k:=(limb_lt hkv).symm
  have lvx:=lv k
  have lox:=hlo k hkv
  have hko:k<o.length:=by omega
  have e0:(k:Int).toNat=k:=by omega
  have hk0:(0:Int)≤(k:Int):=by omega
  have hkw:(k:Int)<((w.length:Nat):Int):=by omega
  have wi:IntKind.i64.wrap ((k:Int)+1)=((k+1:Nat):Int):=nxt hkv (by omega)
  have e1:IntKind.i64.wrap (limb o k+limb v k)=limb o k+limb v k:=wrap_i64 (by omega)
  have e2:IntKind.i64.wrap (c+(limb o k+limb v k))=c+(limb o k+limb v k):=wrap_i64 (by omega)
  obtain⟨t,ht⟩:∃ t,t=c+(limb o k+limb v k):=⟨_,rfl⟩
  have t0:0≤t:=by omega
  have e4:t.tmod 1000000000=t % 1000000000:=Int.tmod_eq_emod_of_nonneg t0
  have e5:IntKind.i64.wrap (t.tdiv 1000000000)=t / 1000000000:=by rw [Int.tdiv_eq_ediv_of_nonneg t0]; exact wrap_i64 (by omega)
  refine⟨_,a1,hk0,(by omega:(k:Int)<(s.n:Int)),limb v k,by rw [← ev]; exact l1,_,rfl,hk0,hkw,limb o k,seg_ld hko,hB,_,rfl,hk0,hkw,?_⟩
  show ∃ cs u,_∧_
  rw [e1,e2,← ht,e4,e5,wi,e0]
  refine⟨_,_,seg_spot,seg_at2,seg_fit hko,?_⟩
  rw [seg_put hko]
  refine⟨hB,_,rfl,((⟨some ⟨b,pre.length,none⟩,w.length,cap⟩:SlV),t / 1000000000,((k+1:Nat):Int),()),rfl,⟨k+1,_,rfl,rfl,rfl,hkv,(by omega:(0:Int)≤t / 1000000000),(by omega:t / 1000000000≤1),by rw [List.length_set]; exact hol,fun j hj=>?_,?_,addb_step (d:=t % 1000000000) (e:=t / 1000000000) hko hvo (by omega)⟩,?_⟩
  ·rw [limb_set hko]
   split
   ·constructor <;> omega
   ·exact hlo j hj
  ·rw [limb_set hko,if_neg (by omega)]; exact hto
  ·show((v.length:Int)-((k+1:Nat):Int)).toNat<((v.length:Int)-(k:Int)).toNat
   omega
 ·have hkv:k=v.length:=by
   have:¬ (k:Int)<(s.n:Int):=of_decide_eq_false hge
   omega
  subst hkv
  have hko:v.length<o.length:=by omega
  have e0:(s.n:Int).toNat=v.length:=by omega
  have hk0:(0:Int)≤(s.n:Int):=by omega
  have hkw:(s.n:Int)<((w.length:Nat):Int):=by omega
  rw [e0]
  have e1:IntKind.i64.wrap (limb o v.length+c)=limb o v.length+c:=wrap_i64 (by omega)
  refine⟨_,rfl,hk0,hkw,limb o v.length,seg_ld hko,_,rfl,hk0,hkw,?_⟩
  show ∃ cs u,_∧_
  rw [e1]
  refine⟨_,_,seg_spot,seg_at2,seg_fit hko,?_⟩
  rw [seg_put hko]
  refine⟨_,rfl,by rw [List.length_set]; exact hol,fun j hj=>?_,?_,rfl⟩
  ·rw [limb_set hko,if_neg (by omega)]; exact hlo j hj
  ·rw [valN_set hko]
   show _=valN w+valTo v v.length
   rw [← hvo]
   grind
end Go.Proofs.YtpdfdkccgkieoaaGreatDoor
