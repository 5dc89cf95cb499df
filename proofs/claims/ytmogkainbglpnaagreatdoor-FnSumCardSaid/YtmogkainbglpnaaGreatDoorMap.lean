/-
  Operations on maps that are known: made, asked, laid into.
-/
import Derived.Test.YtmogkainbglpnaaGreatDoorDivE
import Derived.Test.YtmogkainbglpnaaGreatDoorMath
import Derived.Test.YtmogkainbglpnaaGreatDoorNum
import Derived.ChangeKeysEq
import Derived.Carry
namespace Go.Proofs.YtmogkainbglpnaaGreatDoor
open Sx
set_option maxRecDepth 100000
abbrev DivPost (V:Know) (a b:List Lim):Know→Value→Prop:=fun V' ret=>V.le V'∧∃ s1 s2 q r f1 f2,ret=.tuple #[Sc.val .l s1,Sc.val .l s2]∧LR rI V' s1 q f1∧LR rI V' s2 r f2∧Own V V' f1∧Own V V' f2∧Can q∧Can r∧valN a=valN q*valN b+valN r∧valN r<valN b
theorem int_size:Tryz.prog.types[(3:Nat)].size=1:=by kernel_rfl
theorem Nw.seg {V:Know} {s:SlV} {o:List Lim} {b:Nat} {post:List Value} (hs:s=⟨some ⟨b,0,none⟩,o.length,o.length+post.length⟩) (hl:o.length≤9223372036854775807):Nw (segV V b [] o post) s o b :=
 ⟨post,hs,seg_at,hl⟩
theorem seg_split {V:Know} {b j n:Nat} {U:List Lim} {post:List Value}:segV V b [] U post=segV V b ((U.take j).map cellI) ((U.drop j).take n) ((U.drop (j+n)).map cellI++post):=by
 unfold segV
 have e:U=U.take j++((U.drop j).take n++U.drop (j+n)):=by
  rw [← List.drop_drop,List.take_append_drop,List.take_append_drop]
 conv=>lhs; rw [e]
 simp only [List.map_append,List.nil_append,List.append_assoc]
theorem seg_join {V:Know} {b j n:Nat} {U w:List Lim} {post:List Value}:segV V b ((U.take j).map cellI) w ((U.drop (j+n)).map cellI++post)=segV V b [] (U.take j++(w++U.drop (j+n))) post:=by
 unfold segV
 simp only [List.map_append,List.nil_append,List.append_assoc]
theorem seg_le {V V1:Know} {b:Nat} {pre post:List Value} {w:List Lim} (h:V.le V1) (hb:V b=none):V.le (segV V1 b pre w post):=by
 intro k x hk
 unfold segV
 rw [kset_other (fun e=>by rw [e,hb] at hk; cases hk)]
 exact h k x hk
theorem none_le {V V1:Know} {b:Nat} (h:V.le V1) (hb:V1 b=none):V b=none:=none_of_le h hb
theorem scale_bd {b:List Lim} {c:Int} (hb:Lims b) (hl:0<b.length) (hc:0<c) (hcb:c*(limb b (b.length-1)+1)≤1000000000):valN b*c<1000000000 ^ b.length:=by
 obtain⟨k,hk⟩:∃ k,b.length=k+1:=⟨b.length-1,by omega⟩
 rw [hk] at hcb ⊢
 simp only [Nat.add_sub_cancel] at hcb
 have h1:=(valTo_bd hb k).2
 have h2:valN b=valTo b k+limb b k*1000000000 ^ k:=by rw [valN,hk,valTo]
 have h3:valN b<(limb b k+1)*1000000000 ^ k:=by rw [h2,Int.add_mul,Int.one_mul]; omega
 have h4:valN b*c<(limb b k+1)*1000000000 ^ k*c:=Int.mul_lt_mul_of_pos_right h3 hc
 have h5:=mul_pw_le hcb k
 rw [pw_succ]
 have h6:(limb b k+1)*1000000000 ^ k*c=c*(limb b k+1)*1000000000 ^ k:=by grind
 omega
theorem unscale {a b u q r r0 c:Int} (hc:0<c) (h:q*(b*c)+u=a*c) (hu:u<b*c) (hr:u=r*c+r0) (h0:0≤r0) (h1:r0<c):a=q*b+r∧r<b:=by
 have e:u=(a-q*b)*c+0:=by grind
 obtain⟨e1,e2⟩:=quot_unique hr e ⟨h0,h1⟩ ⟨Int.le_refl _,hc⟩
 refine⟨by omega,?_⟩
 have:r*c<b*c:=by omega
 exact Int.lt_of_mul_lt_mul_right this (Int.le_of_lt hc)
set_option maxHeartbeats 2000000 in
theorem cI_natDiv (V:Know) (s s':SlV) (a b:List Lim) (f f':List Nat) (h:LR rI V s a f) (h':LR rI V s' b f') (ha:Can a) (hb:Can b) (la:a.length≤900000) (lb:0<b.length) :
  CallX Tryz.prog V 87 [Sc.val .l s,Sc.val .l s'] (DivPost V a b):=by
 refine CallX.of_fits Tryz.mix (fI_natDiv _ _) fun _=>?_
 have hn:=h.1
 have hn':=h'.1
 have h63:=h'.2.2.1
 simp only [tI_natDiv,T.wp]
 refine(cI_natCmp V s s' a b f f' h h').mono ?_
 rintro V0 r0 ⟨rfl,rfl⟩
 have hcmp:=cmpL_val ha hb
 have hbp:=(can_pos hb).1 lb
 refine⟨nofun,_,rfl,fun hlt=>?_,fun hge=>?_⟩
 ·have hlt':cmpL a b<0:=of_decide_eq_true hlt
  have hv0:valN a<valN b:=by rcases hcmp with ⟨c,k⟩ | ⟨c,k⟩ | ⟨c,k⟩ <;> omega
  refine(cI_natCopy V0 s a f h (by omega)).mono ?_
  rintro V1 r ⟨hle,s1,f1,rfl,hL,hO⟩
  refine⟨nofun,s1,rfl,?_⟩
  intro b3 c3 spare hb3 _ _
  have hV:=kset_le (x:=(([]:List Value)++spare,((3:TypeId),((0,0):Nat × Nat)))) hb3
  exact⟨hle.trans hV,⟨some ⟨b3,0,none⟩,0,c3⟩,s1,[],a,[],f1,rfl,⟨rfl,Nat.zero_le _,Nat.zero_le _,.inl ⟨rfl,(fun h=>by cases h),rfl⟩⟩,hL.le hV,Own.nil,hO.post hV,⟨lims_nil,.inl rfl⟩,ha,by rw [valN_nil]; simp,hv0⟩
 have hge':¬ cmpL a b<0:=of_decide_eq_false hge
 have hv0:valN b≤valN a:=by rcases hcmp with ⟨c,k⟩ | ⟨c,k⟩ | ⟨c,k⟩ <;> omega
 have lba:=can_len ha hb hv0
 refine⟨fun hone=>?_,fun hmore=>?_⟩
 ·have hb1:b.length=1:=by
   have:(s'.n:Int)=1:=by simpa using hone
   omega
  obtain⟨b1,o1,a1,l1⟩:=h'.int lb
  rw [← limb_lt lb] at l1
  have hvb:valN b=limb b 0:=by rw [valN,hb1]; simp [valTo]
  have lx:=hb.1 0
  refine⟨_,a1,Int.le_refl _,(by omega:(0:Int)<(s'.n:Int)),limb b 0,l1,?_⟩
  refine(cI_natSmall V0 s a f (limb b 0) h ha.1 (by omega) (by omega)).mono ?_
  rintro V1 r ⟨hle,s1,q,r1,f1,rfl,hL,hO,hc,hv,h0,h1,_⟩
  refine⟨nofun,(s1,r1,()),rfl,(cI_NatOf V1 r1 (by omega)).mono ?_⟩
  rintro V2 r ⟨hle2,s2,o,f2,rfl,hL2,hO2,hc2,hv2,_⟩
  exact⟨nofun,s2,rfl,hle.trans hle2,s1,s2,q,o,f1,f2,rfl,hL.le hle2,hL2,hO.post hle2,hO2.pre hle,hc,hc2,by rw [hvb,hv2]; exact hv,by rw [hvb,hv2]; exact h1⟩
 have hb2:2≤b.length:=by
  have:¬ (s'.n:Int)=1:=by simpa using hmore
  omega
 have w1:IntKind.i64.wrap ((s'.n:Int)-1)=((b.length-1:Nat):Int):=by rw [wrap_i64 (by omega)]; omega
 rw [w1]
 obtain⟨b1,o1,a1,l1⟩:=h'.int (i:=b.length-1) (by omega)
 rw [← limb_lt (show b.length-1<b.length by omega)] at l1
 have lx:=hb.1 (b.length-1)
 have ltop:limb b (b.length-1)≠0:=by
  rcases hb.2 with e | e
  ·omega
  ·exact e
 refine⟨_,a1,by omega,(by omega:((b.length-1:Nat):Int)<(s'.n:Int)),limb b (b.length-1),l1,?_⟩
 have w2:IntKind.i64.wrap (limb b (b.length-1)+1)=limb b (b.length-1)+1:=wrap_i64 (by omega)
 have w3:IntKind.i64.wrap ((1000000000:Int).tdiv (limb b (b.length-1)+1))=1000000000 / (limb b (b.length-1)+1):=by
  have g1:=Int.ediv_nonneg (show(0:Int)≤1000000000 by decide) (show 0≤limb b (b.length-1)+1 by omega)
  have g2:=Int.ediv_le_self (limb b (b.length-1)+1) (show(0:Int)≤1000000000 by decide)
  rw [Int.tdiv_eq_ediv_of_nonneg (by decide)]
  exact wrap_i64 (by omega)
 rw [w2,w3]
 obtain⟨c,hc⟩:∃ c,c=1000000000 / (limb b (b.length-1)+1):=⟨_,rfl⟩
 have hc1:1≤c:=by
  rw [hc]
  exact(Int.le_ediv_iff_mul_le (by omega)).2 (by omega)
 have hcm:c*(limb b (b.length-1)+1)≤1000000000:=by
  rw [hc]
  exact Int.ediv_mul_le _ (by omega)
 have hc2:c<1000000000:=by
  have h1:c*2≤c*(limb b (b.length-1)+1):=Int.mul_le_mul_of_nonneg_left (by omega) (by omega)
  omega
 rw [← hc]
 refine⟨by omega,?_⟩
 intro b4 c4 spare4 hb4 hc4 _
 have k4:=newI (V:=V0) (b:=b4) (cap:=c4) (o:=[(c,())]) (spare:=spare4) (t:=3) hb4 hc4 (by simp)
 have hle4:=kset_le (x:=([(c,())].map cellI++spare4,((3:TypeId),((0,0):Nat × Nat)))) hb4
 have lc:Lims [(c,())]:=lims_one ⟨by omega,hc2⟩
 have cc:Can [(c,())]:=⟨lc,.inr (by show limb [(c,())] 0≠0; simp [limb]; omega)⟩
 refine(cI_natMul _ s ⟨some ⟨b4,0,none⟩,1,c4⟩ a [(c,())] f _ (h.le hle4) k4.1 ha.1 lc (by omega) (by simp)).mono ?_
 rintro V5 r5 ⟨hle5,s5,u,bu,rfl,nwu,hbu,canu,valu,capu⟩
 rw [valN_one] at valu
 refine⟨nofun,s5,rfl,?_⟩
 intro b6 c6 spare6 hb6 hc6 _
 have k6:=newI (V:=V5) (b:=b6) (cap:=c6) (o:=[(c,())]) (spare:=spare6) (t:=3) hb6 hc6 (by simp)
 have hle6:=kset_le (x:=([(c,())].map cellI++spare6,((3:TypeId),((0,0):Nat × Nat)))) hb6
 have hle06:=(hle4.trans hle5).trans hle6
 refine(cI_natMul _ s' ⟨some ⟨b6,0,none⟩,1,c6⟩ b [(c,())] f' _ (h'.le hle06) k6.1 hb.1 lc (by omega) (by simp)).mono ?_
 rintro V7 r7 ⟨hle7,s7,v,bv,rfl,nwv,hbv,canv,valv,_⟩
 rw [valN_one] at valv
 refine⟨nofun,s7,rfl,?_⟩
 have hle07:=hle06.trans hle7
 have hbu0:V0 bu=none:=none_le hle4 hbu
 -- lengths
 have hvp:0<valN v:=by
  rw [valv]
  exact Int.mul_pos hbp (by omega)
 have hvlt:valN v<1000000000 ^ b.length:=by rw [valv]; exact scale_bd hb.1 lb (by omega) hcm
 have hbv1:valN b≤valN v:=by
  rw [valv]
  have:=Int.mul_le_mul_of_nonneg_left hc1 (Int.le_of_lt hbp)
  omega
 have lv:v.length=b.length:=by
  have h1:=can_len canv hb hbv1
  have h2:v.length≤b.length:=by
   by_cases e:v.length≤b.length
   ·exact e
   ·have g1:=can_ge canv (by omega)
    have g2:=pw_mono (show b.length≤v.length-1 by omega)
    omega
  omega
 have lvp:=(can_pos canv).2 hvp
 have vtop:limb v (v.length-1)≠0:=by
  rcases canv.2 with e | e
  ·omega
  ·exact e
 have hvL:LR rI V7 s7 v [bv]:=nwv.lr
 have hn7:s7.n=v.length:=hvL.1
 have nwu7:V7 bu=V5 bu:=by
  obtain⟨sp,e1,e2,e3⟩:=nwu
  rw [e2]
  exact hle7 _ _ (hle6 _ _ e2)
 have hbne:bu≠bv:=by
  intro e
  obtain⟨sp,e1,e2,e3⟩:=nwu
  have:=hle6 _ _ e2
  rw [e,hbv] at this
  cases this
 have ua:valN u<1000000000 ^ (a.length+1):=by
  rw [valu,pw_succ]
  have h1:=(valTo_bd ha.1 a.length).2
  have h2:valN a*c≤valN a*999999999:=Int.mul_le_mul_of_nonneg_left (by omega) (valN_nonneg ha.1)
  have h3:=valN_nonneg ha.1
  have h4:valN a<1000000000 ^ a.length:=h1
  omega
 have lu:u.length≤a.length+1:=by
  by_cases e:u.length≤a.length+1
  ·exact e
  ·have g1:=can_ge canu (by omega)
   have g2:=pw_mono (show a.length+1≤u.length-1 by omega)
   omega
 obtain⟨C,hC⟩:∃ C,C=s5.c:=⟨_,rfl⟩
 have hCa:a.length+2≤C:=by rw [hC]; simpa using capu
 have hCm:C≤9223372036854775807∨True:=.inr trivial
 -- the dividend gets its zeros
 refine⟨fun y V'=>∃ (o:List Lim) (sp:List Value),V'=segV V7 bu [] o sp∧y.1=⟨some ⟨bu,0,none⟩,o.length,C⟩∧o.length+sp.length=C∧Lims o∧valN o=valN u∧o.length≤a.length+1,
  fun y=>a.length+2-y.1.n,⟨(s5,()),rfl,?_⟩,?_⟩
 ·obtain⟨sp,e1,e2,e3⟩:=nwu
  refine⟨u,sp,?_,?_,?_,canu.1,rfl,lu⟩
  ·exact(kset_self (by rw [nwu7]; exact e2)).symm
  ·show s5=_
   rw [hC,e1]
  ·rw [hC,e1]
 rintro⟨s8,uu⟩ V' ⟨o,sp,rfl,hs8,hosp,lo,vo,ho⟩
 replace hs8:s8=⟨some ⟨bu,0,none⟩,o.length,C⟩:=hs8
 subst hs8
 refine⟨fun hshort=>?_,fun hlong=>?_⟩
 ·have hsh:o.length≤a.length:=by
   have:((o.length:Nat):Int)≤(s.n:Int):=of_decide_eq_true hshort
   omega
  refine⟨rfl,rfl,(by omega:o.length≤C),nofun,nofun,fun _ _=>⟨bu,o.map cellI++sp,rfl,seg_at,?_,_,rfl,((⟨some ⟨bu,0,none⟩,o.length+1,C⟩:SlV),()),rfl,⟨o++[(0,())],sp.drop 1,?_,?_,?_,lims_snoc lo (by decide),?_,?_⟩,?_⟩,fun _ hbad=>?_⟩
  ·show(o.length+1)*1≤(o.map cellI++sp).length
   rw [List.length_append,List.length_map]; omega
  ·show kset (kset V7 bu _) bu (setl (o.map cellI++sp) (o.length*1) [.int .i64 0],_)=kset V7 bu _
   rw [kset_kset,setl_mid (by simp) (by simp; omega)]
   simp [cellI]
  ·show(⟨_,_,_⟩:SlV)=_
   simp
  ·simp; omega
  ·rw [valN_app,valN_one,Int.zero_mul,vo]; omega
  ·simp; omega
  ·show a.length+2-(o.length+1)<a.length+2-o.length
   omega
  ·have:C<o.length+1:=hbad
   omega
 have hlo:o.length=a.length+1:=by
  have:¬ ((o.length:Nat):Int)≤(s.n:Int):=of_decide_eq_false hlong
  omega
 have w4:IntKind.i64.wrap (((o.length:Nat):Int)-(s7.n:Int))=((a.length+1-v.length:Nat):Int):=by rw [wrap_i64 (by omega)]; omega
 show((0:Int)≤IntKind.i64.wrap (((o.length:Nat):Int)-(s7.n:Int))∧_∧_∧_)∧_
 rw [w4]
 obtain⟨N,hN⟩:∃ N,N=a.length+1-v.length:=⟨_,rfl⟩
 rw [← hN]
 have w5:IntKind.i64.wrap (((((N:Nat):Int).toNat:Nat):Int)-1)=(N:Int)-1:=by rw [wrap_i64 (by omega)]; omega
 rw [w5]
 refine⟨⟨by omega,by omega,by omega,by omega⟩,?_⟩
 have hdrop:valN (o.drop N)<valN v:=by
  have h1:=valTo_drop o N (o.drop N).length
  have h2:valTo o (N+(o.drop N).length)=valN o:=by rw [valTo_ge (by simp; omega)]
  rw [h2] at h1
  have h3:=(valTo_bd lo N).1
  have h4:valN (o.drop N)*1000000000 ^ N≤valN a*c:=by
   show valTo (o.drop N) (o.drop N).length*_≤_
   omega
  have h5:=(valTo_bd ha.1 a.length).2
  have h6:=can_ge hb lb
  have h7:valN a<1000000000 ^ N*valN b:=by
   have e:(1000000000:Int) ^ a.length=1000000000 ^ N*1000000000 ^ (b.length-1):=by
    rw [← pw_add]
    congr 1
    omega
   have:1000000000 ^ N*1000000000 ^ (b.length-1)≤1000000000 ^ N*valN b:=Int.mul_le_mul_of_nonneg_left h6 (Int.le_of_lt (pw_pos N))
   have h8:valN a<1000000000 ^ a.length:=h5
   omega
  have h8:valN a*c<1000000000 ^ N*valN b*c:=Int.mul_lt_mul_of_pos_right h7 (by omega)
  have h9:1000000000 ^ N*valN b*c=valN v*1000000000 ^ N:=by rw [valv]; grind
  have h10:valN (o.drop N)*1000000000 ^ N<valN v*1000000000 ^ N:=by omega
  exact Int.lt_of_mul_lt_mul_right h10 (Int.le_of_lt (pw_pos N))
 refine⟨fun y V'=>∃ (k:Nat) (Q U:List Lim),V'=segV V7 bu [] U sp∧y.2.1=(k:Int)-1∧k≤N∧y.1.1=N∧y.1.2=Q.map cellI∧Q.length=N∧Lims Q∧(∀ j,j<k→limb Q j=0)∧U.length=o.length∧Lims U∧valN Q*valN v+valN U=valN a*c∧valN (U.drop k)<valN v,
  fun y=>((y.2.1:Int)+1).toNat,⟨((((N:Nat):Int).toNat,(madeCells ⟨[.int .i64 (0:Int)]⟩ (((N:Nat):Int).toNat*1)).toList),(N:Int)-1,()),rfl,N,zer N,o,rfl,rfl,Nat.le_refl _,(by omega:((N:Nat):Int).toNat=N),by rw [show((N:Nat):Int).toNat*1=N by omega]; exact made_zer _,len_zer _,lims_zer _,fun j _=>limb_zer _ j,rfl,lo,by rw [valN_zer,vo,valu]; simp,hdrop⟩,?_⟩
 rintro⟨⟨n9,ys⟩,(i:Int),u9⟩ V' ⟨k,Q,U,rfl,hi,hk,hn9,hys,hQ,lQ,zQ,hU,lU,hval,hdr⟩
 replace hi:i=(k:Int)-1:=hi
 replace hn9:n9=N:=hn9
 replace hys:ys=Q.map cellI:=hys
 subst hn9 hys
 refine⟨fun hge2=>?_,fun hlt2=>?_⟩
 ·have hge2':i≥0:=of_decide_eq_true hge2
  obtain⟨j,rfl⟩:∃ j,k=j+1:=⟨k-1,by omega⟩
  have hi:i=(j:Int):=by omega
  subst hi
  have e0:(j:Int).toNat=j:=by omega
  have w6:IntKind.i64.wrap (IntKind.i64.wrap ((j:Int)+(s7.n:Int))+1)=((j+v.length+1:Nat):Int):=by
   rw [show IntKind.i64.wrap ((j:Int)+(s7.n:Int))=(j:Int)+(s7.n:Int) from wrap_i64 (by omega),wrap_i64 (by omega)]
   omega
  have w7:IntKind.i64.wrap ((j:Int)-1)=(j:Int)-1:=wrap_i64 (by omega)
  have hlU:((U.drop j).take (v.length+1)).length=v.length+1:=by simp; omega
  have hpre:((U.take j).map cellI).length=j:=by simp; omega
  have hjC:((j+v.length+1:Nat):Int)≤(C:Int):=by omega
  have hj0:(0:Int)≤(j:Int):=by omega
  have hjw:(j:Int)≤((j+v.length+1:Nat):Int):=by omega
  have t1:((j+v.length+1:Nat):Int).toNat-Int.toNat (j:Int)=v.length+1:=by omega
  have t2:((C:Nat):Int).toNat-Int.toNat (j:Int)=C-j:=by omega
  have t3:(if ((C:Nat):Int).toNat=Int.toNat (j:Int) then some (⟨bu,0,none⟩:Addr) else Option.map (fun x=>x.add (Int.toNat (j:Int)*Tryz.prog.types[(3:Nat)].size)) (some (⟨bu,0,none⟩:Addr)))=some ⟨bu,j,none⟩:=by
   rw [if_neg (by omega),int_size]
   show some ((⟨bu,0,none⟩:Addr).add ((j:Int).toNat*1))=_
   rw [addr_add_eq,e0]
   simp
  dsimp only
  rw [w6,t1,t2,t3,w7]
  refine⟨⟨hj0,hjw,hjC,Int.le_refl _⟩,?_⟩
  have hsl:Value.slice (some ⟨bu,j,none⟩) (v.length+1) (C-j)=Sc.val .l ⟨some ⟨bu,((U.take j).map cellI).length,none⟩,((U.drop j).take (v.length+1)).length,C-j⟩:=by rw [hlU,hpre]; rfl
  rw [hsl,seg_split (j:=j) (n:=v.length+1) (U:=U)]
  -- the window holds all that is left of the dividend
  have hdj:valN (U.drop j)=limb U j+1000000000*valN (U.drop (j+1)):=by
   have h1:=valTo_drop (U.drop j) 1 (U.drop (j+1)).length
   rw [List.drop_drop] at h1
   have h2:valTo (U.drop j) (1+(U.drop (j+1)).length)=valN (U.drop j):=by
    rw [valN]
    congr 1
    simp
    omega
   rw [h2] at h1
   rw [h1]
   have h3:valTo (U.drop j) 1=limb U j:=by simp [valTo,limb_drop]
   rw [h3]
   show _+valTo _ _*1000000000 ^ 1=_+_*valTo _ _
   rw [Int.pow_succ,Int.pow_zero]
   omega
  have hwin:valN ((U.drop j).take (v.length+1))=valN (U.drop j):=by
   have hlt:valN (U.drop j)<1000000000 ^ (v.length+1):=by
    rw [pw_succ,hdj]
    have:=lU j
    rw [lv] at *
    omega
   rw [valN,hlU,valTo_take (Nat.le_refl _)]
   have hz:=fun i (hi:v.length+1≤i)=>limb_top (lims_drop lU j) hlt hi
   have:∀ n,valTo (U.drop j) (v.length+1+n)=valTo (U.drop j) (v.length+1):=by
    intro n
    induction n with
    | zero=>rfl
    | succ n ih=>rw [← Nat.add_assoc,valTo,ih,hz _ (by omega)]; simp
   have h2:=this ((U.drop j).length-(v.length+1))
   rw [show v.length+1+((U.drop j).length-(v.length+1))=(U.drop j).length by simp; omega] at h2
   exact h2.symm
  have hUj:=lU j
  refine(cI_divStep (V:=V7) (b:=bu) (cap:=C-j) (pre:=(U.take j).map cellI) (post:=(U.drop (j+(v.length+1))).map cellI++sp) (w:=(U.drop j).take (v.length+1)) (v:=v) (s:=s7) (f:=[bv])
   (lims_take (lims_drop lU j) _) hlU hvL (by simpa using hbne) canv.1 (by omega) (by omega) vtop (by rw [hwin,hdj]; omega)).mono ?_
  rintro V'' r ⟨w',x,rfl,hw'l,lw',vw',w0,w1',x0,x1,rfl⟩
  have hjQ:j<Q.length:=by omega
  have hlen':w'.length=v.length+1:=by rw [hw'l,hlU]
  have hUsplit:U=U.take j++((U.drop j).take (v.length+1)++U.drop (j+(v.length+1))):=by
   rw [← List.drop_drop,List.take_append_drop,List.take_append_drop]
  refine⟨nofun,x,rfl,⟨by omega,(by omega:(j:Int)<((n9:Nat):Int))⟩,?_,_,rfl,((n9,(Q.set j (x,())).map cellI),(j:Int)-1,()),?_,⟨j,_,_,seg_join,rfl,by omega,rfl,rfl,by rw [List.length_set]; exact hQ,lims_set lQ hjQ ⟨x0,x1⟩,fun i hi=>?_,?_,?_,?_,?_⟩,?_⟩
  ·show(j:Int).toNat*1+1≤(Q.map cellI).length
   rw [List.length_map]; omega
  ·show [LV.a 3 n9 (setl (Q.map cellI) ((j:Int).toNat*1) [Value.int .i64 x]),_]=_
   rw [show(j:Int).toNat*1=j by omega,setl_cell hjQ]
   rfl
  ·rw [limb_set hjQ,if_neg (by omega)]; exact zQ i (by omega)
  ·simp only [List.length_append,List.length_take,List.length_drop]
   omega
  ·exact lims_app (lims_take lU j) (lims_app lw' (lims_drop lU _))
  ·refine place_step (u:=valN U) (w:=valN ((U.drop j).take (v.length+1))) (w':=valN w') hjQ (zQ j (by omega)) hval ?_ vw'
   have:=valN_put (p:=U.take j) (w:=(U.drop j).take (v.length+1)) (w':=w') (r:=U.drop (j+(v.length+1))) (by omega)
   rw [this,← hUsplit]
   rw [show(U.take j).length=j by simp; omega]
  ·have e1:(U.take j++(w'++U.drop (j+(v.length+1)))).drop j=w'++U.drop (j+(v.length+1)):=by
    have:=List.drop_left (l₁:=U.take j) (l₂:=w'++U.drop (j+(v.length+1)))
    rwa [show(U.take j).length=j by simp; omega] at this
   rw [e1,valN_app]
   have e2:valN (U.drop (j+(v.length+1)))=0:=by
    have hz:=fun i (hi:v.length+1≤i)=>limb_top (l:=U.drop j) (k:=v.length+1) (lims_drop lU j) (by
     rw [pw_succ,hdj]
     have:=lU j
     rw [lv] at *
     omega) hi
    have:∀ n,valTo (U.drop (j+(v.length+1))) n=0:=by
     intro n
     induction n with
     | zero=>rfl
     | succ n ih =>
      have h1:=hz (v.length+1+n) (by omega)
      rw [limb_drop] at h1
      rw [valTo,ih,limb_drop,show j+(v.length+1)+n=j+(v.length+1+n) by omega,h1]; simp
    exact this _
   rw [e2]
   simp
   exact w1'
  ·show((j:Int)-1+1).toNat<((j:Int)+1).toNat
   omega
 ·have hlt2':¬ i≥0:=of_decide_eq_false hlt2
  have hk0:k=0:=by omega
  subst hk0
  rw [List.drop_zero] at hdr
  have nwU:Nw (segV V7 bu [] U sp) ⟨some ⟨bu,0,none⟩,o.length,C⟩ U bu:=Nw.seg (by rw [hU,hosp]) (by omega)
  have hleU:V0.le (segV V7 bu [] U sp):=seg_le hle07 hbu0
  have hnU:=valN_nonneg lU
  refine(cI_trim2 _ _ _ _ nwU.lr).mono ?_
  rintro V8 r8 ⟨rfl,s8,rfl,-,hL8⟩
  obtain⟨tcan,tval⟩:=trim_can lU
  have ltl:(trimL U).length≤U.length:=by simp [trimL]; omega
  refine⟨nofun,s8,rfl,(cI_natSmall _ s8 (trimL U) _ c hL8 tcan.1 (by omega) ⟨by omega,by omega⟩).mono ?_⟩
  rintro V9 r9 ⟨hle9,s9,rr,r0,f9,rfl,hL9,hO9,hc9,hv9,h90,h91,_⟩
  refine⟨nofun,(s9,r0,()),rfl,?_⟩
  intro b12 c12 spare12 hb12 hc12 _
  have hc12':n9≤c12:=hc12
  have k12:=newI (V:=V9) (b:=b12) (cap:=c12) (o:=Q) (spare:=spare12) (t:=3) hb12 (by omega) (by omega)
  have hle12:=kset_le (x:=(Q.map cellI++spare12,((3:TypeId),((0,0):Nat × Nat)))) hb12
  obtain⟨qcan,qval⟩:=trim_can lQ
  have key:=cI_trim2 _ _ _ _ k12.1
  rw [hQ] at key
  refine key.mono ?_
  rintro V10 r10 ⟨rfl,s10,rfl,-,hL10⟩
  rw [tval] at hv9
  rw [valv] at hval hdr
  obtain⟨z1,z2⟩:=unscale (by omega) hval hdr hv9 h90 h91
  exact⟨nofun,s10,rfl,(hleU.trans hle9).trans hle12,s10,s9,_,rr,_,f9,rfl,hL10,hL9.le hle12,k12.2.pre (hleU.trans hle9),(hO9.pre hleU).post hle12,qcan,hc9,by rw [qval]; exact z1,z2⟩
end Go.Proofs.YtmogkainbglpnaaGreatDoor
namespace Go.Proofs.YtmogkainbglpnaaGreatDoor
open Sx
set_option maxRecDepth 100000
def limOf:Value→Lim
 | .int _ x=>(x,())
 | _=>(0,())
def memN (V:Know) (s:SlV):Nat:=if s.n=0 then 0 else match s.a with
 | some ad=>(match loadV V ad (s.n*1) with | some cs=>(valN (cs.map limOf)).toNat | none=>0)
 | none=>0
theorem memN_eq {V:Know} {s:SlV} {l:List Lim} {f:List Nat} (h:LR rI V s l f):memN V s=(valN l).toNat:=by
 unfold memN
 rcases h.rdI.1 with ⟨h0,_,h1⟩ | ⟨ad,h1,h2⟩
 ·rw [if_pos h0]
  have:l=[]:=List.eq_nil_of_length_eq_zero (by have:=h.1; omega)
  rw [this]; rfl
 ·by_cases h0:s.n=0
  ·rw [if_pos h0]
   have:l=[]:=List.eq_nil_of_length_eq_zero (by have:=h.1; omega)
   rw [this]; rfl
  ·rw [if_neg h0,h1]
   simp only [h2]
   congr 2
   rw [List.map_map]
   have:limOf ∘ cellI=id:=by funext x; rfl
   rw [this,List.map_id]
abbrev GcdPost (V:Know) (a b:List Lim):Know→Value→Prop:=fun V' ret=>V.le V'∧∃ s g f,ret=Sc.val .l s∧LR rI V' s g f∧Own V V' f∧Can g∧valN g=(Int.gcd (valN a) (valN b):Int)
theorem gcd_step {x y q r:Int} (h:x=q*y+r):Int.gcd y r=Int.gcd x y:=by
 rw [h,Int.add_comm,Int.gcd_add_mul_right_left,Int.gcd_comm]
theorem cI_natGcd (V:Know) (s s':SlV) (a b:List Lim) (f f':List Nat) (h:LR rI V s a f) (h':LR rI V s' b f') (ha:Can a) (hb:Can b) (la:a.length≤900000) (lb:b.length≤900000) :
  CallX Tryz.prog V 86 [Sc.val .l s,Sc.val .l s'] (GcdPost V a b):=by
 refine CallX.of_fits Tryz.mix (fI_natGcd _ _) fun _=>?_
 simp only [tI_natGcd,T.wp]
 refine⟨fun y V'=>V.le V'∧∃ (x z:List Lim) (fx fz:List Nat),LR rI V' y.1 x fx∧LR rI V' y.2.1 z fz∧Can x∧Can z∧x.length≤900000∧z.length≤900000∧Int.gcd (valN x) (valN z)=Int.gcd (valN a) (valN b),
  fun y V'=>memN V' y.2.1,⟨(s,s',()),rfl,Know.le.refl _,a,b,f,f',h,h',ha,hb,la,lb,rfl⟩,?_⟩
 rintro⟨s1,s2,u⟩ V' ⟨hle,x,z,fx,fz,hx,hz,cx,cz,lx,lz,hg⟩
 replace hx:LR rI V' s1 x fx:=hx
 replace hz:LR rI V' s2 z fz:=hz
 have hnz:=hz.1
 refine⟨fun hpos=>?_,fun hend=>?_⟩
 ·have hp:0<z.length:=by
   have:(s2.n:Int) > 0:=of_decide_eq_true hpos
   omega
  refine(cI_natDiv V' s1 s2 x z fx fz hx hz cx cz lx hp).mono ?_
  rintro V1 _ ⟨hle1,t1,t2,q,r,f1,f2,rfl,hL1,hL2,hO1,hO2,hcq,hcr,hv,hr⟩
  have h0:=valN_nonneg hcr.1
  refine⟨nofun,(t1,t2,()),rfl,_,rfl,(s2,t2,()),rfl,⟨hle.trans hle1,z,r,fz,f2,hz.le hle1,hL2,cz,hcr,lz,?_,?_⟩,?_⟩
  ·have:=can_len cz hcr (by omega)
   omega
  ·rw [gcd_step hv]; exact hg
  ·show memN V1 t2<memN V' s2
   rw [memN_eq hL2,memN_eq hz]
   omega
 ·have hz0:z=[]:=List.eq_nil_of_length_eq_zero (by
   have:¬ (s2.n:Int) > 0:=of_decide_eq_false hend
   omega)
  subst hz0
  refine(cI_natCopy V' s1 x fx hx (by omega)).mono ?_
  rintro V1 _ ⟨hle1,s3,f3,rfl,hL3,hO3⟩
  refine⟨nofun,s3,rfl,hle.trans hle1,s3,x,f3,rfl,hL3,hO3.pre hle,cx,?_⟩
  rw [← hg,valN_nil]
  have:=valN_nonneg cx.1
  simp
  omega
end Go.Proofs.YtmogkainbglpnaaGreatDoor
namespace Go.Proofs.YtmogkainbglpnaaGreatDoor
open Sx
set_option maxRecDepth 100000
theorem rNil.mk {V:Know}:rNil.R V () () []:=rfl
theorem rInt.mk {sh:List Sc} {α:Type} {r:Rp sh α} {V:Know} {c:Scs sh} {x:α} {fp:List Nat} {n:Int} (h:r.R V c x fp):(rInt r).R V (n,c) (n,x) fp:=⟨rfl,h⟩
theorem rBool.mk {sh:List Sc} {α:Type} {r:Rp sh α} {V:Know} {c:Scs sh} {x:α} {fp:List Nat} {n:Bool} (h:r.R V c x fp):(rBool r).R V (n,c) (n,x) fp:=⟨rfl,h⟩
theorem rStr.mk {sh:List Sc} {α:Type} {r:Rp sh α} {V:Know} {c:Scs sh} {x:α} {fp:List Nat} {n:ByteArray} (z:n.size≤9223372036854775807) (h:r.R V c x fp):(rStr r).R V (n,c) (n,x) fp:=⟨⟨rfl,z⟩,h⟩
theorem rSl.mk {se sh:List Sc} {α β:Type} {e:Rp se α} {r:Rp sh β} {V:Know} {s:SlV} {l:List α} {c:Scs sh} {x:β} {f g:List Nat} (hs:LR e V s l f) (h:r.R V c x g):(rSl e r).R V (s,c) (l,x) (f++g):=⟨f,g,rfl,hs,h⟩
abbrev DMoney:Type:=ByteArray × Bool × List (Int × Unit) × Unit
abbrev rMoney:Rp [.s,.b,.l] DMoney:=rStr (rBool (rSl rI (rNil)))
abbrev DRat:Type:=Bool × List (Int × Unit) × List (Int × Unit) × Unit
abbrev rRat:Rp [.b,.l,.l] DRat:=rBool (rSl rI (rSl rI (rNil)))
abbrev DRate:Type:=ByteArray × ByteArray × Bool × List (Int × Unit) × Int × Unit
abbrev rRate:Rp [.s,.s,.b,.l,.i .i64] DRate:=rStr (rStr (rBool (rSl rI (rInt (rNil)))))
abbrev DRates:Type:=ByteArray × List DRate × Unit
abbrev rRates:Rp [.s,.l] DRates:=rStr (rSl rRate (rNil))
theorem totE_rI:∀ l:List (Int × Unit),totE rI l=0
 | []=>rfl
 | _ :: l=>by rw [totE,totE_rI l]; rfl
end Go.Proofs.YtmogkainbglpnaaGreatDoor
namespace Go.Proofs.YtmogkainbglpnaaGreatDoor
open Sx
theorem semx_mk {P:Program} {V:Know} {t:TypeId}:SemX P V (MOp.mk t).sem (fun V' r=>∃ b,V b=none∧V'=kset V b (mapC [],(0,(1,0)))∧r=.map (some b)):=by
 intro w hw
 refine⟨_,_,_,(show(MOp.mk t).sem.run P w=.ok (.map (some w.heap.size)) (w.alloc (.map #[] 0)) from rfl),⟨rfl,rfl,rfl,by simp,fun b hb _=>heap_alloc_old w _ hb,fun b hb hn=>?_⟩,fun b c u hb=>?_,w.heap.size,hw.size_none,rfl,rfl⟩
 ·rw [kset_other (by omega)]; exact hn
 ·by_cases e:b=w.heap.size
  ·subst e
   rw [kset_same] at hb
   simp only [Option.some.injEq,Prod.mk.injEq] at hb
   obtain⟨rfl,rfl⟩:=hb
   rw [heap_alloc_new,objOf_map]
  ·rw [kset_other e] at hb
   have:=hw b c u hb
   rw [heap_alloc_old w _ (Array.getElem?_eq_some_iff.1 this).1]; exact this
theorem map_set {V:Know} {w:World} (hw:V.on w) {m k k':Nat} {es es':List MapEntry} (hV:V m=some (mapC es,(k,(1,0)))) :
  Fr V (kset V m (mapC es',(k',(1,0)))) w { w with heap:=w.heap.setIfInBounds m (.map es'.toArray k') }∧(kset V m (mapC es',(k',(1,0)))).on { w with heap:=w.heap.setIfInBounds m (.map es'.toArray k') }:=by
 have hm:=hw _ _ _ hV
 have hlt:=(Array.getElem?_eq_some_iff.1 hm).1
 have ho:∀ b,b≠m→(w.heap.setIfInBounds m (.map es'.toArray k'))[b]?=w.heap[b]?:=fun b hb=>Array.getElem?_setIfInBounds_ne (Ne.symm hb)
 refine⟨⟨rfl,rfl,rfl,by simp,fun b hb hn=>ho b (fun e=>by rw [e,hV] at hn; cases hn),fun b hb hn=>?_⟩,fun b c u hb=>?_⟩
 ·rw [kset_other (fun e=>by rw [e,hV] at hn; cases hn)]; exact hn
 ·by_cases e:b=m
  ·subst e
   rw [kset_same] at hb
   simp only [Option.some.injEq,Prod.mk.injEq] at hb
   obtain⟨rfl,rfl⟩:=hb
   rw [objOf_map]
   show(w.heap.setIfInBounds b _)[b]?=_
   rw [Array.getElem?_setIfInBounds_self_of_lt hlt]
  ·rw [kset_other e] at hb
   rw [← hw b c u hb]
   exact ho b e
structure PairTy (P:Program) (T S:TypeId):Prop where
 und:P.underlying T=some (.struct (P.fieldsOf T))
 held:P.stoodInHeld T=false
 fs:(P.fieldsOf T).toList=[(P.fieldsOf T)[0]!,(P.fieldsOf T)[1]!]
 nm : (P.fieldsOf T)[0]!.name ≠ "_" ∧ (P.fieldsOf T)[1]!.name ≠ "_"
 ty:(P.fieldsOf T)[0]!.type=S∧(P.fieldsOf T)[1]!.type=S
 off:(P.fieldsOf T)[0]!.offset=0∧(P.fieldsOf T)[1]!.offset=1
 str:P.underlying S=some .string
def pairK (p:ByteArray × ByteArray):Value:=.agg #[.string p.1,.string p.2]
theorem toL_eq (a b:ByteArray):(a.toList == b.toList)=decide (a=b):=by
 by_cases h:a=b
 ·rw [decide_eq_true h]; exact text_eq.2 h
 ·rw [decide_eq_false h]; exact text_ne.2 h
section
variable {P:Program} {T S:TypeId} (hT:PairTy P T S) (w:World)
include hT
theorem run_part0 (a b:ByteArray):(part S #[.string a,.string b] 0).run P w=.ok (.string a) w:=by
 simp [part,isAgg,run_underlying hT.str]
theorem run_part1 (a b:ByteArray):(part S #[.string a,.string b] 1).run P w=.ok (.string b) w:=by
 simp [part,isAgg,run_underlying hT.str]
theorem run_eqPair (p q:ByteArray × ByteArray):(Op.equal T (pairK p) (pairK q)).run P w=.ok (decide (p=q)) w:=by
 have h:=run_equalIn_struct w 9999 T #[.string p.1,.string p.2] #[.string q.1,.string q.2] hT.und hT.held
 show(Op.equalIn (9999+1) T _ _).run P w=_
 unfold pairK
 rw [h,hT.fs]
 have n0:=hT.nm.1
 have n1:=hT.nm.2
 have es:∀ (a b:ByteArray),(Op.equalIn 9999 S (.string a) (.string b)).run P w=.ok (decide (a=b)) w:=fun a b=>by
  rw [← toL_eq]; exact run_equalIn_string w 9998 S a b hT.str
 obtain⟨p1,p2⟩:=p
 obtain⟨q1,q2⟩:=q
 simp only [Op.eqFields,hT.ty.1,hT.ty.2,hT.off.1,hT.off.2,Sem.run_bind,run_part0 hT,Result.andThen_ok,es,ne_eq,n0,n1,not_false_eq_true,if_true]
 by_cases h1:p1=q1
 ·rw [decide_eq_true h1]
  simp only [Bool.not_true,Bool.false_eq_true,if_false,Sem.run_bind,run_part1 hT,Result.andThen_ok,es]
  by_cases h2:p2=q2
  ·rw [decide_eq_true h2]
   simp [h1,h2]
  ·rw [decide_eq_false h2]
   simp [h1,h2]
 ·rw [decide_eq_false h1]
  simp [h1]
theorem run_checkText (e:Bool) (n:Nat) (s:ByteArray):(Instr.checkKey e (n+1) S (.string s)).run P w=.ok () w:=by
 simp [Instr.checkKey,run_underlying hT.str]
theorem run_checkPairN (e:Bool) (n:Nat) (p:ByteArray × ByteArray):(Instr.checkKey e (n+1+1) T (pairK p)).run P w=.ok () w:=by
 have n0:=hT.nm.1
 have n1:=hT.nm.2
 unfold pairK
 rw [Instr.checkKey]
 simp only [Sem.run_bind,run_underlying hT.und,Result.andThen_ok]
 rw [← Array.forIn_toList,hT.fs]
 simp [hT.ty.1,hT.ty.2,hT.off.1,hT.off.2,n0,n1,run_part0 hT,run_part1 hT,run_checkText hT]
theorem run_checkPair (e:Bool) (p:ByteArray × ByteArray):(Instr.checkKey e 10000 T (pairK p)).run P w=.ok () w:=run_checkPairN hT w e 9998 p
end
def pairE (i:Nat) (p:ByteArray × ByteArray):MapEntry:=⟨pairK p,.bool true,i⟩
def pairEs:Nat→List (ByteArray × ByteArray)→List MapEntry
 | _,[]=>[]
 | i,p :: l=>pairE i p :: pairEs (i+1) l
theorem pairEs_app:∀ (l:List (ByteArray × ByteArray)) (i:Nat) (p:ByteArray × ByteArray),pairEs i (l++[p])=pairEs i l++[pairE (i+l.length) p]
 | [],i,p=>rfl
 | q :: l,i,p=>by
  show pairE i q :: pairEs (i+1) (l++[p])=_
  rw [pairEs_app l (i+1) p,List.length_cons,show i+1+l.length=i+(l.length+1) by omega]; rfl
theorem run_askPair {P:Program} {T S:TypeId} (hT:PairTy P T S) (w:World) (p:ByteArray × ByteArray):∀ (l:List (ByteArray × ByteArray)) (i j:Nat),
  ∃ o,(Instr.findAsking T (pairK p) (pairEs i l) j).run P w=.ok o w∧(p∈l→∃ k,o=some (k,.bool true))∧(p ∉ l→o=none)
 | [],i,j=>⟨none,by simp [Instr.findAsking,pairEs],(fun h=>by cases h),fun _=>rfl⟩
 | q :: l,i,j=>by
  obtain⟨o,h1,h2,h3⟩:=run_askPair hT w p l (i+1) (j+1)
  have e:=run_eqPair hT w p q
  by_cases hpq:p=q
  ·refine⟨some (j,.bool true),?_,fun _=>⟨j,rfl⟩,fun h=>absurd (by rw [hpq]; exact List.mem_cons_self) h⟩
   rw [decide_eq_true hpq] at e
   simp only [Instr.findAsking,pairEs,Sem.run_bind]
   show((Op.equal T (pairK p) (pairK q)).run P w).andThen _=_
   rw [e]
   simp [pairE]
  ·refine⟨o,?_,fun h=>h2 ((List.mem_cons.1 h).resolve_left hpq),fun h=>h3 (fun k=>h (List.mem_cons_of_mem _ k))⟩
   rw [decide_eq_false hpq] at e
   simp only [Instr.findAsking,pairEs,Sem.run_bind]
   show((Op.equal T (pairK p) (pairK q)).run P w).andThen _=_
   rw [e]
   simpa using h1
theorem run_findPair {P:Program} {T S:TypeId} (hT:PairTy P T S) (w:World) (p:ByteArray × ByteArray) (l:List (ByteArray × ByteArray)) :
  ∃ o,(Instr.findKey T (pairK p) (pairEs 0 l)).run P w=.ok o w∧(p∈l→∃ k,o=some (k,.bool true))∧(p ∉ l→o=none):=by
 obtain⟨o,h1,h2,h3⟩:=run_askPair hT w p l 0 0
 cases l with
 | nil =>
  refine⟨none,?_,(fun h=>by cases h),fun _=>rfl⟩
  simp [Instr.findKey,run_underlying hT.und,pairEs,Instr.findNow]
 | cons q l =>
  refine⟨o,?_,h2,h3⟩
  simp only [Instr.findKey,run_underlying hT.und,Sem.run_bind,Result.andThen_ok]
  have:Instr.findNow (.struct (P.fieldsOf T)) (pairK p) (pairEs 0 (q :: l)) 0=none:=rfl
  rw [this]
  exact h1
theorem semx_lkPair {P:Program} {V:Know} {M T S E m:Nat} {l:List (ByteArray × ByteArray)} (hM:P.underlying M=some (.map T E)) (hz:∀ w,(zeroValue E).run P w=.ok (.bool false) w) (hT:PairTy P T S)
  (hV:V m=some (mapC (pairEs 0 l),(l.length,(1,0)))) (p:ByteArray × ByteArray) :
  SemX P V (MOp.lk M (.map (some m)) (pairK p) false).sem (fun V' r=>V'=V∧∃ e,r=.bool e∧(e=true↔p∈l)):=by
 intro w hw
 have hm:=hw _ _ _ hV
 rw [objOf_map] at hm
 obtain⟨o,h1,h2,h3⟩:=run_findPair hT w p l
 have hg:(getObj m).run P w=.ok (.map (pairEs 0 l).toArray l.length) w:=by simp [getObj,Sem.run,hm]
 by_cases h:p∈l
 ·obtain⟨k,rfl⟩:=h2 h
  refine⟨.bool true,w,V,?_,Fr.refl V w,hw,rfl,true,rfl,⟨fun _=>h,fun _=>rfl⟩⟩
  simp [MOp.sem,Instr.lookup,run_underlying hM,hg,run_checkPair hT,h1]
 ·have:=h3 h
  subst this
  refine⟨.bool false,w,V,?_,Fr.refl V w,hw,rfl,false,rfl,⟨(fun e=>by cases e),fun e=>absurd e h⟩⟩
  simp [MOp.sem,Instr.lookup,run_underlying hM,hg,run_checkPair hT,h1,hz]
theorem semx_upPair {P:Program} {V:Know} {M T S E m:Nat} {l:List (ByteArray × ByteArray)} (hM:P.underlying M=some (.map T E)) (hT:PairTy P T S)
  (hV:V m=some (mapC (pairEs 0 l),(l.length,(1,0)))) (p:ByteArray × ByteArray) (h:p ∉ l) :
  SemX P V (MOp.up M (.map (some m)) (pairK p) (.bool true)).sem (fun V' r=>V'=kset V m (mapC (pairEs 0 (l++[p])),((l++[p]).length,(1,0)))∧r=.tuple #[]):=by
 intro w hw
 have hm:=hw _ _ _ hV
 rw [objOf_map] at hm
 have hlt:=(Array.getElem?_eq_some_iff.1 hm).1
 obtain⟨o,h1,h2,h3⟩:=run_findPair hT w p l
 have:=h3 h
 subst this
 have hg:(getObj m).run P w=.ok (.map (pairEs 0 l).toArray l.length) w:=by simp [getObj,Sem.run,hm]
 obtain⟨f1,f2⟩:=map_set (k':=(l++[p]).length) (es':=pairEs 0 (l++[p])) hw hV
 refine⟨_,_,_,?_,f1,f2,rfl,rfl⟩
 have hs:(setObj m (.map (pairEs 0 (l++[p])).toArray (l++[p]).length)).run P w=.ok () { w with heap:=w.heap.setIfInBounds m (.map (pairEs 0 (l++[p])).toArray (l++[p]).length) }:=by
  simp [setObj,Sem.run,hm]
 have e:(pairEs 0 l).toArray.push { key:=pairK p,val:=.bool true,born:=l.length }=(pairEs 0 (l++[p])).toArray:=by
  rw [pairEs_app]
  simp [pairE]
 have e2:l.length+1=(l++[p]).length:=by simp
 simp only [MOp.sem,Instr.mapUpdate,run_underlying hM,Sem.run_bind,Result.andThen_ok,hg,run_checkPair hT,h1,e,e2,hs]
 rfl
end Go.Proofs.YtmogkainbglpnaaGreatDoor
