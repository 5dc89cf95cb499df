/-
  Long division of the reference; greatest common divisors of both.
-/
import Derived.Test.YtpdfdkccgkieoaaGreatDoorDivE
namespace Go.Proofs.YtpdfdkccgkieoaaGreatDoor
open Sx
set_option maxRecDepth 100000
abbrev DivPost (V:Know) (a b:List Lim):Know→Value→Prop:=fun V' ret=>V.le V'∧∃ s1 s2 q r f1 f2,ret=.tuple #[Sc.val .l s1,Sc.val .l s2]∧LR rI V' s1 q f1∧LR rI V' s2 r f2∧Own V V' f1∧Own V V' f2∧Can q∧Can r∧valN a=valN q*valN b+valN r∧valN r<valN b
theorem int_size:Tryz.prog.types[(3:Nat)].size=1:=by kernel_rfl
theorem Nw.seg {V:Know} {s:SlV} {o:List Lim} {b:Nat} {post:List Value} (hs:s=⟨some ⟨b,0,none⟩,o.length,o.length+post.length⟩) (hl:o.length≤9223372036854775807):Nw (segV V b [] o post) s o b :=
 ⟨post,hs,seg_at,hl⟩
theorem seg_split {V:Know} {b j n:Nat} {U:List Lim} {post:List Value}:segV V b [] U post=segV V b ((U.take j).map cellI) ((U.drop j).take n) ((U.drop (j+n)).map cellI++post):=by
 unfold segV
 have e:U=U.take j++((U.drop j).take n++U.drop (j+n)):=by
  rw [← List.drop_drop,List.take_append_drop,List.take_append_drop]
 conv=>lhs; rw [e]
 simp only [List.map_append,List.nil_append,List.append_assoc]
theorem seg_join {V:Know} {b j n:Nat} {U w:List Lim} {post:List Value}:segV V b ((U.take j).map cellI) w ((U.drop (j+n)).map cellI++post)=segV V b [] (U.take j++(w++U.drop (j+n))) post:=by
 unfold segV
 simp only [List.map_append,List.nil_append,List.append_assoc]
theorem seg_le {V V1:Know} {b:Nat} {pre post:List Value} {w:List Lim} (h:V.le V1) (hb:V b=none):V.le (segV V1 b pre w post):=by
 intro k x hk
 unfold segV
 rw [kset_other (fun e=>by rw [e,hb] at hk; cases hk)]
 exact h k x hk
theorem none_le {V V1:Know} {b:Nat} (h:V.le V1) (hb:V1 b=none):V b=none:=none_of_le h hb
theorem scale_bd {b:List Lim} {c:Int} (hb:Lims b) (hl:0<b.length) (hc:0<c) (hcb:c*(limb b (b.length-1)+1)≤1000000000):valN b*c<1000000000 ^ b.length:=by
 obtain⟨k,hk⟩:∃ k,b.length=k+1:=⟨b.length-1,by omega⟩
 rw [hk] at hcb ⊢
 simp only [Nat.add_sub_cancel] at hcb
 have h1:=(valTo_bd hb k).2
 have h2:valN b=valTo b k+limb b k*1000000000 ^ k:=by rw [valN,hk,valTo]
 have h3:valN b<(limb b k+1)*1000000000 ^ k:=by rw [h2,Int.add_mul,Int.one_mul]; omega
 have h4:valN b*c<(limb b k+1)*1000000000 ^ k*c:=Int.mul_lt_mul_of_pos_right h3 hc
 have h5:=mul_pw_le hcb k
 rw [pw_succ]
 have h6:(limb b k+1)*1000000000 ^ k*c=c*(limb b k+1)*1000000000 ^ k:=by grind
 omega
theorem unscale {a b u q r r0 c:Int} (hc:0<c) (h:q*(b*c)+u=a*c) (hu:u<b*c) (hr:u=r*c+r0) (h0:0≤r0) (h1:r0<c):a=q*b+r∧r<b:=by
 have e:u=(a-q*b)*c+0:=by grind
 obtain⟨e1,e2⟩:=quot_unique hr e ⟨h0,h1⟩ ⟨Int.le_refl _,hc⟩
 refine⟨by omega,?_⟩
 have:r*c<b*c:=by omega
 exact Int.lt_of_mul_lt_mul_right this (Int.le_of_lt hc)
set_option maxHeartbeats 2000000 in
theorem cI_natDiv (V:Know) (s s':SlV) (a b:List Lim) (f f':List Nat) (h:LR rI V s a f) (h':LR rI V s' b f') (ha:Can a) (hb:Can b) (la:a.length≤900000) (lb:0<b.length) :
  CallX Tryz.prog V 165 [Sc.val .l s,Sc.val .l s'] (DivPost V a b):=by
 refine CallX.of_fits Tryz.mix (fI_natDiv _ _) fun _=>?_
 have hn:=h.1
 have hn':=h'.1
 have h63:=h'.2.2.1
 simp only [tI_natDiv,T.wp]
 refine(cI_natCmp V s s' a b f f' h h').mono ?_
 rintro V0 r0 ⟨rfl,rfl⟩
 have hcmp:=cmpL_val ha hb
 have hbp:=(can_pos hb).1 lb
 refine⟨nofun,_,rfl,fun hlt=>?_,fun hge=>?_⟩
 ·have hlt':cmpL a b<0:=of_decide_eq_true hlt
  have hv0:valN a<valN b:=by rcases hcmp with ⟨c,k⟩ | ⟨c,k⟩ | ⟨c,k⟩ <;> omega
  refine(cI_natCopy V0 s a f h (by omega)).mono ?_
  rintro V1 r ⟨hle,s1,f1,rfl,hL,hO⟩
  refine⟨nofun,s1,rfl,?_⟩
  intro b3 c3 spare hb3 _ _
  have hV:=kset_le (x:=(([]:List Value)++spare,((3:TypeId),((0,0):Nat × Nat)))) hb3
  exact⟨hle.trans hV,⟨some ⟨b3,0,none⟩,0,c3⟩,s1,[],a,[],f1,rfl,⟨rfl,Nat.zero_le _,Nat.zero_le _,.inl ⟨rfl,(fun h=>by cases h),rfl⟩⟩,hL.le hV,Own.nil,hO.post hV,⟨lims_nil,.inl rfl⟩,ha,by rw [valN_nil]; simp,hv0⟩
 have hge':¬ cmpL a b<0:=of_decide_eq_false hge
 have hv0:valN b≤valN a:=by rcases hcmp with ⟨c,k⟩ | ⟨c,k⟩ | ⟨c,k⟩ <;> omega
 have lba:=can_len ha hb hv0
 refine⟨fun hone=>?_,fun hmore=>?_⟩
 ·have hb1:b.length=1:=by
   have:(s'.n:Int)=1:=by simpa using hone
   omega
  obtain⟨b1,o1,a1,l1⟩:=h'.int lb
  rw [← limb_lt lb] at l1
  have hvb:valN b=limb b 0:=by rw [valN,hb1]; simp [valTo]
  have lx:=hb.1 0
  refine⟨_,a1,Int.le_refl _,(by omega:(0:Int)<(s'.n:Int)),limb b 0,l1,?_⟩
  refine(cI_natSmall V0 s a f (limb b 0) h ha.1 (by omega) (by omega)).mono ?_
  rintro V1 r ⟨hle,s1,q,r1,f1,rfl,hL,hO,hc,hv,h0,h1,_⟩
  refine⟨nofun,(s1,r1,()),rfl,(cI_NatOf V1 r1 (by omega)).mono ?_⟩
  rintro V2 r ⟨hle2,s2,o,f2,rfl,hL2,hO2,hc2,hv2,_⟩
  exact⟨nofun,s2,rfl,hle.trans hle2,s1,s2,q,o,f1,f2,rfl,hL.le hle2,hL2,hO.post hle2,hO2.pre hle,hc,hc2,by rw [hvb,hv2]; exact hv,by rw [hvb,hv2]; exact h1⟩
 have hb2:2≤b.length:=by
  have:¬ (s'.n:Int)=1:=by simpa using hmore
  omega
 have w1:IntKind.i64.wrap ((s'.n:Int)-1)=((b.length-1:Nat):Int):=by rw [wrap_i64 (by omega)]; omega
 rw [w1]
 obtain⟨b1,o1,a1,l1⟩:=h'.int (i:=b.length-1) (by omega)
 rw [← limb_lt (show b.length-1<b.length by omega)] at l1
 have lx:=hb.1 (b.length-1)
 have ltop:limb b (b.length-1)≠0:=by
  rcases hb.2 with e | e
  ·omega
  ·exact e
 refine⟨_,a1,by omega,(by omega:((b.length-1:Nat):Int)<(s'.n:Int)),limb b (b.length-1),l1,?_⟩
 have w2:IntKind.i64.wrap (limb b (b.length-1)+1)=limb b (b.length-1)+1:=wrap_i64 (by omega)
 have w3:IntKind.i64.wrap ((1000000000:Int).tdiv (limb b (b.length-1)+1))=1000000000 / (limb b (b.length-1)+1):=by
  have g1:=Int.ediv_nonneg (show(0:Int)≤1000000000 by decide) (show 0≤limb b (b.length-1)+1 by omega)
  have g2:=Int.ediv_le_self (limb b (b.length-1)+1) (show(0:Int)≤1000000000 by decide)
  rw [Int.tdiv_eq_ediv_of_nonneg (by decide)]
  exact wrap_i64 (by omega)
 rw [w2,w3]
 obtain⟨c,hc⟩:∃ c,c=1000000000 / (limb b (b.length-1)+1):=⟨_,rfl⟩
 have hc1:1≤c:=by
  rw [hc]
  exact(Int.le_ediv_iff_mul_le (by omega)).2 (by omega)
 have hcm:c*(limb b (b.length-1)+1)≤1000000000:=by
  rw [hc]
  exact Int.ediv_mul_le _ (by omega)
 have hc2:c<1000000000:=by
  have h1:c*2≤c*(limb b (b.length-1)+1):=Int.mul_le_mul_of_nonneg_left (by omega) (by omega)
  omega
 rw [← hc]
 refine⟨by omega,?_⟩
 intro b4 c4 spare4 hb4 hc4 _
 have k4:=newI (V:=V0) (b:=b4) (cap:=c4) (o:=[(c,())]) (spare:=spare4) (t:=3) hb4 hc4 (by simp)
 have hle4:=kset_le (x:=([(c,())].map cellI++spare4,((3:TypeId),((0,0):Nat × Nat)))) hb4
 have lc:Lims [(c,())]:=lims_one ⟨by omega,hc2⟩
 have cc:Can [(c,())]:=⟨lc,.inr (by show limb [(c,())] 0≠0; simp [limb]; omega)⟩
 refine(cI_natMul _ s ⟨some ⟨b4,0,none⟩,1,c4⟩ a [(c,())] f _ (h.le hle4) k4.1 ha.1 lc (by omega) (by simp)).mono ?_
 rintro V5 r5 ⟨hle5,s5,u,bu,rfl,nwu,hbu,canu,valu,capu⟩
 rw [valN_one] at valu
 refine⟨nofun,s5,rfl,?_⟩
 intro b6 c6 spare6 hb6 hc6 _
 have k6:=newI (V:=V5) (b:=b6) (cap:=c6) (o:=[(c,())]) (spare:=spare6) (t:=3) hb6 hc6 (by simp)
 have hle6:=kset_le (x:=([(c,())].map cellI++spare6,((3:TypeId),((0,0):Nat × Nat)))) hb6
 have hle06:=(hle4.trans hle5).trans hle6
 refine(cI_natMul _ s' ⟨some ⟨b6,0,none⟩,1,c6⟩ b [(c,())] f' _ (h'.le hle06) k6.1 hb.1 lc (by omega) (by simp)).mono ?_
 rintro V7 r7 ⟨hle7,s7,v,bv,rfl,nwv,hbv,canv,valv,_⟩
 rw [valN_one] at valv
 refine⟨nofun,s7,rfl,?_⟩
 have hle07:=hle06.trans hle7
 have hbu0:V0 bu=none:=none_le hle4 hbu
 -- lengths
 have hvp:0<valN v:=by
  rw [valv]
  exact Int.mul_pos hbp (by omega)
 have hvlt:valN v<1000000000 ^ b.length:=by rw [valv]; exact scale_bd hb.1 lb (by omega) hcm
 have hbv1:valN b≤valN v:=by
  rw [valv]
  have:=Int.mul_le_mul_of_nonneg_left hc1 (Int.le_of_lt hbp)
  omega
 have lv:v.length=b.length:=by
  have h1:=can_len canv hb hbv1
  have h2:v.length≤b.length:=by
   by_cases e:v.length≤b.length
   ·exact e
   ·have g1:=can_ge canv (by omega)
    have g2:=pw_mono (show b.length≤v.length-1 by omega)
    omega
  omega
 have lvp:=(can_pos canv).2 hvp
 have vtop:limb v (v.length-1)≠0:=by
  rcases canv.2 with e | e
  ·omega
  ·exact e
 have hvL:LR rI V7 s7 v [bv]:=nwv.lr
 have hn7:s7.n=v.length:=hvL.1
 have nwu7:V7 bu=V5 bu:=by
  obtain⟨sp,e1,e2,e3⟩:=nwu
  rw [e2]
  exact hle7 _ _ (hle6 _ _ e2)
 have hbne:bu≠bv:=by
  intro e
  obtain⟨sp,e1,e2,e3⟩:=nwu
  have:=hle6 _ _ e2
  rw [e,hbv] at this
  cases this
 have ua:valN u<1000000000 ^ (a.length+1):=by
  rw [valu,pw_succ]
  have h1:=(valTo_bd ha.1 a.length).2
  have h2:valN a*c≤valN a*999999999:=Int.mul_le_mul_of_nonneg_left (by omega) (valN_nonneg ha.1)
  have h3:=valN_nonneg ha.1
  have h4:valN a<1000000000 ^ a.length:=h1
  omega
 have lu:u.length≤a.length+1:=by
  by_cases e:u.length≤a.length+1
  ·exact e
  ·have g1:=can_ge canu (by omega)
   have g2:=pw_mono (show a.length+1≤u.length-1 by omega)
   omega
 obtain⟨C,hC⟩:∃ C,C=s5.c:=⟨_,rfl⟩
 have hCa:a.length+2≤C:=by rw [hC]; simpa using capu
 have hCm:C≤9223372036854775807∨True:=.inr trivial
 -- the dividend gets its zeros
 refine⟨fun y V'=>∃ (o:List Lim) (sp:List Value),V'=segV V7 bu [] o sp∧y.1=⟨some ⟨bu,0,none⟩,o.length,C⟩∧o.length+sp.length=C∧Lims o∧valN o=valN u∧o.length≤a.length+1,
  fun y=>a.length+2-y.1.n,⟨(s5,()),rfl,?_⟩,?_⟩
 ·obtain⟨sp,e1,e2,e3⟩:=nwu
  refine⟨u,sp,?_,?_,?_,canu.1,rfl,lu⟩
  ·exact(kset_self (by rw [nwu7]; exact e2)).symm
  ·show s5=_
   rw [hC,e1]
  ·rw [hC,e1]
 rintro⟨s8,uu⟩ V' ⟨o,sp,rfl,hs8,hosp,lo,vo,ho⟩
 replace hs8:s8=⟨some ⟨bu,0,none⟩,o.length,C⟩:=hs8
 subst hs8
 refine⟨fun hshort=>?_,fun hlong=>?_⟩
 ·have hsh:o.length≤a.length:=by
   have:((o.length:Nat):Int)≤(s.n:Int):=of_decide_eq_true hshort
   omega
  refine⟨rfl,rfl,(by omega:o.length≤C),nofun,nofun,fun _ _=>⟨bu,o.map cellI++sp,rfl,seg_at,?_,_,rfl,((⟨some ⟨bu,0,none⟩,o.length+1,C⟩:SlV),()),rfl,⟨o++[(0,())],sp.drop 1,?_,?_,?_,lims_snoc lo (by decide),?_,?_⟩,?_⟩,fun _ hbad=>?_⟩
  ·show(o.length+1)*1≤(o.map cellI++sp).length
   rw [List.length_append,List.length_map]; omega
  ·show kset (kset V7 bu _) bu (setl (o.map cellI++sp) (o.length*1) [.int .i64 0],_)=kset V7 bu _
   rw [kset_kset,setl_mid (by simp) (by simp; omega)]
   simp [cellI]
  ·show(⟨_,_,_⟩:SlV)=_
   simp
  ·simp; omega
  ·rw [valN_app,valN_one,Int.zero_mul,vo]; omega
  ·simp; omega
  ·show a.length+2-(o.length+1)<a.length+2-o.length
   omega
  ·have:C<o.length+1:=hbad
   omega
 have hlo:o.length=a.length+1:=by
  have:¬ ((o.length:Nat):Int)≤(s.n:Int):=of_decide_eq_false hlong
  omega
 have w4:IntKind.i64.wrap (((o.length:Nat):Int)-(s7.n:Int))=((a.length+1-v.length:Nat):Int):=by rw [wrap_i64 (by omega)]; omega
 show((0:Int)≤IntKind.i64.wrap (((o.length:Nat):Int)-(s7.n:Int))∧_∧_∧_)∧_
 rw [w4]
 obtain⟨N,hN⟩:∃ N,N=a.length+1-v.length:=⟨_,rfl⟩
 rw [← hN]
 have w5:IntKind.i64.wrap (((((N:Nat):Int).toNat:Nat):Int)-1)=(N:Int)-1:=by rw [wrap_i64 (by omega)]; omega
 rw [w5]
 refine⟨⟨by omega,by omega,by omega,by omega⟩,?_⟩
 have hdrop:valN (o.drop N)<valN v:=by
  have h1:=valTo_drop o N (o.drop N).length
  have h2:valTo o (N+(o.drop N).length)=valN o:=by rw [valTo_ge (by simp; omega)]
  rw [h2] at h1
  have h3:=(valTo_bd lo N).1
  have h4:valN (o.drop N)*1000000000 ^ N≤valN a*c:=by
   show valTo (o.drop N) (o.drop N).length*_≤_
   omega
  have h5:=(valTo_bd ha.1 a.length).2
  have h6:=can_ge hb lb
  have h7:valN a<1000000000 ^ N*valN b:=by
   have e:(1000000000:Int) ^ a.length=1000000000 ^ N*1000000000 ^ (b.length-1):=by
    rw [← pw_add]
    congr 1
    omega
   have:1000000000 ^ N*1000000000 ^ (b.length-1)≤1000000000 ^ N*valN b:=Int.mul_le_mul_of_nonneg_left h6 (Int.le_of_lt (pw_pos N))
   have h8:valN a<1000000000 ^ a.length:=h5
   omega
  have h8:valN a*c<1000000000 ^ N*valN b*c:=Int.mul_lt_mul_of_pos_right h7 (by omega)
  have h9:1000000000 ^ N*valN b*c=valN v*1000000000 ^ N:=by rw [valv]; grind
  have h10:valN (o.drop N)*1000000000 ^ N<valN v*1000000000 ^ N:=by omega
  exact Int.lt_of_mul_lt_mul_right h10 (Int.le_of_lt (pw_pos N))
 refine⟨fun y V'=>∃ (k:Nat) (Q U:List Lim),V'=segV V7 bu [] U sp∧y.2.1=(k:Int)-1∧k≤N∧y.1.1=N∧y.1.2=Q.map cellI∧Q.length=N∧Lims Q∧(∀ j,j<k→limb Q j=0)∧U.length=o.length∧Lims U∧valN Q*valN v+valN U=valN a*c∧valN (U.drop k)<valN v,
  fun y=>((y.2.1:Int)+1).toNat,⟨((((N:Nat):Int).toNat,(madeCells ⟨[.int .i64 (0:Int)]⟩ (((N:Nat):Int).toNat*1)).toList),(N:Int)-1,()),rfl,N,zer N,o,rfl,rfl,Nat.le_refl _,(by omega:((N:Nat):Int).toNat=N),by rw [show((N:Nat):Int).toNat*1=N by omega]; exact made_zer _,len_zer _,lims_zer _,fun j _=>limb_zer _ j,rfl,lo,by rw [valN_zer,vo,valu]; simp,hdrop⟩,?_⟩
 rintro⟨⟨n9,ys⟩,(i:Int),u9⟩ V' ⟨k,Q,U,rfl,hi,hk,hn9,hys,hQ,lQ,zQ,hU,lU,hval,hdr⟩
 replace hi:i=(k:Int)-1:=hi
 replace hn9:n9=N:=hn9
 replace hys:ys=Q.map cellI:=hys
 subst hn9 hys
 refine⟨fun hge2=>?_,fun hlt2=>?_⟩
 ·have hge2':i≥0:=of_decide_eq_true hge2
  obtain⟨j,rfl⟩:∃ j,k=j+1:=⟨k-1,by omega⟩
  have hi:i=(j:Int):=by omega
  subst hi
  have e0:(j:Int).toNat=j:=by omega
  have w6:IntKind.i64.wrap (IntKind.i64.wrap ((j:Int)+(s7.n:Int))+1)=((j+v.length+1:Nat):Int):=by
   rw [show IntKind.i64.wrap ((j:Int)+(s7.n:Int))=(j:Int)+(s7.n:Int) from wrap_i64 (by omega),wrap_i64 (by omega)]
   omega
  have w7:IntKind.i64.wrap ((j:Int)-1)=(j:Int)-1:=wrap_i64 (by omega)
  have hlU:((U.drop j).take (v.length+1)).length=v.length+1:=by simp; omega
  have hpre:((U.take j).map cellI).length=j:=by simp; omega
  have hjC:((j+v.length+1:Nat):Int)≤(C:Int):=by omega
  have hj0:(0:Int)≤(j:Int):=by omega
  have hjw:(j:Int)≤((j+v.length+1:Nat):Int):=by omega
  have t1:((j+v.length+1:Nat):Int).toNat-Int.toNat (j:Int)=v.length+1:=by omega
  have t2:((C:Nat):Int).toNat-Int.toNat (j:Int)=C-j:=by omega
  have t3:(if ((C:Nat):Int).toNat=Int.toNat (j:Int) then some (⟨bu,0,none⟩:Addr) else Option.map (fun x=>x.add (Int.toNat (j:Int)*Tryz.prog.types[(3:Nat)].size)) (some (⟨bu,0,none⟩:Addr)))=some ⟨bu,j,none⟩:=by
   rw [if_neg (by omega),int_size]
   show some ((⟨bu,0,none⟩:Addr).add ((j:Int).toNat*1))=_
   rw [addr_add_eq,e0]
   simp
  dsimp only
  rw [w6,t1,t2,t3,w7]
  refine⟨⟨hj0,hjw,hjC,Int.le_refl _⟩,?_⟩
  have hsl:Value.slice (some ⟨bu,j,none⟩) (v.length+1) (C-j)=Sc.val .l ⟨some ⟨bu,((U.take j).map cellI).length,none⟩,((U.drop j).take (v.length+1)).length,C-j⟩:=by rw [hlU,hpre]; rfl
  rw [hsl,seg_split (j:=j) (n:=v.length+1) (U:=U)]
  -- the window holds all that is left of the dividend
  have hdj:valN (U.drop j)=limb U j+1000000000*valN (U.drop (j+1)):=by
   have h1:=valTo_drop (U.drop j) 1 (U.drop (j+1)).length
   rw [List.drop_drop] at h1
   have h2:valTo (U.drop j) (1+(U.drop (j+1)).length)=valN (U.drop j):=by
    rw [valN]
    congr 1
    simp
    omega
   rw [h2] at h1
   rw [h1]
   have h3:valTo (U.drop j) 1=limb U j:=by simp [valTo,limb_drop]
   rw [h3]
   show _+valTo _ _*1000000000 ^ 1=_+_*valTo _ _
   rw [Int.pow_succ,Int.pow_zero]
   omega
  have hwin:valN ((U.drop j).take (v.length+1))=valN (U.drop j):=by
   have hlt:valN (U.drop j)<1000000000 ^ (v.length+1):=by
    rw [pw_succ,hdj]
    have:=lU j
    rw [lv] at *
    omega
   rw [valN,hlU,valTo_take (Nat.le_refl _)]
   have hz:=fun i (hi:v.length+1≤i)=>limb_top (lims_drop lU j) hlt hi
   have:∀ n,valTo (U.drop j) (v.length+1+n)=valTo (U.drop j) (v.length+1):=by
    intro n
    induction n with
    | zero=>rfl
    | succ n ih=>rw [← Nat.add_assoc,valTo,ih,hz _ (by omega)]; simp
   have h2:=this ((U.drop j).length-(v.length+1))
   rw [show v.length+1+((U.drop j).length-(v.length+1))=(U.drop j).length by simp; omega] at h2
   exact h2.symm
  have hUj:=lU j
  refine(cI_divStep (V:=V7) (b:=bu) (cap:=C-j) (pre:=(U.take j).map cellI) (post:=(U.drop (j+(v.length+1))).map cellI++sp) (w:=(U.drop j).take (v.length+1)) (v:=v) (s:=s7) (f:=[bv])
   (lims_take (lims_drop lU j) _) hlU hvL (by simpa using hbne) canv.1 (by omega) (by omega) vtop (by rw [hwin,hdj]; omega)).mono ?_
  rintro V'' r ⟨w',x,rfl,hw'l,lw',vw',w0,w1',x0,x1,rfl⟩
  have hjQ:j<Q.length:=by omega
  have hlen':w'.length=v.length+1:=by rw [hw'l,hlU]
  have hUsplit:U=U.take j++((U.drop j).take (v.length+1)++U.drop (j+(v.length+1))):=by
   rw [← List.drop_drop,List.take_append_drop,List.take_append_drop]
  refine⟨nofun,x,rfl,⟨by omega,(by omega:(j:Int)<((n9:Nat):Int))⟩,?_,_,rfl,((n9,(Q.set j (x,())).map cellI),(j:Int)-1,()),?_,⟨j,_,_,seg_join,rfl,by omega,rfl,rfl,by rw [List.length_set]; exact hQ,lims_set lQ hjQ ⟨x0,x1⟩,fun i hi=>?_,?_,?_,?_,?_⟩,?_⟩
  ·show(j:Int).toNat*1+1≤(Q.map cellI).length
   rw [List.length_map]; omega
  ·show [LV.a 3 n9 (setl (Q.map cellI) ((j:Int).toNat*1) [Value.int .i64 x]),_]=_
   rw [show(j:Int).toNat*1=j by omega,setl_cell hjQ]
   rfl
  ·rw [limb_set hjQ,if_neg (by omega)]; exact zQ i (by omega)
  ·simp only [List.length_append,List.length_take,List.length_drop]
   omega
  ·exact lims_app (lims_take lU j) (lims_app lw' (lims_drop lU _))
  ·refine place_step (u:=valN U) (w:=valN ((U.drop j).take (v.length+1))) (w':=valN w') hjQ (zQ j (by omega)) hval ?_ vw'
   have:=valN_put (p:=U.take j) (w:=(U.drop j).take (v.length+1)) (w':=w') (r:=U.drop (j+(v.length+1))) (by omega)
   rw [this,← hUsplit]
   rw [show(U.take j).length=j by simp; omega]
  ·have e1:(U.take j++(w'++U.drop (j+(v.length+1)))).drop j=w'++U.drop (j+(v.length+1)):=by
    have:=List.drop_left (l₁:=U.take j) (l₂:=w'++U.drop (j+(v.length+1)))
    rwa [show(U.take j).length=j by simp; omega] at this
   rw [e1,valN_app]
   have e2:valN (U.drop (j+(v.length+1)))=0:=by
    have hz:=fun i (hi:v.length+1≤i)=>limb_top (l:=U.drop j) (k:=v.length+1) (lims_drop lU j) (by
     rw [pw_succ,hdj]
     have:=lU j
     rw [lv] at *
     omega) hi
    have:∀ n,valTo (U.drop (j+(v.length+1))) n=0:=by
     intro n
     induction n with
     | zero=>rfl
     | succ n ih =>
      have h1:=hz (v.length+1+n) (by omega)
      rw [limb_drop] at h1
      rw [valTo,ih,limb_drop,show j+(v.length+1)+n=j+(v.length+1+n) by omega,h1]; simp
    exact this _
   rw [e2]
   simp
   exact w1'
  ·show((j:Int)-1+1).toNat<((j:Int)+1).toNat
   omega
 ·have hlt2':¬ i≥0:=of_decide_eq_false hlt2
  have hk0:k=0:=by omega
  subst hk0
  rw [List.drop_zero] at hdr
  have nwU:Nw (segV V7 bu [] U sp) ⟨some ⟨bu,0,none⟩,o.length,C⟩ U bu:=Nw.seg (by rw [hU,hosp]) (by omega)
  have hleU:V0.le (segV V7 bu [] U sp):=seg_le hle07 hbu0
  have hnU:=valN_nonneg lU
  refine(cI_trim2 _ _ _ _ nwU.lr).mono ?_
  rintro V8 r8 ⟨rfl,s8,rfl,-,hL8⟩
  obtain⟨tcan,tval⟩:=trim_can lU
  have ltl:(trimL U).length≤U.length:=by simp [trimL]; omega
  refine⟨nofun,s8,rfl,(cI_natSmall _ s8 (trimL U) _ c hL8 tcan.1 (by omega) ⟨by omega,by omega⟩).mono ?_⟩
  rintro V9 r9 ⟨hle9,s9,rr,r0,f9,rfl,hL9,hO9,hc9,hv9,h90,h91,_⟩
  refine⟨nofun,(s9,r0,()),rfl,?_⟩
  intro b12 c12 spare12 hb12 hc12 _
  have hc12':n9≤c12:=hc12
  have k12:=newI (V:=V9) (b:=b12) (cap:=c12) (o:=Q) (spare:=spare12) (t:=3) hb12 (by omega) (by omega)
  have hle12:=kset_le (x:=(Q.map cellI++spare12,((3:TypeId),((0,0):Nat × Nat)))) hb12
  obtain⟨qcan,qval⟩:=trim_can lQ
  have key:=cI_trim2 _ _ _ _ k12.1
  rw [hQ] at key
  refine key.mono ?_
  rintro V10 r10 ⟨rfl,s10,rfl,-,hL10⟩
  rw [tval] at hv9
  rw [valv] at hval hdr
  obtain⟨z1,z2⟩:=unscale (by omega) hval hdr hv9 h90 h91
  exact⟨nofun,s10,rfl,(hleU.trans hle9).trans hle12,s10,s9,_,rr,_,f9,rfl,hL10,hL9.le hle12,k12.2.pre (hleU.trans hle9),(hO9.pre hleU).post hle12,qcan,hc9,by rw [qval]; exact z1,z2⟩
end Go.Proofs.YtpdfdkccgkieoaaGreatDoor
namespace Go.Proofs.YtpdfdkccgkieoaaGreatDoor
open Sx
set_option maxRecDepth 100000
theorem cmp_le {a b:List Lim} (ha:Can a) (hb:Can b):cmpL a b≤0↔valN a≤valN b:=by
 rcases cmpL_val ha hb with ⟨c,k⟩ | ⟨c,k⟩ | ⟨c,k⟩ <;> omega
theorem cmp_lt {a b:List Lim} (ha:Can a) (hb:Can b):cmpL a b<0↔valN a<valN b:=by
 rcases cmpL_val ha hb with ⟨c,k⟩ | ⟨c,k⟩ | ⟨c,k⟩ <;> omega
theorem cmp_eq {a b:List Lim} (ha:Can a) (hb:Can b):cmpL a b=0↔valN a=valN b:=by
 rcases cmpL_val ha hb with ⟨c,k⟩ | ⟨c,k⟩ | ⟨c,k⟩ <;> omega
theorem cS_l03Digit (V:Know) (s s':SlV) (r b:List Lim) (f f':List Nat) (h:LR rI V s r f) (h':LR rI V s' b f') (hr:Can r) (hb:Can b) (lb:b.length≤900000) (_:0<valN b) (hlt:valN r<1000000000*valN b) :
  CallX Tryz.prog V 197 [Sc.val .l s,Sc.val .l s'] (fun V' ret=>V.le V'∧∃ x,ret=.int .i64 x∧0≤x∧x<1000000000∧x*valN b≤valN r∧valN r<(x+1)*valN b):=by
 refine CallX.of_fits Tryz.mix (fS_l03Digit _ _) fun _=>?_
 have h0:=valN_nonneg hr.1
 simp only [tS_l03Digit,T.wp]
 refine⟨fun y V'=>V.le V'∧0≤(y.1:Int)∧(y.1:Int)≤(y.2.1:Int)∧(y.2.1:Int)<1000000000∧(y.1:Int)*valN b≤valN r∧valN r<((y.2.1:Int)+1)*valN b,fun y=>((y.2.1:Int)-(y.1:Int)).toNat,
  ⟨((0:Int),(999999999:Int),()),rfl,Know.le.refl _,(by omega:(0:Int)≤0),(by omega:(0:Int)≤999999999),(by omega:(999999999:Int)<1000000000),?_,hlt⟩,?_⟩
 ·show(0:Int)*valN b≤valN r
  rw [Int.zero_mul]; exact h0
 rintro⟨(lo:Int),(hi:Int),u⟩ V' ⟨hle,l0,lh,h1,hl,hu⟩
 replace l0:0≤lo:=l0
 replace lh:lo≤hi:=lh
 replace h1:hi<1000000000:=h1
 replace hl:lo*valN b≤valN r:=hl
 replace hu:valN r<(hi+1)*valN b:=hu
 refine⟨fun hc=>?_,fun hc=>?_⟩
 ·have hlt2:lo<hi:=of_decide_eq_true hc
  have e1:IntKind.i64.wrap (lo+hi)=lo+hi:=wrap_i64 (by omega)
  have e2:IntKind.i64.wrap (lo+hi+1)=lo+hi+1:=wrap_i64 (by omega)
  have e3:IntKind.i64.wrap ((lo+hi+1).tdiv 2)=(lo+hi+1) / 2:=by rw [Int.tdiv_eq_ediv_of_nonneg (by omega)]; exact wrap_i64 (by omega)
  dsimp only
  rw [e1,e2,e3]
  obtain⟨q,hq⟩:∃ q,q=(lo+hi+1) / 2:=⟨_,rfl⟩
  rw [← hq]
  have q0:lo<q:=by omega
  have q1:q≤hi:=by omega
  refine⟨by decide,(cS_NatOf V' q (by omega)).mono ?_⟩
  rintro V1 _ ⟨hle1,s1,o1,f1,rfl,hL1,hO1,hc1,hv1,ln1⟩
  refine⟨nofun,s1,rfl,(cS_l02Mul V1 s' s1 b o1 f' f1 (h'.le (hle.trans hle1)) hL1 hb.1 hc1.1 (by omega) (by omega)).mono ?_⟩
  rintro V2 _ ⟨hle2,s2,o2,f2,rfl,hL2,hO2,hc2,hv2⟩
  refine⟨nofun,s2,rfl,(cS_l02Cmp V2 s2 s o2 r f2 f hL2 (h.le ((hle.trans hle1).trans hle2))).mono ?_⟩
  rintro V3 _ ⟨rfl,rfl⟩
  have hcl:=cmp_le hc2 hr
  rw [hv2,hv1] at hcl
  have hle3:=(hle.trans hle1).trans hle2
  refine⟨nofun,_,rfl,fun hy=>?_,fun hy=>?_⟩
  ·have hy':cmpL o2 r≤0:=of_decide_eq_true hy
   refine⟨_,rfl,(q,hi,()),rfl,⟨hle3,(by omega:(0:Int)≤q),q1,h1,?_,hu⟩,?_⟩
   ·show q*valN b≤valN r
    rw [Int.mul_comm]; exact hcl.1 hy'
   ·show(hi-q).toNat<(hi-lo).toNat
    omega
  ·have hy':¬ cmpL o2 r≤0:=of_decide_eq_false hy
   have e4:IntKind.i64.wrap (q-1)=q-1:=wrap_i64 (by omega)
   refine⟨_,rfl,(lo,q-1,()),by rw [e4]; rfl,⟨hle3,l0,(by omega:lo≤q-1),(by omega:q-1<1000000000),hl,?_⟩,?_⟩
   ·show valN r<(q-1+1)*valN b
    rw [show q-1+1=q by omega,Int.mul_comm]
    have:¬ valN b*q≤valN r:=fun k=>hy' (hcl.2 k)
    omega
   ·show(q-1-lo).toNat<(hi-lo).toNat
    omega
 ·have hge:¬ lo<hi:=of_decide_eq_false hc
  have:lo=hi:=by omega
  subst this
  exact⟨hle,lo,rfl,l0,h1,hl,hu⟩
theorem cS_l03Div (V:Know) (s s':SlV) (a b:List Lim) (f f':List Nat) (h:LR rI V s a f) (h':LR rI V s' b f') (ha:Can a) (hb:Can b) (la:a.length≤900000) (lb:0<b.length) (lb2:b.length≤900000) :
  CallX Tryz.prog V 162 [Sc.val .l s,Sc.val .l s'] (DivPost V a b):=by
 refine CallX.of_fits Tryz.mix (fS_l03Div _ _) fun _=>?_
 have hn:=h.1
 have hn':=h'.1
 have hbp:=(can_pos hb).1 lb
 simp only [tS_l03Div,T.wp]
 refine⟨fun hone=>?_,fun hmore=>?_⟩
 ·have hb1:b.length=1:=by
   have:(s'.n:Int)=1:=by simpa using hone
   omega
  obtain⟨b1,o1,a1,l1⟩:=h'.int lb
  rw [← limb_lt lb] at l1
  have hvb:valN b=limb b 0:=by rw [valN,hb1]; simp [valTo]
  have lx:=hb.1 0
  refine⟨_,a1,Int.le_refl _,(by omega:(0:Int)<(s'.n:Int)),limb b 0,l1,?_⟩
  refine(cS_l03Small V s a f (limb b 0) h ha.1 (by omega) (by omega)).mono ?_
  rintro V1 r ⟨hle,s1,q,r1,f1,rfl,hL,hO,hc,hv,h0,h1,_⟩
  refine⟨nofun,(s1,r1,()),rfl,(cS_NatOf V1 r1 (by omega)).mono ?_⟩
  rintro V2 r ⟨hle2,s2,o,f2,rfl,hL2,hO2,hc2,hv2,_⟩
  exact⟨nofun,s2,rfl,hle.trans hle2,s1,s2,q,o,f1,f2,rfl,hL.le hle2,hL2,hO.post hle2,hO2.pre hle,hc,hc2,by rw [hvb,hv2]; exact hv,by rw [hvb,hv2]; exact h1⟩
 have w1:IntKind.i64.wrap ((s.n:Int)-1)=(a.length:Int)-1:=by rw [wrap_i64 (by omega)]; omega
 rw [w1]
 refine⟨⟨by omega,by omega,by omega,by omega⟩,?_⟩
 intro b1 c1 spare1 hb1 hc1 _
 have hle1:=kset_le (x:=(([]:List Value)++spare1,((3:TypeId),((0,0):Nat × Nat)))) hb1
 refine⟨fun y V'=>V.le V'∧∃ (k:Nat) (O R:List Lim) (fR:List Nat),LR rI V' y.2.1 R fR∧Own V V' fR∧Can R∧valN R<valN b∧y.2.2.1=(k:Int)-1∧k≤a.length∧y.1.1=a.length∧y.1.2=O.map cellI∧O.length=a.length∧Lims O∧(∀ j,j<k→limb O j=0)∧valN O*valN b+valN R*1000000000 ^ k+valTo a k=valN a,
  fun y=>((y.2.2.1:Int)+1).toNat,⟨(((s.n:Int).toNat,(madeCells ⟨[.int .i64 (0:Int)]⟩ ((s.n:Int).toNat*1)).toList),(⟨some ⟨b1,0,none⟩,0,c1⟩:SlV),(a.length:Int)-1,()),rfl,hle1,a.length,zer a.length,[],[],
   ⟨rfl,Nat.zero_le _,Nat.zero_le _,.inl ⟨rfl,(fun h=>by cases h),rfl⟩⟩,Own.nil,⟨lims_nil,.inl rfl⟩,hbp,rfl,Nat.le_refl _,(by omega:(s.n:Int).toNat=a.length),by rw [show(s.n:Int).toNat*1=a.length by omega]; exact made_zer _,len_zer _,lims_zer _,fun j _=>limb_zer _ j,?_⟩,?_⟩
 ·rw [valN_zer,valN_nil]
  show 0*valN b+(0:Int)*1000000000 ^ a.length+valN a=valN a
  simp
 rintro⟨⟨n1,ys⟩,sR,(i:Int),u⟩ V' ⟨hle,k,O,R,fR,hR,hRO,hRc,hRb,hi,hk,hn1,hys,hOl,hOL,hz,hv⟩
 replace hR:LR rI V' sR R fR:=hR
 replace hi:i=(k:Int)-1:=hi
 replace hn1:n1=a.length:=hn1
 replace hys:ys=O.map cellI:=hys
 subst hn1 hys
 have hR0:=valN_nonneg hRc.1
 have lR:=can_len hb hRc (by omega)
 have hnR:=hR.1
 refine⟨fun hge=>?_,fun hlt=>?_⟩
 ·have hge':i≥0:=of_decide_eq_true hge
  obtain⟨m,rfl⟩:∃ m,k=m+1:=⟨k-1,by omega⟩
  have hi:i=(m:Int):=by omega
  subst hi
  have hm:m<a.length:=by omega
  obtain⟨b2,o2,a2,l2⟩:=(h.le hle).int hm
  rw [← limb_lt hm] at l2
  have lax:=ha.1 m
  obtain⟨r1,r2⟩:=hR.rdI
  have e5:IntKind.i64.wrap ((m:Int)-1)=(m:Int)-1:=wrap_i64 (by omega)
  have hlen:(((limb a m,()):Lim) :: R).length=1+sR.n:=by simp; omega
  refine⟨_,a2,(by omega:(0:Int)≤(m:Int)),(by omega:(m:Int)<(s.n:Int)),limb a m,l2,R.map cellI,r1,r2,⟨r2,(by omega:(1+sR.n)*8≤140737488355328),(by omega:1+sR.n≤9223372036854775807)⟩,?_⟩
  intro b6 c6 spare6 hb6 hc6 _
  have hc6':1+sR.n≤c6:=hc6
  have k6:=newI (V:=V') (b:=b6) (cap:=c6) (o:=(limb a m,()) :: R) (spare:=spare6) (t:=3) hb6 (by omega) (by omega)
  have hle6:=kset_le (x:=(((limb a m,()) :: R).map cellI++spare6,((3:TypeId),((0,0):Nat × Nat)))) hb6
  have l6:Lims ((limb a m,()) :: R):=lims_app (x:=[(limb a m,())]) (lims_one lax) hRc.1
  have v6:valN ((limb a m,()) :: R)=limb a m+valN R*1000000000:=by
   have:=valN_app [(limb a m,())] R
   rw [valN_one] at this
   simpa using this
  obtain⟨tcan,tval⟩:=trim_can l6
  rw [v6] at tval
  have key:=cS_l02Trim _ _ _ _ k6.1
  rw [hlen] at key
  refine key.mono ?_
  rintro V7 _ ⟨rfl,s7,rfl,-,hL7⟩
  obtain⟨R1,hR1⟩:∃ R1,R1=trimL ((limb a m,()) :: R):=⟨_,rfl⟩
  rw [← hR1] at hL7 tcan tval
  have hO7:Own V (kset V' b6 (((limb a m,()) :: R).map cellI++spare6,(3,(0,0)))) [b6]:=k6.2.pre hle
  have hle7:=hle.trans hle6
  refine⟨nofun,s7,rfl,(cS_l02Cmp _ s7 s' R1 b _ f' hL7 (h'.le hle7)).mono ?_⟩
  rintro V8 _ ⟨rfl,rfl⟩
  have hcl:=cmp_lt tcan hb
  rw [tval] at hcl
  refine⟨nofun,_,rfl,fun hy=>?_,fun hy=>?_⟩
  ·have hy':cmpL R1 b<0:=of_decide_eq_true hy
   refine⟨_,rfl,((a.length,O.map cellI),s7,(m:Int)-1,()),by rw [e5]; rfl,⟨hle7,m,O,R1,[b6],hL7,hO7,tcan,by rw [tval]; exact hcl.1 hy',rfl,by omega,rfl,rfl,hOl,hOL,fun j hj=>hz j (by omega),?_⟩,?_⟩
   ·rw [tval,← hv,valTo,pw_succ]
    grind
   ·show((m:Int)-1+1).toNat<((m:Int)+1).toNat
    omega
  ·have hy':¬ cmpL R1 b<0:=of_decide_eq_false hy
   have hge2:valN b≤limb a m+valN R*1000000000:=by
    by_cases e:valN b≤limb a m+valN R*1000000000
    ·exact e
    ·exact absurd (hcl.2 (by omega)) hy'
   refine(cS_l03Digit _ s7 s' R1 b _ f' hL7 (h'.le hle7) tcan hb lb2 hbp (by rw [tval]; omega)).mono ?_
   rintro V9 _ ⟨hle9,x,rfl,x0,x1,xl,xu⟩
   have hmO:m<O.length:=by omega
   refine⟨nofun,x,rfl,⟨(by omega:(0:Int)≤(m:Int)),(by omega:(m:Int)<((a.length:Nat):Int))⟩,?_,?_⟩
   ·show(m:Int).toNat*1+1≤(O.map cellI).length
    rw [List.length_map]; omega
   refine(cS_NatOf V9 x (by omega)).mono ?_
   rintro V10 _ ⟨hle10,s10,o10,f10,rfl,hL10,hO10,hc10,hv10,ln10⟩
   have hle10':=(hle7.trans hle9).trans hle10
   refine⟨nofun,s10,rfl,(cS_l02Mul V10 s' s10 b o10 f' f10 (h'.le hle10') hL10 hb.1 hc10.1 (by omega) (by omega)).mono ?_⟩
   rintro V11 _ ⟨hle11,s11,o11,f11,rfl,hL11,hO11,hc11,hv11⟩
   rw [hv10] at hv11
   have hle11':=hle10'.trans hle11
   have hR11:=((hL7.le hle9).le hle10).le hle11
   have hmul:valN o11≤valN R1:=by rw [hv11,Int.mul_comm]; exact xl
   have lR1:R1.length≤900001:=by
    rw [hR1]
    unfold trimL
    rw [List.length_take]
    omega
   refine⟨nofun,s11,rfl,(cS_l02Sub V11 s7 s11 R1 o11 _ f11 hR11 hL11 tcan.1 hc11.1 (by omega) (can_len tcan hc11 hmul) hmul).mono ?_⟩
   rintro V12 _ ⟨hle12,s12,R2,f12,rfl,hL12,hO12,hc12,hv12⟩
   rw [hv11] at hv12
   rw [Int.add_mul,Int.one_mul] at xu
   refine⟨nofun,s12,rfl,_,rfl,((a.length,(O.set m (x,())).map cellI),s12,(m:Int)-1,()),?_,⟨hle11'.trans hle12,m,O.set m (x,()),R2,f12,hL12,hO12.pre hle11',hc12,?_,rfl,by omega,rfl,rfl,by rw [List.length_set]; exact hOl,lims_set hOL hmO ⟨x0,x1⟩,fun j hj=>?_,?_⟩,?_⟩
   ·show [LV.a 3 a.length (setl (O.map cellI) ((m:Int).toNat*1) [Value.int .i64 x]),_,.v (.int .i64 (IntKind.i64.wrap ((m:Int)-1)))]=_
    rw [show(m:Int).toNat*1=m by omega,setl_cell hmO,e5]
    rfl
   ·rw [hv12,Int.mul_comm]; omega
   ·rw [limb_set hmO,if_neg (by omega)]; exact hz j (by omega)
   ·refine quot_step (r:=valN R) (r':=valN R2) hmO (hz m (by omega)) hv ?_
    rw [hv12,tval]
    grind
   ·show((m:Int)-1+1).toNat<((m:Int)+1).toNat
    omega
 ·have hlt':¬ i≥0:=of_decide_eq_false hlt
  have hk0:k=0:=by omega
  subst hk0
  intro b3 c3 spare3 hb3 hc3 _
  have hc3':a.length≤c3:=hc3
  have k3:=newI (V:=V') (b:=b3) (cap:=c3) (o:=O) (spare:=spare3) (t:=3) hb3 (by omega) (by omega)
  have hle3:=kset_le (x:=(O.map cellI++spare3,((3:TypeId),((0,0):Nat × Nat)))) hb3
  obtain⟨qcan,qval⟩:=trim_can hOL
  have key:=cS_l02Trim _ _ _ _ k3.1
  rw [hOl] at key
  refine key.mono ?_
  rintro V4 _ ⟨rfl,s4,rfl,-,hL4⟩
  refine⟨nofun,s4,rfl,hle.trans hle3,s4,sR,_,R,_,fR,rfl,hL4,hR.le hle3,k3.2.pre hle,hRO.post hle3,qcan,hRc,?_,hRb⟩
  rw [qval]
  simp [valTo] at hv
  omega
def limOf:Value→Lim
 | .int _ x=>(x,())
 | _=>(0,())
def memN (V:Know) (s:SlV):Nat:=if s.n=0 then 0 else match s.a with
 | some ad=>(match loadV V ad (s.n*1) with | some cs=>(valN (cs.map limOf)).toNat | none=>0)
 | none=>0
theorem memN_eq {V:Know} {s:SlV} {l:List Lim} {f:List Nat} (h:LR rI V s l f):memN V s=(valN l).toNat:=by
 unfold memN
 rcases h.rdI.1 with ⟨h0,_,h1⟩ | ⟨ad,h1,h2⟩
 ·rw [if_pos h0]
  have:l=[]:=List.eq_nil_of_length_eq_zero (by have:=h.1; omega)
  rw [this]; rfl
 ·by_cases h0:s.n=0
  ·rw [if_pos h0]
   have:l=[]:=List.eq_nil_of_length_eq_zero (by have:=h.1; omega)
   rw [this]; rfl
  ·rw [if_neg h0,h1]
   simp only [h2]
   congr 2
   rw [List.map_map]
   have:limOf ∘ cellI=id:=by funext x; rfl
   rw [this,List.map_id]
abbrev GcdPost (V:Know) (a b:List Lim):Know→Value→Prop:=fun V' ret=>V.le V'∧∃ s g f,ret=Sc.val .l s∧LR rI V' s g f∧Own V V' f∧Can g∧valN g=(Int.gcd (valN a) (valN b):Int)
theorem gcd_step {x y q r:Int} (h:x=q*y+r):Int.gcd y r=Int.gcd x y:=by
 rw [h,Int.add_comm,Int.gcd_add_mul_right_left,Int.gcd_comm]
theorem cI_natGcd (V:Know) (s s':SlV) (a b:List Lim) (f f':List Nat) (h:LR rI V s a f) (h':LR rI V s' b f') (ha:Can a) (hb:Can b) (la:a.length≤900000) (lb:b.length≤900000) :
  CallX Tryz.prog V 120 [Sc.val .l s,Sc.val .l s'] (GcdPost V a b):=by
 refine CallX.of_fits Tryz.mix (fI_natGcd _ _) fun _=>?_
 simp only [tI_natGcd,T.wp]
 refine⟨fun y V'=>V.le V'∧∃ (x z:List Lim) (fx fz:List Nat),LR rI V' y.1 x fx∧LR rI V' y.2.1 z fz∧Can x∧Can z∧x.length≤900000∧z.length≤900000∧Int.gcd (valN x) (valN z)=Int.gcd (valN a) (valN b),
  fun y V'=>memN V' y.2.1,⟨(s,s',()),rfl,Know.le.refl _,a,b,f,f',h,h',ha,hb,la,lb,rfl⟩,?_⟩
 rintro⟨s1,s2,u⟩ V' ⟨hle,x,z,fx,fz,hx,hz,cx,cz,lx,lz,hg⟩
 replace hx:LR rI V' s1 x fx:=hx
 replace hz:LR rI V' s2 z fz:=hz
 have hnz:=hz.1
 refine⟨fun hpos=>?_,fun hend=>?_⟩
 ·have hp:0<z.length:=by
   have:(s2.n:Int) > 0:=of_decide_eq_true hpos
   omega
  refine(cI_natDiv V' s1 s2 x z fx fz hx hz cx cz lx hp).mono ?_
  rintro V1 _ ⟨hle1,t1,t2,q,r,f1,f2,rfl,hL1,hL2,hO1,hO2,hcq,hcr,hv,hr⟩
  have h0:=valN_nonneg hcr.1
  refine⟨nofun,(t1,t2,()),rfl,_,rfl,(s2,t2,()),rfl,⟨hle.trans hle1,z,r,fz,f2,hz.le hle1,hL2,cz,hcr,lz,?_,?_⟩,?_⟩
  ·have:=can_len cz hcr (by omega)
   omega
  ·rw [gcd_step hv]; exact hg
  ·show memN V1 t2<memN V' s2
   rw [memN_eq hL2,memN_eq hz]
   omega
 ·have hz0:z=[]:=List.eq_nil_of_length_eq_zero (by
   have:¬ (s2.n:Int) > 0:=of_decide_eq_false hend
   omega)
  subst hz0
  refine(cI_natCopy V' s1 x fx hx (by omega)).mono ?_
  rintro V1 _ ⟨hle1,s3,f3,rfl,hL3,hO3⟩
  refine⟨nofun,s3,rfl,hle.trans hle1,s3,x,f3,rfl,hL3,hO3.pre hle,cx,?_⟩
  rw [← hg,valN_nil]
  have:=valN_nonneg cx.1
  simp
  omega
theorem cS_NatGcd (V:Know) (s s':SlV) (a b:List Lim) (f f':List Nat) (h:LR rI V s a f) (h':LR rI V s' b f') (ha:NatOkP a) (hb:NatOkP b) :
  CallX Tryz.prog V 158 [Sc.val .l s,Sc.val .l s'] (GcdPost V a b):=by
 refine CallX.of_fits Tryz.mix (fS_NatGcd _ _) fun _=>?_
 have hn:=h.1
 have hn':=h'.1
 have la:=ha.2
 have lb:=hb.2
 simp only [tS_NatGcd,T.wp]
 refine(cS_NatOk V s a f h).mono ?_
 rintro V0 _ ⟨rfl,e,rfl,he⟩
 have he1:=he.2 ha
 subst he1
 refine⟨nofun,true,rfl,nofun,fun _=>(cS_NatOk V0 s' b f' h').mono ?_⟩
 rintro V1 _ ⟨rfl,e,rfl,he2⟩
 have he2:=he2.2 hb
 subst he2
 obtain⟨r1,r2⟩:=h.rdI
 obtain⟨r3,r4⟩:=h'.rdI
 refine⟨nofun,true,rfl,nofun,fun _=>⟨a.map cellI,r1,r2,⟨r2,(by omega:(0+s.n)*8≤140737488355328),(by omega:0+s.n≤9223372036854775807)⟩,b.map cellI,r3,r4,⟨r4,(by omega:(0+s'.n)*8≤140737488355328),(by omega:0+s'.n≤9223372036854775807)⟩,?_⟩⟩
 intro b5 c5 sp5 hb5 hc5 _
 have k5:=newI (V:=V1) (b:=b5) (cap:=c5) (o:=a) (spare:=sp5) (t:=3) hb5 (by omega) (by omega)
 have hle5:=kset_le (x:=(a.map cellI++sp5,((3:TypeId),((0,0):Nat × Nat)))) hb5
 intro b6 c6 sp6 hb6 hc6 _
 have k6:=newI (V:=kset V1 b5 (a.map cellI++sp5,(3,(0,0)))) (b:=b6) (cap:=c6) (o:=b) (spare:=sp6) (t:=3) hb6 (by omega) (by omega)
 have hle6:=kset_le (x:=(b.map cellI++sp6,((3:TypeId),((0,0):Nat × Nat)))) hb6
 refine⟨fun y V'=>V1.le V'∧∃ (x z:List Lim) (fx fz:List Nat),LR rI V' y.1 x fx∧LR rI V' y.2.1 z fz∧Own V1 V' fx∧Own V1 V' fz∧Can x∧Can z∧x.length≤900000∧z.length≤900000∧Int.gcd (valN x) (valN z)=Int.gcd (valN a) (valN b),
  fun y V'=>memN V' y.2.1,⟨((⟨some ⟨b5,0,none⟩,0+s.n,c5⟩:SlV),(⟨some ⟨b6,0,none⟩,0+s'.n,c6⟩:SlV),()),rfl,hle5.trans hle6,a,b,[b5],[b6],?_,?_,k5.2.post hle6,k6.2.pre hle5,ha.1,hb.1,by omega,by omega,rfl⟩,?_⟩
 ·show LR rI _ ⟨some ⟨b5,0,none⟩,0+s.n,c5⟩ _ _
  rw [Nat.zero_add,hn]
  exact k5.1.le hle6
 ·show LR rI _ ⟨some ⟨b6,0,none⟩,0+s'.n,c6⟩ _ _
  rw [Nat.zero_add,hn']
  exact k6.1
 rintro⟨s1,s2,u⟩ V' ⟨hle,x,z,fx,fz,hx,hz,ox,oz,cx,cz,lx,lz,hg⟩
 replace hx:LR rI V' s1 x fx:=hx
 replace hz:LR rI V' s2 z fz:=hz
 have hnz:=hz.1
 refine⟨fun hpos=>?_,fun hend=>?_⟩
 ·have hp:0<z.length:=by
   have:(s2.n:Int) > 0:=of_decide_eq_true hpos
   omega
  refine(cS_l03Div V' s1 s2 x z fx fz hx hz cx cz lx hp lz).mono ?_
  rintro V2 _ ⟨hle1,t1,t2,q,r,f1,f2,rfl,hL1,hL2,hO1,hO2,hcq,hcr,hv,hr⟩
  have h0:=valN_nonneg hcr.1
  refine⟨nofun,(t1,t2,()),rfl,_,rfl,(s2,t2,()),rfl,⟨hle.trans hle1,z,r,fz,f2,hz.le hle1,hL2,oz.post hle1,hO2.pre hle,cz,hcr,lz,?_,?_⟩,?_⟩
  ·have:=can_len cz hcr (by omega)
   omega
  ·rw [gcd_step hv]; exact hg
  ·show memN V2 t2<memN V' s2
   rw [memN_eq hL2,memN_eq hz]
   omega
 ·have hz0:z=[]:=List.eq_nil_of_length_eq_zero (by
   have:¬ (s2.n:Int) > 0:=of_decide_eq_false hend
   omega)
  subst hz0
  refine⟨hle,s1,x,fx,rfl,hx,ox,cx,?_⟩
  rw [← hg,valN_nil]
  have:=valN_nonneg cx.1
  simp
  omega
end Go.Proofs.YtpdfdkccgkieoaaGreatDoor
