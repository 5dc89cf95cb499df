/-
  Operations on maps that are known: made, asked, laid into.
-/
import Derived.Test.YtmppmpceccpdlaaGreatDoorDivF
import Derived.Test.YtmppmpceccpdlaaGreatDoorMath
import Derived.Test.YtmppmpceccpdlaaGreatDoorDivM
import Derived.ChangeKeysEq
import Derived.Carry
namespace Go.Proofs.YtmppmpceccpdlaaGreatDoor
open Sx
set_option maxRecDepth 100000
theorem cmp_le {a b:List Lim} (ha:Can a) (hb:Can b):cmpL a b≤0↔valN a≤valN b:=by
 rcases cmpL_val ha hb with ⟨c,k⟩ | ⟨c,k⟩ | ⟨c,k⟩ <;> omega
theorem cmp_lt {a b:List Lim} (ha:Can a) (hb:Can b):cmpL a b<0↔valN a<valN b:=by
 rcases cmpL_val ha hb with ⟨c,k⟩ | ⟨c,k⟩ | ⟨c,k⟩ <;> omega
theorem cmp_eq {a b:List Lim} (ha:Can a) (hb:Can b):cmpL a b=0↔valN a=valN b:=by
 rcases cmpL_val ha hb with ⟨c,k⟩ | ⟨c,k⟩ | ⟨c,k⟩ <;> omega
theorem cS_l03Digit (V:Know) (s s':SlV) (r b:List Lim) (f f':List Nat) (h:LR rI V s r f) (h':LR rI V s' b f') (hr:Can r) (hb:Can b) (lb:b.length≤900000) (_:0<valN b) (hlt:valN r<1000000000*valN b) :
  CallX Tryz.prog V 145 [Sc.val .l s,Sc.val .l s'] (fun V' ret=>V.le V'∧∃ x,ret=.int .i64 x∧0≤x∧x<1000000000∧x*valN b≤valN r∧valN r<(x+1)*valN b):=by
 refine CallX.of_fits Tryz.mix (fS_l03Digit _ _) fun _=>?_
 have h0:=valN_nonneg hr.1
 simp only [tS_l03Digit,T.wp]
 refine⟨fun y V'=>V.le V'∧0≤(y.1:Int)∧(y.1:Int)≤(y.2.1:Int)∧(y.2.1:Int)<1000000000∧(y.1:Int)*valN b≤valN r∧valN r<((y.2.1:Int)+1)*valN b,fun y=>((y.2.1:Int)-(y.1:Int)).toNat,
  ⟨((0:Int),(999999999:Int),()),rfl,Know.le.refl _,(by omega:(0:Int)≤0),(by omega:(0:Int)≤999999999),(by omega:(999999999:Int)<1000000000),?_,hlt⟩,?_⟩
 ·show(0:Int)*valN b≤valN r
  rw [Int.zero_mul]; exact h0
 rintro⟨(lo:Int),(hi:Int),u⟩ V' ⟨hle,l0,lh,h1,hl,hu⟩
 replace l0:0≤lo:=l0
 replace lh:lo≤hi:=lh
 replace h1:hi<1000000000:=h1
 replace hl:lo*valN b≤valN r:=hl
 replace hu:valN r<(hi+1)*valN b:=hu
 refine⟨fun hc=>?_,fun hc=>?_⟩
 ·have hlt2:lo<hi:=of_decide_eq_true hc
  have e1:IntKind.i64.wrap (lo+hi)=lo+hi:=wrap_i64 (by omega)
  have e2:IntKind.i64.wrap (lo+hi+1)=lo+hi+1:=wrap_i64 (by omega)
  have e3:IntKind.i64.wrap ((lo+hi+1).tdiv 2)=(lo+hi+1) / 2:=by rw [Int.tdiv_eq_ediv_of_nonneg (by omega)]; exact wrap_i64 (by omega)
  dsimp only
  rw [e1,e2,e3]
  obtain⟨q,hq⟩:∃ q,q=(lo+hi+1) / 2:=⟨_,rfl⟩
  rw [← hq]
  have q0:lo<q:=by omega
  have q1:q≤hi:=by omega
  refine⟨by decide,(cS_NatOf V' q (by omega)).mono ?_⟩
  rintro V1 _ ⟨hle1,s1,o1,f1,rfl,hL1,hO1,hc1,hv1,ln1⟩
  refine⟨nofun,s1,rfl,(cS_l02Mul V1 s' s1 b o1 f' f1 (h'.le (hle.trans hle1)) hL1 hb.1 hc1.1 (by omega) (by omega)).mono ?_⟩
  rintro V2 _ ⟨hle2,s2,o2,f2,rfl,hL2,hO2,hc2,hv2⟩
  refine⟨nofun,s2,rfl,(cS_l02Cmp V2 s2 s o2 r f2 f hL2 (h.le ((hle.trans hle1).trans hle2))).mono ?_⟩
  rintro V3 _ ⟨rfl,rfl⟩
  have hcl:=cmp_le hc2 hr
  rw [hv2,hv1] at hcl
  have hle3:=(hle.trans hle1).trans hle2
  refine⟨nofun,_,rfl,fun hy=>?_,fun hy=>?_⟩
  ·have hy':cmpL o2 r≤0:=of_decide_eq_true hy
   refine⟨_,rfl,(q,hi,()),rfl,⟨hle3,(by omega:(0:Int)≤q),q1,h1,?_,hu⟩,?_⟩
   ·show q*valN b≤valN r
    rw [Int.mul_comm]; exact hcl.1 hy'
   ·show(hi-q).toNat<(hi-lo).toNat
    omega
  ·have hy':¬ cmpL o2 r≤0:=of_decide_eq_false hy
   have e4:IntKind.i64.wrap (q-1)=q-1:=wrap_i64 (by omega)
   refine⟨_,rfl,(lo,q-1,()),by rw [e4]; rfl,⟨hle3,l0,(by omega:lo≤q-1),(by omega:q-1<1000000000),hl,?_⟩,?_⟩
   ·show valN r<(q-1+1)*valN b
    rw [show q-1+1=q by omega,Int.mul_comm]
    have:¬ valN b*q≤valN r:=fun k=>hy' (hcl.2 k)
    omega
   ·show(q-1-lo).toNat<(hi-lo).toNat
    omega
 ·have hge:¬ lo<hi:=of_decide_eq_false hc
  have:lo=hi:=by omega
  subst this
  exact⟨hle,lo,rfl,l0,h1,hl,hu⟩
theorem cS_l03Div (V:Know) (s s':SlV) (a b:List Lim) (f f':List Nat) (h:LR rI V s a f) (h':LR rI V s' b f') (ha:Can a) (hb:Can b) (la:a.length≤900000) (lb:0<b.length) (lb2:b.length≤900000) :
  CallX Tryz.prog V 117 [Sc.val .l s,Sc.val .l s'] (DivPost V a b):=by
 refine CallX.of_fits Tryz.mix (fS_l03Div _ _) fun _=>?_
 have hn:=h.1
 have hn':=h'.1
 have hbp:=(can_pos hb).1 lb
 simp only [tS_l03Div,T.wp]
 refine⟨fun hone=>?_,fun hmore=>?_⟩
 ·have hb1:b.length=1:=by
   have:(s'.n:Int)=1:=by simpa using hone
   omega
  obtain⟨b1,o1,a1,l1⟩:=h'.int lb
  rw [← limb_lt lb] at l1
  have hvb:valN b=limb b 0:=by rw [valN,hb1]; simp [valTo]
  have lx:=hb.1 0
  refine⟨_,a1,Int.le_refl _,(by omega:(0:Int)<(s'.n:Int)),limb b 0,l1,?_⟩
  refine(cS_l03Small V s a f (limb b 0) h ha.1 (by omega) (by omega)).mono ?_
  rintro V1 r ⟨hle,s1,q,r1,f1,rfl,hL,hO,hc,hv,h0,h1,_⟩
  refine⟨nofun,(s1,r1,()),rfl,(cS_NatOf V1 r1 (by omega)).mono ?_⟩
  rintro V2 r ⟨hle2,s2,o,f2,rfl,hL2,hO2,hc2,hv2,_⟩
  exact⟨nofun,s2,rfl,hle.trans hle2,s1,s2,q,o,f1,f2,rfl,hL.le hle2,hL2,hO.post hle2,hO2.pre hle,hc,hc2,by rw [hvb,hv2]; exact hv,by rw [hvb,hv2]; exact h1⟩
 have w1:IntKind.i64.wrap ((s.n:Int)-1)=(a.length:Int)-1:=by rw [wrap_i64 (by omega)]; omega
 rw [w1]
 refine⟨⟨by omega,by omega,by omega,by omega⟩,?_⟩
 intro b1 c1 spare1 hb1 hc1 _
 have hle1:=kset_le (x:=(([]:List Value)++spare1,((3:TypeId),((0,0):Nat × Nat)))) hb1
 refine⟨fun y V'=>V.le V'∧∃ (k:Nat) (O R:List Lim) (fR:List Nat),LR rI V' y.2.1 R fR∧Own V V' fR∧Can R∧valN R<valN b∧y.2.2.1=(k:Int)-1∧k≤a.length∧y.1.1=a.length∧y.1.2=O.map cellI∧O.length=a.length∧Lims O∧(∀ j,j<k→limb O j=0)∧valN O*valN b+valN R*1000000000 ^ k+valTo a k=valN a,
  fun y=>((y.2.2.1:Int)+1).toNat,⟨(((s.n:Int).toNat,(madeCells ⟨[.int .i64 (0:Int)]⟩ ((s.n:Int).toNat*1)).toList),(⟨some ⟨b1,0,none⟩,0,c1⟩:SlV),(a.length:Int)-1,()),rfl,hle1,a.length,zer a.length,[],[],
   ⟨rfl,Nat.zero_le _,Nat.zero_le _,.inl ⟨rfl,(fun h=>by cases h),rfl⟩⟩,Own.nil,⟨lims_nil,.inl rfl⟩,hbp,rfl,Nat.le_refl _,(by omega:(s.n:Int).toNat=a.length),by rw [show(s.n:Int).toNat*1=a.length by omega]; exact made_zer _,len_zer _,lims_zer _,fun j _=>limb_zer _ j,?_⟩,?_⟩
 ·rw [valN_zer,valN_nil]
  show 0*valN b+(0:Int)*1000000000 ^ a.length+valN a=valN a
  simp
 rintro⟨⟨n1,ys⟩,sR,(i:Int),u⟩ V' ⟨hle,k,O,R,fR,hR,hRO,hRc,hRb,hi,hk,hn1,hys,hOl,hOL,hz,hv⟩
 replace hR:LR rI V' sR R fR:=hR
 replace hi:i=(k:Int)-1:=hi
 replace hn1:n1=a.length:=hn1
 replace hys:ys=O.map cellI:=hys
 subst hn1 hys
 have hR0:=valN_nonneg hRc.1
 have lR:=can_len hb hRc (by omega)
 have hnR:=hR.1
 refine⟨fun hge=>?_,fun hlt=>?_⟩
 ·have hge':i≥0:=of_decide_eq_true hge
  obtain⟨m,rfl⟩:∃ m,k=m+1:=⟨k-1,by omega⟩
  have hi:i=(m:Int):=by omega
  subst hi
  have hm:m<a.length:=by omega
  obtain⟨b2,o2,a2,l2⟩:=(h.le hle).int hm
  rw [← limb_lt hm] at l2
  have lax:=ha.1 m
  obtain⟨r1,r2⟩:=hR.rdI
  have e5:IntKind.i64.wrap ((m:Int)-1)=(m:Int)-1:=wrap_i64 (by omega)
  have hlen:(((limb a m,()):Lim) :: R).length=1+sR.n:=by simp; omega
  refine⟨_,a2,(by omega:(0:Int)≤(m:Int)),(by omega:(m:Int)<(s.n:Int)),limb a m,l2,R.map cellI,r1,r2,⟨r2,(by omega:(1+sR.n)*8≤140737488355328),(by omega:1+sR.n≤9223372036854775807)⟩,?_⟩
  intro b6 c6 spare6 hb6 hc6 _
  have hc6':1+sR.n≤c6:=hc6
  have k6:=newI (V:=V') (b:=b6) (cap:=c6) (o:=(limb a m,()) :: R) (spare:=spare6) (t:=3) hb6 (by omega) (by omega)
  have hle6:=kset_le (x:=(((limb a m,()) :: R).map cellI++spare6,((3:TypeId),((0,0):Nat × Nat)))) hb6
  have l6:Lims ((limb a m,()) :: R):=lims_app (x:=[(limb a m,())]) (lims_one lax) hRc.1
  have v6:valN ((limb a m,()) :: R)=limb a m+valN R*1000000000:=by
   have:=valN_app [(limb a m,())] R
   rw [valN_one] at this
   simpa using this
  obtain⟨tcan,tval⟩:=trim_can l6
  rw [v6] at tval
  have key:=cS_l02Trim _ _ _ _ k6.1
  rw [hlen] at key
  refine key.mono ?_
  rintro V7 _ ⟨rfl,s7,rfl,-,hL7⟩
  obtain⟨R1,hR1⟩:∃ R1,R1=trimL ((limb a m,()) :: R):=⟨_,rfl⟩
  rw [← hR1] at hL7 tcan tval
  have hO7:Own V (kset V' b6 (((limb a m,()) :: R).map cellI++spare6,(3,(0,0)))) [b6]:=k6.2.pre hle
  have hle7:=hle.trans hle6
  refine⟨nofun,s7,rfl,(cS_l02Cmp _ s7 s' R1 b _ f' hL7 (h'.le hle7)).mono ?_⟩
  rintro V8 _ ⟨rfl,rfl⟩
  have hcl:=cmp_lt tcan hb
  rw [tval] at hcl
  refine⟨nofun,_,rfl,fun hy=>?_,fun hy=>?_⟩
  ·have hy':cmpL R1 b<0:=of_decide_eq_true hy
   refine⟨_,rfl,((a.length,O.map cellI),s7,(m:Int)-1,()),by rw [e5]; rfl,⟨hle7,m,O,R1,[b6],hL7,hO7,tcan,by rw [tval]; exact hcl.1 hy',rfl,by omega,rfl,rfl,hOl,hOL,fun j hj=>hz j (by omega),?_⟩,?_⟩
   ·rw [tval,← hv,valTo,pw_succ]
    grind
   ·show((m:Int)-1+1).toNat<((m:Int)+1).toNat
    omega
  ·have hy':¬ cmpL R1 b<0:=of_decide_eq_false hy
   have hge2:valN b≤limb a m+valN R*1000000000:=by
    by_cases e:valN b≤limb a m+valN R*1000000000
    ·exact e
    ·exact absurd (hcl.2 (by omega)) hy'
   refine(cS_l03Digit _ s7 s' R1 b _ f' hL7 (h'.le hle7) tcan hb lb2 hbp (by rw [tval]; omega)).mono ?_
   rintro V9 _ ⟨hle9,x,rfl,x0,x1,xl,xu⟩
   have hmO:m<O.length:=by omega
   refine⟨nofun,x,rfl,⟨(by omega:(0:Int)≤(m:Int)),(by omega:(m:Int)<((a.length:Nat):Int))⟩,?_,?_⟩
   ·show(m:Int).toNat*1+1≤(O.map cellI).length
    rw [List.length_map]; omega
   refine(cS_NatOf V9 x (by omega)).mono ?_
   rintro V10 _ ⟨hle10,s10,o10,f10,rfl,hL10,hO10,hc10,hv10,ln10⟩
   have hle10':=(hle7.trans hle9).trans hle10
   refine⟨nofun,s10,rfl,(cS_l02Mul V10 s' s10 b o10 f' f10 (h'.le hle10') hL10 hb.1 hc10.1 (by omega) (by omega)).mono ?_⟩
   rintro V11 _ ⟨hle11,s11,o11,f11,rfl,hL11,hO11,hc11,hv11⟩
   rw [hv10] at hv11
   have hle11':=hle10'.trans hle11
   have hR11:=((hL7.le hle9).le hle10).le hle11
   have hmul:valN o11≤valN R1:=by rw [hv11,Int.mul_comm]; exact xl
   have lR1:R1.length≤900001:=by
    rw [hR1]
    unfold trimL
    rw [List.length_take]
    omega
   refine⟨nofun,s11,rfl,(cS_l02Sub V11 s7 s11 R1 o11 _ f11 hR11 hL11 tcan.1 hc11.1 (by omega) (can_len tcan hc11 hmul) hmul).mono ?_⟩
   rintro V12 _ ⟨hle12,s12,R2,f12,rfl,hL12,hO12,hc12,hv12⟩
   rw [hv11] at hv12
   rw [Int.add_mul,Int.one_mul] at xu
   refine⟨nofun,s12,rfl,_,rfl,((a.length,(O.set m (x,())).map cellI),s12,(m:Int)-1,()),?_,⟨hle11'.trans hle12,m,O.set m (x,()),R2,f12,hL12,hO12.pre hle11',hc12,?_,rfl,by omega,rfl,rfl,by rw [List.length_set]; exact hOl,lims_set hOL hmO ⟨x0,x1⟩,fun j hj=>?_,?_⟩,?_⟩
   ·show [LV.a 3 a.length (setl (O.map cellI) ((m:Int).toNat*1) [Value.int .i64 x]),_,.v (.int .i64 (IntKind.i64.wrap ((m:Int)-1)))]=_
    rw [show(m:Int).toNat*1=m by omega,setl_cell hmO,e5]
    rfl
   ·rw [hv12,Int.mul_comm]; omega
   ·rw [limb_set hmO,if_neg (by omega)]; exact hz j (by omega)
   ·refine quot_step (r:=valN R) (r':=valN R2) hmO (hz m (by omega)) hv ?_
    rw [hv12,tval]
    grind
   ·show((m:Int)-1+1).toNat<((m:Int)+1).toNat
    omega
 ·have hlt':¬ i≥0:=of_decide_eq_false hlt
  have hk0:k=0:=by omega
  subst hk0
  intro b3 c3 spare3 hb3 hc3 _
  have hc3':a.length≤c3:=hc3
  have k3:=newI (V:=V') (b:=b3) (cap:=c3) (o:=O) (spare:=spare3) (t:=3) hb3 (by omega) (by omega)
  have hle3:=kset_le (x:=(O.map cellI++spare3,((3:TypeId),((0,0):Nat × Nat)))) hb3
  obtain⟨qcan,qval⟩:=trim_can hOL
  have key:=cS_l02Trim _ _ _ _ k3.1
  rw [hOl] at key
  refine key.mono ?_
  rintro V4 _ ⟨rfl,s4,rfl,-,hL4⟩
  refine⟨nofun,s4,rfl,hle.trans hle3,s4,sR,_,R,_,fR,rfl,hL4,hR.le hle3,k3.2.pre hle,hRO.post hle3,qcan,hRc,?_,hRb⟩
  rw [qval]
  simp [valTo] at hv
  omega
def limOf:Value→Lim
 | .int _ x=>(x,())
 | _=>(0,())
def memN (V:Know) (s:SlV):Nat:=if s.n=0 then 0 else match s.a with
 | some ad=>(match loadV V ad (s.n*1) with | some cs=>(valN (cs.map limOf)).toNat | none=>0)
 | none=>0
theorem memN_eq {V:Know} {s:SlV} {l:List Lim} {f:List Nat} (h:LR rI V s l f):memN V s=(valN l).toNat:=by
 unfold memN
 rcases h.rdI.1 with ⟨h0,_,h1⟩ | ⟨ad,h1,h2⟩
 ·rw [if_pos h0]
  have:l=[]:=List.eq_nil_of_length_eq_zero (by have:=h.1; omega)
  rw [this]; rfl
 ·by_cases h0:s.n=0
  ·rw [if_pos h0]
   have:l=[]:=List.eq_nil_of_length_eq_zero (by have:=h.1; omega)
   rw [this]; rfl
  ·rw [if_neg h0,h1]
   simp only [h2]
   congr 2
   rw [List.map_map]
   have:limOf ∘ cellI=id:=by funext x; rfl
   rw [this,List.map_id]
abbrev GcdPost (V:Know) (a b:List Lim):Know→Value→Prop:=fun V' ret=>V.le V'∧∃ s g f,ret=Sc.val .l s∧LR rI V' s g f∧Own V V' f∧Can g∧valN g=(Int.gcd (valN a) (valN b):Int)
theorem gcd_step {x y q r:Int} (h:x=q*y+r):Int.gcd y r=Int.gcd x y:=by
 rw [h,Int.add_comm,Int.gcd_add_mul_right_left,Int.gcd_comm]
theorem cI_natGcd (V:Know) (s s':SlV) (a b:List Lim) (f f':List Nat) (h:LR rI V s a f) (h':LR rI V s' b f') (ha:Can a) (hb:Can b) (la:a.length≤900000) (lb:b.length≤900000) :
  CallX Tryz.prog V 79 [Sc.val .l s,Sc.val .l s'] (GcdPost V a b):=by
 refine CallX.of_fits Tryz.mix (fI_natGcd _ _) fun _=>?_
 simp only [tI_natGcd,T.wp]
 refine⟨fun y V'=>V.le V'∧∃ (x z:List Lim) (fx fz:List Nat),LR rI V' y.1 x fx∧LR rI V' y.2.1 z fz∧Can x∧Can z∧x.length≤900000∧z.length≤900000∧Int.gcd (valN x) (valN z)=Int.gcd (valN a) (valN b),
  fun y V'=>memN V' y.2.1,⟨(s,s',()),rfl,Know.le.refl _,a,b,f,f',h,h',ha,hb,la,lb,rfl⟩,?_⟩
 rintro⟨s1,s2,u⟩ V' ⟨hle,x,z,fx,fz,hx,hz,cx,cz,lx,lz,hg⟩
 replace hx:LR rI V' s1 x fx:=hx
 replace hz:LR rI V' s2 z fz:=hz
 have hnz:=hz.1
 refine⟨fun hpos=>?_,fun hend=>?_⟩
 ·have hp:0<z.length:=by
   have:(s2.n:Int) > 0:=of_decide_eq_true hpos
   omega
  refine(cI_natDiv V' s1 s2 x z fx fz hx hz cx cz lx hp).mono ?_
  rintro V1 _ ⟨hle1,t1,t2,q,r,f1,f2,rfl,hL1,hL2,hO1,hO2,hcq,hcr,hv,hr⟩
  have h0:=valN_nonneg hcr.1
  refine⟨nofun,(t1,t2,()),rfl,_,rfl,(s2,t2,()),rfl,⟨hle.trans hle1,z,r,fz,f2,hz.le hle1,hL2,cz,hcr,lz,?_,?_⟩,?_⟩
  ·have:=can_len cz hcr (by omega)
   omega
  ·rw [gcd_step hv]; exact hg
  ·show memN V1 t2<memN V' s2
   rw [memN_eq hL2,memN_eq hz]
   omega
 ·have hz0:z=[]:=List.eq_nil_of_length_eq_zero (by
   have:¬ (s2.n:Int) > 0:=of_decide_eq_false hend
   omega)
  subst hz0
  refine(cI_natCopy V' s1 x fx hx (by omega)).mono ?_
  rintro V1 _ ⟨hle1,s3,f3,rfl,hL3,hO3⟩
  refine⟨nofun,s3,rfl,hle.trans hle1,s3,x,f3,rfl,hL3,hO3.pre hle,cx,?_⟩
  rw [← hg,valN_nil]
  have:=valN_nonneg cx.1
  simp
  omega
theorem cS_NatGcd (V:Know) (s s':SlV) (a b:List Lim) (f f':List Nat) (h:LR rI V s a f) (h':LR rI V s' b f') (ha:NatOkP a) (hb:NatOkP b) :
  CallX Tryz.prog V 90 [Sc.val .l s,Sc.val .l s'] (GcdPost V a b):=by
 refine CallX.of_fits Tryz.mix (fS_NatGcd _ _) fun _=>?_
 have hn:=h.1
 have hn':=h'.1
 have la:=ha.2
 have lb:=hb.2
 simp only [tS_NatGcd,T.wp]
 refine(cS_NatOk V s a f h).mono ?_
 rintro V0 _ ⟨rfl,e,rfl,he⟩
 have he1:=he.2 ha
 subst he1
 refine⟨nofun,true,rfl,nofun,fun _=>(cS_NatOk V0 s' b f' h').mono ?_⟩
 rintro V1 _ ⟨rfl,e,rfl,he2⟩
 have he2:=he2.2 hb
 subst he2
 obtain⟨r1,r2⟩:=h.rdI
 obtain⟨r3,r4⟩:=h'.rdI
 refine⟨nofun,true,rfl,nofun,fun _=>⟨a.map cellI,r1,r2,⟨r2,(by omega:(0+s.n)*8≤140737488355328),(by omega:0+s.n≤9223372036854775807)⟩,b.map cellI,r3,r4,⟨r4,(by omega:(0+s'.n)*8≤140737488355328),(by omega:0+s'.n≤9223372036854775807)⟩,?_⟩⟩
 intro b5 c5 sp5 hb5 hc5 _
 have k5:=newI (V:=V1) (b:=b5) (cap:=c5) (o:=a) (spare:=sp5) (t:=3) hb5 (by omega) (by omega)
 have hle5:=kset_le (x:=(a.map cellI++sp5,((3:TypeId),((0,0):Nat × Nat)))) hb5
 intro b6 c6 sp6 hb6 hc6 _
 have k6:=newI (V:=kset V1 b5 (a.map cellI++sp5,(3,(0,0)))) (b:=b6) (cap:=c6) (o:=b) (spare:=sp6) (t:=3) hb6 (by omega) (by omega)
 have hle6:=kset_le (x:=(b.map cellI++sp6,((3:TypeId),((0,0):Nat × Nat)))) hb6
 refine⟨fun y V'=>V1.le V'∧∃ (x z:List Lim) (fx fz:List Nat),LR rI V' y.1 x fx∧LR rI V' y.2.1 z fz∧Own V1 V' fx∧Own V1 V' fz∧Can x∧Can z∧x.length≤900000∧z.length≤900000∧Int.gcd (valN x) (valN z)=Int.gcd (valN a) (valN b),
  fun y V'=>memN V' y.2.1,⟨((⟨some ⟨b5,0,none⟩,0+s.n,c5⟩:SlV),(⟨some ⟨b6,0,none⟩,0+s'.n,c6⟩:SlV),()),rfl,hle5.trans hle6,a,b,[b5],[b6],?_,?_,k5.2.post hle6,k6.2.pre hle5,ha.1,hb.1,by omega,by omega,rfl⟩,?_⟩
 ·show LR rI _ ⟨some ⟨b5,0,none⟩,0+s.n,c5⟩ _ _
  rw [Nat.zero_add,hn]
  exact k5.1.le hle6
 ·show LR rI _ ⟨some ⟨b6,0,none⟩,0+s'.n,c6⟩ _ _
  rw [Nat.zero_add,hn']
  exact k6.1
 rintro⟨s1,s2,u⟩ V' ⟨hle,x,z,fx,fz,hx,hz,ox,oz,cx,cz,lx,lz,hg⟩
 replace hx:LR rI V' s1 x fx:=hx
 replace hz:LR rI V' s2 z fz:=hz
 have hnz:=hz.1
 refine⟨fun hpos=>?_,fun hend=>?_⟩
 ·have hp:0<z.length:=by
   have:(s2.n:Int) > 0:=of_decide_eq_true hpos
   omega
  refine(cS_l03Div V' s1 s2 x z fx fz hx hz cx cz lx hp lz).mono ?_
  rintro V2 _ ⟨hle1,t1,t2,q,r,f1,f2,rfl,hL1,hL2,hO1,hO2,hcq,hcr,hv,hr⟩
  have h0:=valN_nonneg hcr.1
  refine⟨nofun,(t1,t2,()),rfl,_,rfl,(s2,t2,()),rfl,⟨hle.trans hle1,z,r,fz,f2,hz.le hle1,hL2,oz.post hle1,hO2.pre hle,cz,hcr,lz,?_,?_⟩,?_⟩
  ·have:=can_len cz hcr (by omega)
   omega
  ·rw [gcd_step hv]; exact hg
  ·show memN V2 t2<memN V' s2
   rw [memN_eq hL2,memN_eq hz]
   omega
 ·have hz0:z=[]:=List.eq_nil_of_length_eq_zero (by
   have:¬ (s2.n:Int) > 0:=of_decide_eq_false hend
   omega)
  subst hz0
  refine⟨hle,s1,x,fx,rfl,hx,ox,cx,?_⟩
  rw [← hg,valN_nil]
  have:=valN_nonneg cx.1
  simp
  omega
end Go.Proofs.YtmppmpceccpdlaaGreatDoor
namespace Go.Proofs.YtmppmpceccpdlaaGreatDoor
open Sx
set_option maxRecDepth 100000
theorem rNil.mk {V:Know}:rNil.R V () () []:=rfl
theorem rInt.mk {sh:List Sc} {α:Type} {r:Rp sh α} {V:Know} {c:Scs sh} {x:α} {fp:List Nat} {n:Int} (h:r.R V c x fp):(rInt r).R V (n,c) (n,x) fp:=⟨rfl,h⟩
theorem rBool.mk {sh:List Sc} {α:Type} {r:Rp sh α} {V:Know} {c:Scs sh} {x:α} {fp:List Nat} {n:Bool} (h:r.R V c x fp):(rBool r).R V (n,c) (n,x) fp:=⟨rfl,h⟩
theorem rStr.mk {sh:List Sc} {α:Type} {r:Rp sh α} {V:Know} {c:Scs sh} {x:α} {fp:List Nat} {n:ByteArray} (z:n.size≤9223372036854775807) (h:r.R V c x fp):(rStr r).R V (n,c) (n,x) fp:=⟨⟨rfl,z⟩,h⟩
theorem rSl.mk {se sh:List Sc} {α β:Type} {e:Rp se α} {r:Rp sh β} {V:Know} {s:SlV} {l:List α} {c:Scs sh} {x:β} {f g:List Nat} (hs:LR e V s l f) (h:r.R V c x g):(rSl e r).R V (s,c) (l,x) (f++g):=⟨f,g,rfl,hs,h⟩
abbrev DMoney:Type:=ByteArray × Bool × List (Int × Unit) × Unit
abbrev rMoney:Rp [.s,.b,.l] DMoney:=rStr (rBool (rSl rI (rNil)))
abbrev DAcct:Type:=ByteArray × ByteArray × Bool × List (Int × Unit) × Unit
abbrev rAcct:Rp [.s,.s,.b,.l] DAcct:=rStr (rStr (rBool (rSl rI (rNil))))
abbrev DBook:Type:=List DAcct × Unit
abbrev rBook:Rp [.l] DBook:=rSl rAcct (rNil)
abbrev DRat:Type:=Bool × List (Int × Unit) × List (Int × Unit) × Unit
abbrev rRat:Rp [.b,.l,.l] DRat:=rBool (rSl rI (rSl rI (rNil)))
abbrev DRest:Type:=ByteArray × Bool × List (Int × Unit) × List (Int × Unit) × Unit
abbrev rRest:Rp [.s,.b,.l,.l] DRest:=rStr (rBool (rSl rI (rSl rI (rNil))))
abbrev DRate:Type:=ByteArray × ByteArray × Bool × List (Int × Unit) × Int × Unit
abbrev rRate:Rp [.s,.s,.b,.l,.i .i64] DRate:=rStr (rStr (rBool (rSl rI (rInt (rNil)))))
abbrev DRates:Type:=ByteArray × List DRate × Unit
abbrev rRates:Rp [.s,.l] DRates:=rStr (rSl rRate (rNil))
abbrev DLedger:Type:=List DAcct × List DRest × ByteArray × List DRate × Unit
abbrev rLedger:Rp [.l,.l,.s,.l] DLedger:=rSl rAcct (rSl rRest (rStr (rSl rRate (rNil))))
theorem totE_rI:∀ l:List (Int × Unit),totE rI l=0
 | []=>rfl
 | _ :: l=>by rw [totE,totE_rI l]; rfl
end Go.Proofs.YtmppmpceccpdlaaGreatDoor
namespace Go.Proofs.YtmppmpceccpdlaaGreatDoor
open Sx
theorem semx_mk {P:Program} {V:Know} {t:TypeId}:SemX P V (MOp.mk t).sem (fun V' r=>∃ b,V b=none∧V'=kset V b (mapC [],(0,(1,0)))∧r=.map (some b)):=by
 intro w hw
 refine⟨_,_,_,(show(MOp.mk t).sem.run P w=.ok (.map (some w.heap.size)) (w.alloc (.map #[] 0)) from rfl),⟨rfl,rfl,rfl,by simp,fun b hb _=>heap_alloc_old w _ hb,fun b hb hn=>?_⟩,fun b c u hb=>?_,w.heap.size,hw.size_none,rfl,rfl⟩
 ·rw [kset_other (by omega)]; exact hn
 ·by_cases e:b=w.heap.size
  ·subst e
   rw [kset_same] at hb
   simp only [Option.some.injEq,Prod.mk.injEq] at hb
   obtain⟨rfl,rfl⟩:=hb
   rw [heap_alloc_new,objOf_map]
  ·rw [kset_other e] at hb
   have:=hw b c u hb
   rw [heap_alloc_old w _ (Array.getElem?_eq_some_iff.1 this).1]; exact this
theorem map_set {V:Know} {w:World} (hw:V.on w) {m k k':Nat} {es es':List MapEntry} (hV:V m=some (mapC es,(k,(1,0)))) :
  Fr V (kset V m (mapC es',(k',(1,0)))) w { w with heap:=w.heap.setIfInBounds m (.map es'.toArray k') }∧(kset V m (mapC es',(k',(1,0)))).on { w with heap:=w.heap.setIfInBounds m (.map es'.toArray k') }:=by
 have hm:=hw _ _ _ hV
 have hlt:=(Array.getElem?_eq_some_iff.1 hm).1
 have ho:∀ b,b≠m→(w.heap.setIfInBounds m (.map es'.toArray k'))[b]?=w.heap[b]?:=fun b hb=>Array.getElem?_setIfInBounds_ne (Ne.symm hb)
 refine⟨⟨rfl,rfl,rfl,by simp,fun b hb hn=>ho b (fun e=>by rw [e,hV] at hn; cases hn),fun b hb hn=>?_⟩,fun b c u hb=>?_⟩
 ·rw [kset_other (fun e=>by rw [e,hV] at hn; cases hn)]; exact hn
 ·by_cases e:b=m
  ·subst e
   rw [kset_same] at hb
   simp only [Option.some.injEq,Prod.mk.injEq] at hb
   obtain⟨rfl,rfl⟩:=hb
   rw [objOf_map]
   show(w.heap.setIfInBounds b _)[b]?=_
   rw [Array.getElem?_setIfInBounds_self_of_lt hlt]
  ·rw [kset_other e] at hb
   rw [← hw b c u hb]
   exact ho b e
structure PairTy (P:Program) (T S:TypeId):Prop where
 und:P.underlying T=some (.struct (P.fieldsOf T))
 held:P.stoodInHeld T=false
 fs:(P.fieldsOf T).toList=[(P.fieldsOf T)[0]!,(P.fieldsOf T)[1]!]
 nm : (P.fieldsOf T)[0]!.name ≠ "_" ∧ (P.fieldsOf T)[1]!.name ≠ "_"
 ty:(P.fieldsOf T)[0]!.type=S∧(P.fieldsOf T)[1]!.type=S
 off:(P.fieldsOf T)[0]!.offset=0∧(P.fieldsOf T)[1]!.offset=1
 str:P.underlying S=some .string
def pairK (p:ByteArray × ByteArray):Value:=.agg #[.string p.1,.string p.2]
theorem toL_eq (a b:ByteArray):(a.toList == b.toList)=decide (a=b):=by
 by_cases h:a=b
 ·rw [decide_eq_true h]; exact text_eq.2 h
 ·rw [decide_eq_false h]; exact text_ne.2 h
section
variable {P:Program} {T S:TypeId} (hT:PairTy P T S) (w:World)
include hT
theorem run_part0 (a b:ByteArray):(part S #[.string a,.string b] 0).run P w=.ok (.string a) w:=by
 simp [part,isAgg,run_underlying hT.str]
theorem run_part1 (a b:ByteArray):(part S #[.string a,.string b] 1).run P w=.ok (.string b) w:=by
 simp [part,isAgg,run_underlying hT.str]
theorem run_eqPair (p q:ByteArray × ByteArray):(Op.equal T (pairK p) (pairK q)).run P w=.ok (decide (p=q)) w:=by
 have h:=run_equalIn_struct w 9999 T #[.string p.1,.string p.2] #[.string q.1,.string q.2] hT.und hT.held
 show(Op.equalIn (9999+1) T _ _).run P w=_
 unfold pairK
 rw [h,hT.fs]
 have n0:=hT.nm.1
 have n1:=hT.nm.2
 have es:∀ (a b:ByteArray),(Op.equalIn 9999 S (.string a) (.string b)).run P w=.ok (decide (a=b)) w:=fun a b=>by
  rw [← toL_eq]; exact run_equalIn_string w 9998 S a b hT.str
 obtain⟨p1,p2⟩:=p
 obtain⟨q1,q2⟩:=q
 simp only [Op.eqFields,hT.ty.1,hT.ty.2,hT.off.1,hT.off.2,Sem.run_bind,run_part0 hT,Result.andThen_ok,es,ne_eq,n0,n1,not_false_eq_true,if_true]
 by_cases h1:p1=q1
 ·rw [decide_eq_true h1]
  simp only [Bool.not_true,Bool.false_eq_true,if_false,Sem.run_bind,run_part1 hT,Result.andThen_ok,es]
  by_cases h2:p2=q2
  ·rw [decide_eq_true h2]
   simp [h1,h2]
  ·rw [decide_eq_false h2]
   simp [h1,h2]
 ·rw [decide_eq_false h1]
  simp [h1]
theorem run_checkText (e:Bool) (n:Nat) (s:ByteArray):(Instr.checkKey e (n+1) S (.string s)).run P w=.ok () w:=by
 simp [Instr.checkKey,run_underlying hT.str]
theorem run_checkPairN (e:Bool) (n:Nat) (p:ByteArray × ByteArray):(Instr.checkKey e (n+1+1) T (pairK p)).run P w=.ok () w:=by
 have n0:=hT.nm.1
 have n1:=hT.nm.2
 unfold pairK
 rw [Instr.checkKey]
 simp only [Sem.run_bind,run_underlying hT.und,Result.andThen_ok]
 rw [← Array.forIn_toList,hT.fs]
 simp [hT.ty.1,hT.ty.2,hT.off.1,hT.off.2,n0,n1,run_part0 hT,run_part1 hT,run_checkText hT]
theorem run_checkPair (e:Bool) (p:ByteArray × ByteArray):(Instr.checkKey e 10000 T (pairK p)).run P w=.ok () w:=run_checkPairN hT w e 9998 p
end
def pairE (i:Nat) (p:ByteArray × ByteArray):MapEntry:=⟨pairK p,.bool true,i⟩
def pairEs:Nat→List (ByteArray × ByteArray)→List MapEntry
 | _,[]=>[]
 | i,p :: l=>pairE i p :: pairEs (i+1) l
theorem pairEs_app:∀ (l:List (ByteArray × ByteArray)) (i:Nat) (p:ByteArray × ByteArray),pairEs i (l++[p])=pairEs i l++[pairE (i+l.length) p]
 | [],i,p=>rfl
 | q :: l,i,p=>by
  show pairE i q :: pairEs (i+1) (l++[p])=_
  rw [pairEs_app l (i+1) p,List.length_cons,show i+1+l.length=i+(l.length+1) by omega]; rfl
theorem run_askPair {P:Program} {T S:TypeId} (hT:PairTy P T S) (w:World) (p:ByteArray × ByteArray):∀ (l:List (ByteArray × ByteArray)) (i j:Nat),
  ∃ o,(Instr.findAsking T (pairK p) (pairEs i l) j).run P w=.ok o w∧(p∈l→∃ k,o=some (k,.bool true))∧(p ∉ l→o=none)
 | [],i,j=>⟨none,by simp [Instr.findAsking,pairEs],(fun h=>by cases h),fun _=>rfl⟩
 | q :: l,i,j=>by
  obtain⟨o,h1,h2,h3⟩:=run_askPair hT w p l (i+1) (j+1)
  have e:=run_eqPair hT w p q
  by_cases hpq:p=q
  ·refine⟨some (j,.bool true),?_,fun _=>⟨j,rfl⟩,fun h=>absurd (by rw [hpq]; exact List.mem_cons_self) h⟩
   rw [decide_eq_true hpq] at e
   simp only [Instr.findAsking,pairEs,Sem.run_bind]
   show((Op.equal T (pairK p) (pairK q)).run P w).andThen _=_
   rw [e]
   simp [pairE]
  ·refine⟨o,?_,fun h=>h2 ((List.mem_cons.1 h).resolve_left hpq),fun h=>h3 (fun k=>h (List.mem_cons_of_mem _ k))⟩
   rw [decide_eq_false hpq] at e
   simp only [Instr.findAsking,pairEs,Sem.run_bind]
   show((Op.equal T (pairK p) (pairK q)).run P w).andThen _=_
   rw [e]
   simpa using h1
theorem run_findPair {P:Program} {T S:TypeId} (hT:PairTy P T S) (w:World) (p:ByteArray × ByteArray) (l:List (ByteArray × ByteArray)) :
  ∃ o,(Instr.findKey T (pairK p) (pairEs 0 l)).run P w=.ok o w∧(p∈l→∃ k,o=some (k,.bool true))∧(p ∉ l→o=none):=by
 obtain⟨o,h1,h2,h3⟩:=run_askPair hT w p l 0 0
 cases l with
 | nil =>
  refine⟨none,?_,(fun h=>by cases h),fun _=>rfl⟩
  simp [Instr.findKey,run_underlying hT.und,pairEs,Instr.findNow]
 | cons q l =>
  refine⟨o,?_,h2,h3⟩
  simp only [Instr.findKey,run_underlying hT.und,Sem.run_bind,Result.andThen_ok]
  have:Instr.findNow (.struct (P.fieldsOf T)) (pairK p) (pairEs 0 (q :: l)) 0=none:=rfl
  rw [this]
  exact h1
theorem semx_lkPair {P:Program} {V:Know} {M T S E m:Nat} {l:List (ByteArray × ByteArray)} (hM:P.underlying M=some (.map T E)) (hz:∀ w,(zeroValue E).run P w=.ok (.bool false) w) (hT:PairTy P T S)
  (hV:V m=some (mapC (pairEs 0 l),(l.length,(1,0)))) (p:ByteArray × ByteArray) :
  SemX P V (MOp.lk M (.map (some m)) (pairK p) false).sem (fun V' r=>V'=V∧∃ e,r=.bool e∧(e=true↔p∈l)):=by
 intro w hw
 have hm:=hw _ _ _ hV
 rw [objOf_map] at hm
 obtain⟨o,h1,h2,h3⟩:=run_findPair hT w p l
 have hg:(getObj m).run P w=.ok (.map (pairEs 0 l).toArray l.length) w:=by simp [getObj,Sem.run,hm]
 by_cases h:p∈l
 ·obtain⟨k,rfl⟩:=h2 h
  refine⟨.bool true,w,V,?_,Fr.refl V w,hw,rfl,true,rfl,⟨fun _=>h,fun _=>rfl⟩⟩
  simp [MOp.sem,Instr.lookup,run_underlying hM,hg,run_checkPair hT,h1]
 ·have:=h3 h
  subst this
  refine⟨.bool false,w,V,?_,Fr.refl V w,hw,rfl,false,rfl,⟨(fun e=>by cases e),fun e=>absurd e h⟩⟩
  simp [MOp.sem,Instr.lookup,run_underlying hM,hg,run_checkPair hT,h1,hz]
theorem semx_upPair {P:Program} {V:Know} {M T S E m:Nat} {l:List (ByteArray × ByteArray)} (hM:P.underlying M=some (.map T E)) (hT:PairTy P T S)
  (hV:V m=some (mapC (pairEs 0 l),(l.length,(1,0)))) (p:ByteArray × ByteArray) (h:p ∉ l) :
  SemX P V (MOp.up M (.map (some m)) (pairK p) (.bool true)).sem (fun V' r=>V'=kset V m (mapC (pairEs 0 (l++[p])),((l++[p]).length,(1,0)))∧r=.tuple #[]):=by
 intro w hw
 have hm:=hw _ _ _ hV
 rw [objOf_map] at hm
 have hlt:=(Array.getElem?_eq_some_iff.1 hm).1
 obtain⟨o,h1,h2,h3⟩:=run_findPair hT w p l
 have:=h3 h
 subst this
 have hg:(getObj m).run P w=.ok (.map (pairEs 0 l).toArray l.length) w:=by simp [getObj,Sem.run,hm]
 obtain⟨f1,f2⟩:=map_set (k':=(l++[p]).length) (es':=pairEs 0 (l++[p])) hw hV
 refine⟨_,_,_,?_,f1,f2,rfl,rfl⟩
 have hs:(setObj m (.map (pairEs 0 (l++[p])).toArray (l++[p]).length)).run P w=.ok () { w with heap:=w.heap.setIfInBounds m (.map (pairEs 0 (l++[p])).toArray (l++[p]).length) }:=by
  simp [setObj,Sem.run,hm]
 have e:(pairEs 0 l).toArray.push { key:=pairK p,val:=.bool true,born:=l.length }=(pairEs 0 (l++[p])).toArray:=by
  rw [pairEs_app]
  simp [pairE]
 have e2:l.length+1=(l++[p]).length:=by simp
 simp only [MOp.sem,Instr.mapUpdate,run_underlying hM,Sem.run_bind,Result.andThen_ok,hg,run_checkPair hT,h1,e,e2,hs]
 rfl
end Go.Proofs.YtmppmpceccpdlaaGreatDoor
