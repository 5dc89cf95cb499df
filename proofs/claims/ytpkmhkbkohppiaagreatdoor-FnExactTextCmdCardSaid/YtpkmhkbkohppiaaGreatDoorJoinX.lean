/-
  Texts joined, in the program and in the reference.
-/
import Derived.Test.YtpkmhkbkohppiaaGreatDoorCmdB
import Derived.Test.YtpkmhkbkohppiaaGreatDoorDecM
import Derived.Test.YtpkmhkbkohppiaaGreatDoorShelf
import Derived.Test.YtpkmhkbkohppiaaGreatDoorLedA
import Derived.Lib.Join
namespace Go.Proofs.YtpkmhkbkohppiaaGreatDoor
open Sx
set_option maxRecDepth 100000
theorem bt {p:Prop} {e:Bool} (h:e=true↔p) (k:(!e)=false):p:=h.1 (by simpa using k)
theorem bf {p:Prop} {e:Bool} (h:e=true↔p) (k:(!e)=true):¬ p:=fun q=>by rw [h.2 q] at k; cases k
theorem bf' {p:Prop} {e:Bool} (h:e=true↔p) (k:e=false):¬ p:=fun q=>by rw [h.2 q] at k; cases k
theorem eqb {p q:Prop} {e e':Bool} (h:e=true↔p) (h':e'=true↔q):(e == e')=true↔(p↔q):=by
 rw [← h,← h']
 cases e <;> cases e' <;> simp
theorem dcb {p:Prop} [Decidable p]:decide p=true↔p:=decide_eq_true_iff
theorem nei {x y:Int}:(x != y)=true↔¬ x=y:=by simp
def BP (op:Int):Prop:=op=4∨op=5∨op=7
def MP (op:Int):Prop:=2≤op∧op≤7
def OP (op:Int):Prop:=op=5∨op=7∨op=8
def S0:DCmd→Prop | (op,a,_,_,_,_,_,_,_,_,_,_,_,_,_,_,_,_,_,_)=>(1≤op∧op≤9)∧¬ (op=9↔WordP a)∧(op=9→a=noT)
def S1:DCmd→Prop | (op,_,b,c,_,_,_,_,_,_,_,_,_,_,_,_,_,_,_,_)=>(BP op↔WordP b)∧(¬ BP op→b=noT)∧(op=7↔WordP c)∧(¬ op=7→c=noT)
def S2:DCmd→Prop | (op,_,_,_,u,_,_,_,_,_,_,_,_,_,_,_,_,_,_,_)=>(op=1↔CodeP u)∧(¬ op=1→u=noT)
def S3:DCmd→Prop | (op,_,_,_,_,mc,mn,mm,_,_,_,_,_,_,_,_,_,_,_,_)=>(MP op→PayP mc mn mm)∧(¬ MP op→mc=noT∧mn=false∧mm=[])
def S4:DCmd→Prop | (op,_,_,_,_,_,_,_,mo,_,_,_,_,_,_,_,_,_,_,_)=>(OP op→ModeP mo)∧(¬ OP op→mo=0)
def S5:DCmd→Prop | (op,_,_,_,_,_,_,_,_,nm,w,_,_,_,_,_,_,_,_,_)=>(op=6→DealP nm w)∧(¬ op=6→nm=[]∧w=[])
def S6:DCmd→Prop | (op,_,_,_,_,_,_,_,_,_,_,rn,rm,rs,_,_,_,_,_,_)=>(op=7→TaxLowP rn rm rs)∧(¬ op=7→ZeroD rn rm rs)
def S7:DCmd→Prop | (op,_,_,_,_,_,_,_,_,_,_,_,_,_,pf,pt,pn,pm,ps,_)=>(op=9→RateOkP (pf,pt,pn,pm,ps,()))∧(¬ op=9→pf=noT∧pt=noT∧ZeroD pn pm ps)
def CmdS (x:DCmd):Prop:=S0 x∧S1 x∧S2 x∧S3 x∧S4 x∧S5 x∧S6 x∧S7 x
theorem word_no:¬ WordP noT:=fun h=>by have:=h.1; simp [ByteArray.size] at this
theorem code_no:¬ CodeP noT:=fun h=>by have:=h.1; simp [ByteArray.size] at this
theorem fields_mem (op:Int):(0<(fieldsL op).length↔1≤op∧op≤9)∧((0,())∈fieldsL op↔1≤op∧op≤8)∧((1,())∈fieldsL op↔BP op)∧((2,())∈fieldsL op↔op=7)∧((3,())∈fieldsL op↔op=1) ∧
  ((4,())∈fieldsL op↔MP op)∧((5,())∈fieldsL op↔op=6)∧((6,())∈fieldsL op↔op=7)∧((7,())∈fieldsL op↔OP op)∧((8,())∈fieldsL op↔op=9):=by
 unfold BP MP OP
 by_cases h:1≤op∧op≤9
 ·have:op=1∨op=2∨op=3∨op=4∨op=5∨op=6∨op=7∨op=8∨op=9:=by omega
  rcases this with rfl | rfl | rfl | rfl | rfl | rfl | rfl | rfl | rfl <;> simp [fieldsL]
 ·have e:fieldsL op=[]:=by
   unfold fieldsL
   rw [if_neg (by omega),if_neg (by omega),if_neg (by omega),if_neg (by omega),if_neg (by omega),if_neg (by omega),if_neg (by omega),if_neg (by omega),if_neg (by omega)]
  rw [e]
  simp
  omega
theorem sw {B W E:Prop} (h:E→¬ W):((B↔W)∧(¬ B→E))↔((B→W)∧(¬ B→E)):=by
 constructor
 ·exact fun k=>⟨k.1.1,k.2⟩
 ·exact fun k=>⟨⟨k.1,fun w=>Classical.byContradiction fun b=>h (k.2 b) w⟩,k.2⟩
theorem cmd_iff (x:DCmd):CmdS x↔CmdP x:=by
 obtain⟨op,a,b,c,u,mc,mn,mm,mo,nm,w,rn,rm,rs,pf,pt,pn,pm,ps,y⟩:=x
 obtain⟨m0,m1,m2,m3,m4,m5,m6,m7,m8,m9⟩:=fields_mem op
 have all:∀ (Q:Int→Prop),(∀ j:Nat,j<9→Q j)↔Q 0∧Q 1∧Q 2∧Q 3∧Q 4∧Q 5∧Q 6∧Q 7∧Q 8:=by
  intro Q
  constructor
  ·exact fun h=>⟨h 0 (by omega),h 1 (by omega),h 2 (by omega),h 3 (by omega),h 4 (by omega),h 5 (by omega),h 6 (by omega),h 7 (by omega),h 8 (by omega)⟩
  ·rintro⟨h0,h1,h2,h3,h4,h5,h6,h7,h8⟩ j hj
   have:j=0∨j=1∨j=2∨j=3∨j=4∨j=5∨j=6∨j=7∨j=8:=by omega
   rcases this with rfl | rfl | rfl | rfl | rfl | rfl | rfl | rfl | rfl
   ·exact h0
   ·exact h1
   ·exact h2
   ·exact h3
   ·exact h4
   ·exact h5
   ·exact h6
   ·exact h7
   ·exact h8
 unfold CmdP
 rw [all fun j=>Chk _ j]
 have wb:b=noT→¬ WordP b:=fun e=>by rw [e]; exact word_no
 have wc:c=noT→¬ WordP c:=fun e=>by rw [e]; exact word_no
 have wa:a=noT→¬ WordP a:=fun e=>by rw [e]; exact word_no
 have wu:u=noT→¬ CodeP u:=fun e=>by rw [e]; exact code_no
 have r1:=sw (B:=BP op) wb
 have r2:=sw (B:=op=7) wc
 have r3:=sw (B:=op=1) wu
 constructor
 ·rintro⟨⟨k0,k1,k2⟩,⟨k3,k4,k5,k6⟩,k7,k8,k9,k10,k11,k12⟩
  have q1:=r1.1 ⟨k3,k4⟩
  have q2:=r2.1 ⟨k5,k6⟩
  have q3:=r3.1 k7
  refine⟨m0.2 k0,⟨fun h=>?_,fun h=>?_⟩,⟨fun h=>q1.1 (m2.1 h),fun h=>q1.2 fun k=>h (m2.2 k)⟩,⟨fun h=>q2.1 (m3.1 h),fun h=>q2.2 fun k=>h (m3.2 k)⟩,⟨fun h=>q3.1 (m4.1 h),fun h=>q3.2 fun k=>h (m4.2 k)⟩,
   ⟨fun h=>k8.1 (m5.1 h),fun h=>k8.2 fun k=>h (m5.2 k)⟩,⟨fun h=>k10.1 (m6.1 h),fun h=>k10.2 fun k=>h (m6.2 k)⟩,⟨fun h=>k11.1 (m7.1 h),fun h=>k11.2 fun k=>h (m7.2 k)⟩,⟨fun h=>k9.1 (m8.1 h),fun h=>k9.2 fun k=>h (m8.2 k)⟩,⟨fun h=>k12.1 (m9.1 h),fun h=>k12.2 fun k=>h (m9.2 k)⟩⟩
  ·have h1:=m1.1 h
   show WordP a
   exact Classical.byContradiction fun hw=>k1 ⟨fun e=>by omega,fun w=>absurd w hw⟩
  ·show a=noT
   refine k2 (Classical.byContradiction fun e=>h (m1.2 ?_))
   have:op≠9:=e
   omega
 ·rintro⟨k0,g0,g1,g2,g3,g4,g5,g6,g7,g8⟩
  have h0:=m0.1 k0
  have q1:=r1.2 ⟨fun h=>g1.1 (m2.2 h),fun h=>g1.2 fun k=>h (m2.1 k)⟩
  have q2:=r2.2 ⟨fun h=>g2.1 (m3.2 h),fun h=>g2.2 fun k=>h (m3.1 k)⟩
  have q3:=r3.2 ⟨fun h=>g3.1 (m4.2 h),fun h=>g3.2 fun k=>h (m4.1 k)⟩
  have a9:op=9→a=noT:=fun e=>g0.2 fun k=>by have:=m1.1 k; omega
  refine⟨⟨h0,fun e=>?_,a9⟩,⟨q1.1,q1.2,q2.1,q2.2⟩,q3,⟨fun h=>g4.1 (m5.2 h),fun h=>g4.2 fun k=>h (m5.1 k)⟩,⟨fun h=>g7.1 (m8.2 h),fun h=>g7.2 fun k=>h (m8.1 k)⟩,
   ⟨fun h=>g5.1 (m6.2 h),fun h=>g5.2 fun k=>h (m6.1 k)⟩,⟨fun h=>g6.1 (m7.2 h),fun h=>g6.2 fun k=>h (m7.1 k)⟩,⟨fun h=>g8.1 (m9.2 h),fun h=>g8.2 fun k=>h (m9.1 k)⟩⟩
  by_cases h9:op=9
  ·exact wa (a9 h9) (e.1 h9)
  ·exact h9 (e.2 (g0.1 (m1.2 (by omega))))
theorem cS_CmdOk {V:Know} (hV:HtS V):∀ (c:Scs [.i .i64,.s,.s,.s,.s,.s,.b,.l,.i .i64,.l,.l,.b,.l,.i .i64,.s,.s,.b,.l,.i .i64]) (x:DCmd) (fp:List Nat) (_:rCmd.R V c x fp) (_:rCmd.tot x≤33554432),CallX Tryz.prog V 20 [qv3 c] (OkPost V (CmdS x)):=by
 rintro⟨c0,c1,c2,c3,c4,c5,c6,c7,c8,c9,c10,c11,c12,c13,c14,c15,c16,c17,c18,cu⟩ ⟨x0,x1,x2,x3,x4,x5,x6,x7,x8,x9,x10,x11,x12,x13,x14,x15,x16,x17,x18,xu⟩ fp hx htot
 obtain⟨ec0,hx⟩:=hx
 replace ec0:c0=x0:=ec0
 subst ec0
 obtain⟨⟨ec1,zc1⟩,hx⟩:=hx
 replace ec1:c1=x1:=ec1
 subst ec1
 replace zc1:c1.size≤9223372036854775807:=zc1
 obtain⟨⟨ec2,zc2⟩,hx⟩:=hx
 replace ec2:c2=x2:=ec2
 subst ec2
 replace zc2:c2.size≤9223372036854775807:=zc2
 obtain⟨⟨ec3,zc3⟩,hx⟩:=hx
 replace ec3:c3=x3:=ec3
 subst ec3
 replace zc3:c3.size≤9223372036854775807:=zc3
 obtain⟨⟨ec4,zc4⟩,hx⟩:=hx
 replace ec4:c4=x4:=ec4
 subst ec4
 replace zc4:c4.size≤9223372036854775807:=zc4
 obtain⟨⟨ec5,zc5⟩,hx⟩:=hx
 replace ec5:c5=x5:=ec5
 subst ec5
 replace zc5:c5.size≤9223372036854775807:=zc5
 obtain⟨ec6,hx⟩:=hx
 replace ec6:c6=x6:=ec6
 subst ec6
 obtain⟨f7,fr7,ec7,sc7,hx⟩:=hx
 subst ec7
 replace sc7:LR rI _ c7 x7 f7:=sc7
 obtain⟨ec8,hx⟩:=hx
 replace ec8:c8=x8:=ec8
 subst ec8
 obtain⟨f9,fr9,ec9,sc9,hx⟩:=hx
 subst ec9
 replace sc9:LR rString _ c9 x9 f9:=sc9
 obtain⟨f10,fr10,ec10,sc10,hx⟩:=hx
 subst ec10
 replace sc10:LR rI _ c10 x10 f10:=sc10
 obtain⟨ec11,hx⟩:=hx
 replace ec11:c11=x11:=ec11
 subst ec11
 obtain⟨f12,fr12,ec12,sc12,hx⟩:=hx
 subst ec12
 replace sc12:LR rI _ c12 x12 f12:=sc12
 obtain⟨ec13,hx⟩:=hx
 replace ec13:c13=x13:=ec13
 subst ec13
 obtain⟨⟨ec14,zc14⟩,hx⟩:=hx
 replace ec14:c14=x14:=ec14
 subst ec14
 replace zc14:c14.size≤9223372036854775807:=zc14
 obtain⟨⟨ec15,zc15⟩,hx⟩:=hx
 replace ec15:c15=x15:=ec15
 subst ec15
 replace zc15:c15.size≤9223372036854775807:=zc15
 obtain⟨ec16,hx⟩:=hx
 replace ec16:c16=x16:=ec16
 subst ec16
 obtain⟨f17,fr17,ec17,sc17,hx⟩:=hx
 subst ec17
 replace sc17:LR rI _ c17 x17 f17:=sc17
 obtain⟨ec18,hx⟩:=hx
 replace ec18:c18=x18:=ec18
 subst ec18
 replace hx:_=[]:=hx
 subst hx
 replace htot:(c1.size+(c2.size+(c3.size+(c4.size+(c5.size+(x7.length+totE rI x7+(x9.length+totE rString x9+(x10.length+totE rI x10+(x12.length+totE rI x12+(c14.size+(c15.size+(x17.length+totE rI x17+0))))))))))))≤33554432:=htot
 refine CallX.of_fits Tryz.mix (fS_CmdOk _) fun _=>?_
 simp only [tS_CmdOk,T.wp]
 refine(cS_l22Has V c0).mono ?_
 rintro V1 _ ⟨rfl,rfl⟩
 refine⟨nofun,(decide (c0=4∨c0=5∨c0=7),decide (c0=7),decide (2≤c0∧c0≤7),decide (c0=5∨c0=7∨c0=8),()),rfl,?_⟩
 have dB:decide (c0=4∨c0=5∨c0=7)=true↔BP c0:=dcb
 have dM:decide (2≤c0∧c0≤7)=true↔MP c0:=dcb
 have dO:decide (c0=5∨c0=7∨c0=8)=true↔OP c0:=dcb
 have d7:decide (c0=7)=true↔c0=7:=dcb
 refine⟨fun _ V'=>V1.le V'∧S0 (c0,c1,c2,c3,c4,c5,c6,x7,c8,x9,x10,c11,x12,c13,c14,c15,c16,x17,c18,xu),?_,?_⟩
 ·refine(cS_l22Op V1 c0).mono ?_
  rintro V2 r ⟨rfl,e,rfl,he⟩
  refine⟨fun _=>Know.le.refl _,e,rfl,fun hf=>not_ok0 fun k=>bf he hf k.1.1,fun ht=>(cS_IsWord V2 c1 zc1).mono ?_⟩
  rintro V3 r ⟨rfl,e3,rfl,he3⟩
  refine⟨fun _=>Know.le.refl _,e3,rfl,fun h=>not_ok0 fun k=>k.1.2.1 ((eqb beq_iff_eq he3).1 h),fun h=>?_⟩
  have q:=bf' (eqb beq_iff_eq he3) h
  refine⟨fun h9=>⟨fun hn=>not_ok0 fun k=>bf text_eq hn (k.1.2.2 (beq_iff_eq.1 h9)),fun hn=>⟨_,rfl,(),rfl,Know.le.refl _,bt he ht,q,fun _=>bt text_eq hn⟩⟩,fun h9=>⟨_,rfl,(),rfl,Know.le.refl _,bt he ht,q,fun e=>absurd e (bf' beq_iff_eq h9)⟩⟩
 rintro _ W0 ⟨le0,s0⟩
 refine⟨fun _ V'=>V1.le V'∧S1 (c0,c1,c2,c3,c4,c5,c6,x7,c8,x9,x10,c11,x12,c13,c14,c15,c16,x17,c18,xu),?_,?_⟩
 ·refine(cS_IsWord W0 c2 zc2).mono ?_
  rintro V4 r ⟨rfl,e4,rfl,he4⟩
  refine⟨nofun,e4,rfl,fun h=>not_ok le0 fun k=>bf (eqb dB he4) h k.2.1.1,fun h=>?_⟩
  have q4:=bt (eqb dB he4) h
  refine⟨fun hnb=>⟨fun hn=>not_ok le0 fun k=>bf text_eq hn (k.2.1.2.1 (bf dB hnb)),fun hn=>?_⟩,fun hnb=>?_⟩
  ·have qb:¬ BP c0→c2=noT:=fun _=>bt text_eq hn
   refine(cS_IsWord V4 c3 zc3).mono ?_
   rintro V5 r ⟨rfl,e5,rfl,he5⟩
   refine⟨nofun,e5,rfl,fun h=>not_ok le0 fun k=>bf (eqb d7 he5) h k.2.1.2.2.1,fun h=>?_⟩
   have q5:=bt (eqb d7 he5) h
   exact⟨fun hn7=>⟨fun hn=>not_ok le0 fun k=>bf text_eq hn (k.2.1.2.2.2 (bf d7 hn7)),fun hn=>⟨_,rfl,(),rfl,le0,q4,qb,q5,fun _=>bt text_eq hn⟩⟩,fun hn7=>⟨_,rfl,(),rfl,le0,q4,qb,q5,fun e=>absurd (bt d7 hn7) e⟩⟩
  ·have qb:¬ BP c0→c2=noT:=fun e=>absurd (bt dB hnb) e
   refine(cS_IsWord V4 c3 zc3).mono ?_
   rintro V5 r ⟨rfl,e5,rfl,he5⟩
   refine⟨nofun,e5,rfl,fun h=>not_ok le0 fun k=>bf (eqb d7 he5) h k.2.1.2.2.1,fun h=>?_⟩
   have q5:=bt (eqb d7 he5) h
   exact⟨fun hn7=>⟨fun hn=>not_ok le0 fun k=>bf text_eq hn (k.2.1.2.2.2 (bf d7 hn7)),fun hn=>⟨_,rfl,(),rfl,le0,q4,qb,q5,fun _=>bt text_eq hn⟩⟩,fun hn7=>⟨_,rfl,(),rfl,le0,q4,qb,q5,fun e=>absurd (bt d7 hn7) e⟩⟩
 rintro _ W1 ⟨le1,s1⟩
 refine⟨fun _ V'=>V1.le V'∧S2 (c0,c1,c2,c3,c4,c5,c6,x7,c8,x9,x10,c11,x12,c13,c14,c15,c16,x17,c18,xu),?_,?_⟩
 ·refine(cS_IsCode W1 c4 zc4).mono ?_
  rintro V4 r ⟨rfl,e4,rfl,he4⟩
  refine⟨fun _=>Know.le.refl _,e4,rfl,fun h=>not_ok le1 fun k=>bf (eqb beq_iff_eq he4) h k.2.2.1.1,fun h=>?_⟩
  have q4:=bt (eqb beq_iff_eq he4) h
  exact⟨fun h1=>⟨fun hn=>not_ok le1 fun k=>bf text_eq hn (k.2.2.1.2 (nei.1 h1)),fun hn=>⟨_,rfl,(),rfl,le1,q4,fun _=>bt text_eq hn⟩⟩,fun h1=>⟨_,rfl,(),rfl,le1,q4,fun e=>absurd e (bf' nei h1)⟩⟩
 rintro _ W2 ⟨le2,s2⟩
 refine⟨fun _ V'=>V1.le V'∧S3 (c0,c1,c2,c3,c4,c5,c6,x7,c8,x9,x10,c11,x12,c13,c14,c15,c16,x17,c18,xu),?_,?_⟩
 ·refine⟨fun hm=>(cS_l21Money (V:=W2) trivial c5 c6 c7 x7 f7 (sc7.le le2)).mono ?_,fun hm=>⟨fun hnm=>?_,fun hnm=>absurd (bt dM hnm) (bf' dM hm)⟩⟩
  ·rintro V4 r ⟨le4,e4,rfl,he4⟩
   have l4:=le2.trans le4
   refine⟨nofun,e4,rfl,fun h=>not_ok l4 fun k=>bf he4 h (k.2.2.2.1.1 (dM.1 hm)),fun h=>⟨fun hnm=>absurd (dM.1 hm) (bf dM hnm),fun _=>⟨_,rfl,(),rfl,l4,fun _=>bt he4 h,fun e=>absurd (dM.1 hm) e⟩⟩⟩
  ·have qn:=bf dM hnm
   refine⟨fun hc=>not_ok le2 fun k=>bf text_eq hc (k.2.2.2.1.2 qn).1,fun hc=>⟨fun hb=>not_ok le2 fun k=>?_,fun hb=>⟨fun hl=>not_ok le2 fun k=>?_,fun hl=>⟨_,rfl,(),rfl,le2,fun e=>absurd e qn,fun _=>⟨bt text_eq hc,hb,?_⟩⟩⟩⟩⟩
   ·have hk:=(k.2.2.2.1.2 qn).2.1
    have hb':c6=true:=hb
    rw [hb'] at hk; cases hk
   ·have hk:=(slen_nil sc7).2 (k.2.2.2.1.2 qn).2.2
    have:(c7.n:Int) > 0:=of_decide_eq_true hl
    omega
   ·have:¬ (c7.n:Int) > 0:=of_decide_eq_false hl
    exact(slen_nil sc7).1 (by omega)
 rintro _ W3 ⟨le3,s3⟩
 refine⟨fun _ V'=>V1.le V'∧S4 (c0,c1,c2,c3,c4,c5,c6,x7,c8,x9,x10,c11,x12,c13,c14,c15,c16,x17,c18,xu),?_,?_⟩
 ·refine⟨fun hm=>(cS_l06Mode W3 c8).mono ?_,fun hm=>⟨fun hnm=>?_,fun hnm=>absurd (bt dO hnm) (bf' dO hm)⟩⟩
  ·rintro V4 r ⟨rfl,e4,rfl,he4⟩
   refine⟨nofun,e4,rfl,fun h=>not_ok le3 fun k=>bf he4 h (k.2.2.2.2.1.1 (dO.1 hm)),fun h=>⟨fun hnm=>absurd (dO.1 hm) (bf dO hnm),fun _=>⟨_,rfl,(),rfl,le3,fun _=>bt he4 h,fun e=>absurd (dO.1 hm) e⟩⟩⟩
  ·have qn:=bf dO hnm
   exact⟨fun h0=>not_ok le3 fun k=>nei.1 h0 (k.2.2.2.2.1.2 qn),fun h0=>⟨_,rfl,(),rfl,le3,fun e=>absurd e qn,fun _=>Classical.byContradiction fun e=>bf' nei h0 e⟩⟩
 rintro _ W4 ⟨le4,s4⟩
 refine⟨fun _ V'=>V1.le V'∧S5 (c0,c1,c2,c3,c4,c5,c6,x7,c8,x9,x10,c11,x12,c13,c14,c15,c16,x17,c18,xu),?_,?_⟩
 ·refine⟨fun h6=>(cS_l22Weights W4 c9 c10 x9 x10 f9 f10 (sc9.le le4) (sc10.le le4)).mono ?_,fun h6=>⟨fun hn6=>?_,fun hn6=>absurd (Classical.byContradiction fun e=>bf' nei hn6 e) (bf' beq_iff_eq h6)⟩⟩
  ·have q6:c0=6:=beq_iff_eq.1 h6
   rintro V5 r ⟨rfl,e5,rfl,he5⟩
   refine⟨nofun,e5,rfl,fun h=>not_ok le4 fun k=>bf he5 h (k.2.2.2.2.2.1.1 q6),fun h=>⟨fun hn6=>absurd q6 (nei.1 hn6),fun _=>⟨_,rfl,(),rfl,le4,fun _=>bt he5 h,fun e=>absurd q6 e⟩⟩⟩
  ·have qn:¬ c0=6:=nei.1 hn6
   have z9:=sc9.1
   have z10:=sc10.1
   have w9:x9.length≤33554432:=by omega
   have w10:x10.length≤33554432:=by omega
   have ew:IntKind.i64.wrap ((c9.n:Int)+(c10.n:Int))=(c9.n:Int)+(c10.n:Int):=wrap_i64 (by omega)
   refine⟨fun hl=>not_ok le4 fun k=>?_,fun hl=>⟨_,rfl,(),rfl,le4,fun e=>absurd e qn,fun _=>?_⟩⟩
   ·have hk:=k.2.2.2.2.2.1.2 qn
    have k1:=(slen_nil sc9).2 hk.1
    have k2:=(slen_nil sc10).2 hk.2
    have h:=of_decide_eq_true hl
    rw [ew] at h
    omega
   ·have h:=of_decide_eq_false hl
    rw [ew] at h
    exact⟨(slen_nil sc9).1 (by omega),(slen_nil sc10).1 (by omega)⟩
 rintro _ W5 ⟨le5,s5⟩
 refine⟨fun _ V'=>V1.le V'∧S6 (c0,c1,c2,c3,c4,c5,c6,x7,c8,x9,x10,c11,x12,c13,c14,c15,c16,x17,c18,xu),?_,?_⟩
 ·refine⟨fun h7=>(cS_TaxRateOk W5 c11 c12 x12 f12 c13 (sc12.le le5)).mono ?_,fun h7=>⟨fun hn7=>(cS_l22Zero W5 c11 c12 c13 x12 f12 (sc12.le le5)).mono ?_,fun hn7=>absurd (bt d7 hn7) (bf' d7 h7)⟩⟩
  ·have q7:=d7.1 h7
   rintro V6 r ⟨le6,e6,rfl,he6⟩
   have l6:=le5.trans le6
   refine⟨fun _=>le6,e6,rfl,fun h=>not_ok l6 fun k=>bf he6 h (k.2.2.2.2.2.2.1.1 q7).1,fun h=>?_⟩
   have hT:=bt he6 h
   refine(cS_DecLow V6 c11 c12 x12 f12 c13 (sc12.le l6) hT.1).mono ?_
   rintro V7 _ ⟨le7,y,t7,f7',rfl,L7,_,hL⟩
   have l7:=l6.trans le7
   refine⟨fun _=>le7,(y.1,t7,y.2.2.1,()),rfl,(cS_DecText (V:=V7) trivial y.1 t7 y.2.2.1 y.2.1 f7' L7).mono ?_⟩
   rintro V8 _ ⟨le8,rfl⟩
   have l8:=l7.trans le8
   refine⟨fun _=>le8,_,rfl,(cS_DecText (V:=V8) trivial c11 c12 c13 x12 f12 (sc12.le l8)).mono ?_⟩
   rintro V9 _ ⟨le9,rfl⟩
   have l9:=l8.trans le9
   have oky:=low_ok hL
   rw [okT_pos oky,okT_pos hT.1]
   refine⟨fun _=>le9,_,rfl,fun hne=>not_ok l9 fun k=>?_,fun heq=>?_⟩
   ·have hlow:=low_inj hL (k.2.2.2.2.2.2.1.1 q7).2
    rw [hlow] at hne
    exact bf text_eq hne rfl
   ·have ht:=bt text_eq heq
    have es:=decT_scale oky.1.1.1.1 hT.1.1.1.1.1 oky.2.2.1 oky.2.2.2 hT.1.2.2.1 hT.1.2.2.2 ht
    have hself:=low_self hL es
    rw [hself] at hL
    exact⟨fun hn7=>absurd q7 (bf d7 hn7),fun _=>⟨_,rfl,(),rfl,l9,fun _=>⟨hT,hL⟩,fun e=>absurd q7 e⟩⟩
  ·have qn:=bf d7 hn7
   rintro V6 r ⟨rfl,e6,rfl,he6⟩
   exact⟨fun _=>Know.le.refl _,e6,rfl,fun h=>not_ok le5 fun k=>bf he6 h (k.2.2.2.2.2.2.1.2 qn),fun h=>⟨_,rfl,(),rfl,le5,fun e=>absurd e qn,fun _=>bt he6 h⟩⟩
 rintro _ W6 ⟨le6,s6⟩
 refine⟨fun _ V'=>V1.le V'∧¬ c0=9,?_,?_⟩
 ·refine⟨fun h9=>(cS_RateOk (V:=W6) trivial (c14,c15,c16,x17,c18,()) c17 f17 (sc17.le le6)).mono ?_,fun h9=>⟨_,rfl,(),rfl,le6,bf' beq_iff_eq h9⟩⟩
  have q9:c0=9:=beq_iff_eq.1 h9
  rintro V7 r ⟨le7,e7,rfl,he7⟩
  exact⟨nofun,e7,rfl,le6.trans le7,e7,rfl,⟨fun k=>⟨s0,s1,s2,s3,s4,s5,s6,fun _=>he7.1 k,fun e=>absurd q9 e⟩,fun k=>he7.2 (k.2.2.2.2.2.2.2.1 q9)⟩⟩
 rintro _ W7 ⟨le7,q9⟩
 refine⟨fun hf=>⟨fun ht=>(cS_l22Zero W7 c16 c17 c18 x17 f17 (sc17.le le7)).mono ?_,fun ht=>not_ok le7 fun k=>text_ne.1 ht (k.2.2.2.2.2.2.2.2 q9).2.1⟩,fun hf=>not_ok le7 fun k=>text_ne.1 hf (k.2.2.2.2.2.2.2.2 q9).1⟩
 rintro V8 r ⟨rfl,e8,rfl,he8⟩
 exact⟨nofun,e8,rfl,le7,e8,rfl,⟨fun k=>⟨s0,s1,s2,s3,s4,s5,s6,fun e=>absurd e q9,fun _=>⟨text_eq.1 hf,text_eq.1 ht,he8.1 k⟩⟩,fun k=>he8.2 (k.2.2.2.2.2.2.2.2 q9).2.2⟩⟩
end Go.Proofs.YtpkmhkbkohppiaaGreatDoor
namespace Go.Proofs.YtpkmhkbkohppiaaGreatDoor
open Sx Go.RowKit
set_option maxRecDepth 100000
def places (x:ByteArray):Int:=(curRowOf x).2.2.1
theorem places_bd (x:ByteArray):0≤places x∧places x≤4:=by
 unfold places curRowOf
 cases h:curFrom curI x 0 with
 | none=>exact⟨by decide,by decide⟩
 | some r =>
  have hm:r∈curI:=List.mem_of_find?_eq_some h
  have:∀ r∈curI,0≤r.2.2.1∧r.2.2.1≤4:=by decide +kernel
  exact this r hm
theorem known_size {x:ByteArray} (h:known x=true):x.size=3:=by
 unfold known at h
 cases h2:curFrom curI x 0 with
 | none=>rw [h2] at h; cases h
 | some r =>
  have hm:r∈curI:=List.mem_of_find?_eq_some h2
  have hx:(r.1.toList == x.toList)=true:=List.find?_some (p:=curHas x) h2
  have:∀ r∈curI,r.1.size=3:=by decide +kernel
  rw [← text_eq.1 hx]
  exact this r hm
theorem cS_CurPlaces {V:Know} (_:HtS V) (x:ByteArray):CallX Tryz.prog V 84 [.string x] (fun V' r=>V.le V'∧r=.int .i64 (places x)):=by
 refine CallX.of_fits Tryz.mix (fS_CurPlaces _) fun _=>?_
 simp only [tS_CurPlaces,T.wp]
 refine(cS_l08Find V x).mono ?_
 rintro V1 _ ⟨le1,rfl⟩
 exact⟨nofun,curRowOf x,rfl,le1,rfl⟩
theorem cI_CurPlaces {V:Know} (hV:HtI V) (x:ByteArray):CallX Tryz.prog V 159 [.string x] (fun V' r=>V.le V'∧r=.int .i64 (places x)):=by
 refine CallX.of_fits Tryz.mix (fI_CurPlaces _) fun _=>?_
 simp only [tI_CurPlaces,T.wp]
 refine(cI_currencyOf hV.1 x).mono ?_
 rintro V1 _ ⟨rfl,rfl⟩
 exact⟨nofun,(curRowOf x,known x,()),rfl,Know.le.refl _,rfl⟩
noncomputable def moneyT (cur:ByteArray) (neg:Bool) (l:List Lim):ByteArray:=(cur++(⟨#[32]⟩:ByteArray))++decT neg l (places cur)
def rateT (r:DRate):ByteArray:=(((r.1++(⟨#[32]⟩:ByteArray))++r.2.1)++(⟨#[32]⟩:ByteArray))++decT r.2.2.1 r.2.2.2.1 r.2.2.2.2.1
theorem moneyT_size {cur:ByteArray} {neg:Bool} {l:List Lim} (h:MoneyOkP cur neg l):(moneyT cur neg l).size≤2200:=by
 have h1:=decT_size (neg:=neg) (sc:=places cur) h.2.1.1.1.1
 have h2:=known_size h.1
 have l1:=h.2.2
 unfold moneyT
 rw [ByteArray.size_append,ByteArray.size_append]
 show _+1+_≤_
 omega
theorem rateT_size {r:DRate} (h:RateOkP r):(rateT r).size≤2200:=by
 have h1:=decT_size (neg:=r.2.2.1) (sc:=r.2.2.2.2.1) h.2.2.2.1.1.1.1.1
 have h2:=known_size h.1
 have h3:=known_size h.2.1
 have l1:=h.2.2.2.1.2.1
 unfold rateT
 rw [ByteArray.size_append,ByteArray.size_append,ByteArray.size_append,ByteArray.size_append]
 show _+1+_+1+_≤_
 omega
theorem cS_MoneyOkH {V:Know} (_:HtS V) (c0:ByteArray) (c1:Bool) (c2:SlV) (l:List Lim) (f:List Nat) (h:LR rI V c2 l f):CallX Tryz.prog V 83 [qv2 (c0,c1,c2,())] (fun V' r=>V.le V'∧∃ e,r=.bool e∧(e=true↔MoneyOkP c0 c1 l)):=cS_MoneyOk c0 c1 c2 l f h
theorem cI_MoneyOkH {V:Know} (hV:HtI V) (c0:ByteArray) (c1:Bool) (c2:SlV) (l:List Lim) (f:List Nat) (h:LR rI V c2 l f):CallX Tryz.prog V 139 [qv2 (c0,c1,c2,())] (fun V' r=>V.le V'∧∃ e,r=.bool e∧(e=true↔MoneyOkP c0 c1 l)):=cI_MoneyOk hV.1 c0 c1 c2 l f h
theorem cS_MoneyText {V:Know} (hV:HtS V) (c0:ByteArray) (c1:Bool) (c2:SlV) (l:List Lim) (f:List Nat) (h:LR rI V c2 l f) (hz:c0.size≤1048576) :
  CallX Tryz.prog V 50 [qv2 (c0,c1,c2,())] (TxPost V (okT (MoneyOkP c0 c1 l) (moneyT c0 c1 l))):=by
 refine CallX.of_fits Tryz.mix (fS_MoneyText _) fun _=>?_
 simp only [tS_MoneyText,T.wp]
 refine(cS_MoneyOkH hV c0 c1 c2 l f h).mono ?_
 rintro V1 r ⟨le1,e,rfl,he⟩
 refine⟨nofun,e,rfl,fun hf=>⟨le1,by rw [okT_neg (fun k=>by rw [he.2 k] at hf; cases hf)]; rfl⟩,fun ht=>?_⟩
 have ok:=he.1 (by simpa using ht)
 rw [okT_pos ok]
 refine⟨by show ByteArray.size c0+1≤_; omega,(cS_CurPlaces (hV.le le1) c0).mono ?_⟩
 rintro V2 _ ⟨le2,rfl⟩
 have l2:=le1.trans le2
 have hp:=places_bd c0
 refine⟨fun _=>le2,_,rfl,(cS_DecText (hV.le l2) c1 c2 (places c0) l f (h.le l2)).mono ?_⟩
 rintro V3 _ ⟨le3,rfl⟩
 have dok:DecOkP c1 l (places c0):=⟨ok.2.1,by have:=ok.2.2; omega,hp.1,by omega⟩
 rw [okT_pos dok]
 have hs:=decT_size (neg:=c1) (sc:=places c0) ok.2.1.1.1.1
 have h4:=ok.2.2
 refine⟨fun _=>le3,_,rfl,?_,l2.trans le3,rfl⟩
 rw [ByteArray.size_append]
 show ByteArray.size c0+1+(decT c1 l (places c0)).size≤_
 omega
theorem cS_RateText {V:Know} (hV:HtS V) (x:DRate) (s:SlV) (f:List Nat) (h:LR rI V s x.2.2.2.1 f) :
  CallX Tryz.prog V 48 [qv4 (x.1,x.2.1,x.2.2.1,s,x.2.2.2.2.1,())] (TxPost V (okT (RateOkP x) (rateT x))):=by
 refine CallX.of_fits Tryz.mix (fS_RateText _) fun _=>?_
 simp only [tS_RateText,T.wp]
 refine(cS_RateOk hV.c x s f h).mono ?_
 rintro V1 r ⟨le1,e,rfl,he⟩
 refine⟨nofun,e,rfl,fun hf=>⟨le1,by rw [okT_neg (fun k=>by rw [he.2 k] at hf; cases hf)]; rfl⟩,fun ht=>?_⟩
 have ok:=he.1 (by simpa using ht)
 rw [okT_pos ok]
 have k1:=known_size ok.1
 have k2:=known_size ok.2.1
 have hs:=decT_size (neg:=x.2.2.1) (sc:=x.2.2.2.2.1) ok.2.2.2.1.1.1.1.1
 have h4:=ok.2.2.2.1.2.1
 refine⟨by show ByteArray.size x.1+1≤_; omega,?_,?_,?_⟩
 ·rw [ByteArray.size_append]
  show ByteArray.size x.1+1+ByteArray.size x.2.1≤_
  omega
 ·rw [ByteArray.size_append,ByteArray.size_append]
  show ByteArray.size x.1+1+ByteArray.size x.2.1+1≤_
  omega
 refine(cS_DecText (hV.le le1) x.2.2.1 s x.2.2.2.2.1 x.2.2.2.1 f (h.le le1)).mono ?_
 rintro V3 _ ⟨le3,rfl⟩
 rw [okT_pos ok.2.2.2.1]
 refine⟨fun _=>le3,_,rfl,?_,le1.trans le3,rfl⟩
 rw [ByteArray.size_append,ByteArray.size_append,ByteArray.size_append]
 show ByteArray.size x.1+1+ByteArray.size x.2.1+1+(decT x.2.2.1 x.2.2.2.1 x.2.2.2.2.1).size≤_
 omega
theorem cI_MoneyText {V:Know} (hV:HtI V) (c0:ByteArray) (c1:Bool) (c2:SlV) (l:List Lim) (f:List Nat) (h:LR rI V c2 l f) (hz:c0.size≤1048576) :
  CallX Tryz.prog V 128 [qv2 (c0,c1,c2,())] (TxPost V (okT (MoneyOkP c0 c1 l) (moneyT c0 c1 l))):=by
 refine CallX.of_fits Tryz.mix (fI_MoneyText _) fun _=>?_
 simp only [tI_MoneyText,T.wp]
 refine(cI_MoneyOkH hV c0 c1 c2 l f h).mono ?_
 rintro V1 r ⟨le1,e,rfl,he⟩
 refine⟨nofun,e,rfl,fun hf=>⟨le1,by rw [okT_neg (fun k=>by rw [he.2 k] at hf; cases hf)]; rfl⟩,fun ht=>?_⟩
 have ok:=he.1 (by simpa using ht)
 rw [okT_pos ok]
 refine⟨by show ByteArray.size c0+1≤_; omega,(cI_CurPlaces (hV.le le1) c0).mono ?_⟩
 rintro V2 _ ⟨le2,rfl⟩
 have l2:=le1.trans le2
 have hp:=places_bd c0
 refine⟨fun _=>le2,_,rfl,(cI_DecText (hV.le l2) c1 c2 (places c0) l f (h.le l2)).mono ?_⟩
 rintro V3 _ ⟨le3,rfl⟩
 have dok:DecOkP c1 l (places c0):=⟨ok.2.1,by have:=ok.2.2; omega,hp.1,by omega⟩
 rw [okT_pos dok]
 have hs:=decT_size (neg:=c1) (sc:=places c0) ok.2.1.1.1.1
 have h4:=ok.2.2
 refine⟨fun _=>le3,_,rfl,?_,l2.trans le3,rfl⟩
 rw [ByteArray.size_append]
 show ByteArray.size c0+1+(decT c1 l (places c0)).size≤_
 omega
end Go.Proofs.YtpkmhkbkohppiaaGreatDoor
namespace Go.Proofs.YtpkmhkbkohppiaaGreatDoor
open Sx
set_option maxRecDepth 100000
abbrev Tx:Type:=ByteArray × Unit
def bytesL (l:List Tx):List (List UInt8):=l.map fun x=>x.1.data.toList
def joinT (l:List Tx) (by':ByteArray):ByteArray:=⟨(Go.Lib.join (bytesL l) by'.data.toList).toArray⟩
def sumT (l:List Tx):Nat:=Go.Lib.lens (bytesL l)
theorem ba_mk (x:ByteArray):(⟨x.data.toList.toArray⟩:ByteArray)=x:=by simp
theorem joinT_one (x:Tx) (b:ByteArray):joinT [x] b=x.1:=by
 unfold joinT bytesL
 rw [List.map_cons,List.map_nil,Go.Lib.join_one]
theorem joinT_snoc {l:List Tx} (h:l≠[]) (x:Tx) (b:ByteArray):joinT (l++[x]) b=joinT l b++b++x.1:=by
 cases l with
 | nil=>exact absurd rfl h
 | cons a r =>
  have e:Go.Lib.join (bytesL (a :: r++[x])) b.data.toList=Go.Lib.join (bytesL (a :: r)) b.data.toList++b.data.toList++x.1.data.toList:=by
   unfold bytesL
   rw [List.cons_append,List.map_cons,List.map_cons,Go.Lib.join_cons,Go.Lib.join_cons,List.map_append]
   simp [Go.Lib.joinTail]
  unfold joinT
  rw [e,← ba_append,← ba_append,ba_mk,ba_mk]
theorem sumT_nil:sumT []=0:=rfl
theorem sumT_snoc (l:List Tx) (x:Tx):sumT (l++[x])=sumT l+x.1.size:=by
 unfold sumT bytesL Go.Lib.lens
 rw [List.map_append,List.map_append,List.sum_append]
 simp
theorem sumT_cons (l:List Tx) (x:Tx):sumT (x :: l)=x.1.size+sumT l:=by
 unfold sumT bytesL Go.Lib.lens
 simp
theorem sumT_take (l:List Tx) (k:Nat):sumT (l.take k)≤sumT l:=by
 unfold sumT bytesL
 rw [List.map_take]
 exact Go.Lib.lens_take_le _ _
theorem sumT_le {B:Nat}:∀ (l:List Tx),(∀ x∈l,x.1.size≤B)→sumT l≤B*l.length
 | [],_=>Nat.le_refl _
 | x :: l,h=>by
  have h1:=sumT_le l fun y hy=>h y (by simp [hy])
  have h2:=h x (by simp)
  rw [sumT_cons,List.length_cons,Nat.mul_add]
  omega
theorem joinT_size (l:List Tx) (b:ByteArray):(joinT l b).size≤sumT l+l.length*b.size:=by
 cases l with
 | nil=>exact Nat.zero_le _
 | cons a r =>
  have e:(joinT (a :: r) b).size=(Go.Lib.join (bytesL (a :: r)) b.data.toList).length:=by
   show(Go.Lib.join (bytesL (a :: r)) b.data.toList).toArray.size=_
   simp
  rw [e]
  unfold bytesL
  rw [List.map_cons,Go.Lib.join_length,List.length_map,List.length_cons]
  have h1:b.data.toList.length=b.size:=by
   show b.data.toList.length=b.data.size
   simp
  have h2:sumT (a :: r)=Go.Lib.lens (a.1.data.toList :: List.map (fun x=>x.1.data.toList) r):=rfl
  rw [h1,h2,Nat.add_mul,Nat.mul_comm r.length]
  omega
end Go.Proofs.YtpkmhkbkohppiaaGreatDoor
namespace Go.Proofs.YtpkmhkbkohppiaaGreatDoor
open Sx Go.RowKit
set_option maxRecDepth 100000
def cellT (x:Tx):Value:=.string x.1
theorem els_txt {V:Know}:∀ o:List Tx,(∀ x∈o,x.1.size≤9223372036854775807)→Els rString V o o []
 | [],_=>rfl
 | x :: o,h=>⟨[],[],rfl,⟨⟨rfl,h x (by simp)⟩,rfl⟩,els_txt o fun y hy=>h y (by simp [hy])⟩
theorem els_txt_eq {V:Know}:∀ {cs l:List Tx} {f:List Nat},Els rString V cs l f→cs=l∧f=[]
 | [],[],_,h=>⟨rfl,h⟩
 | (c,()) :: cs,(x,()) :: l,_,⟨f,g,rfl,h1,h2⟩=>by
  obtain⟨rfl,rfl⟩:=els_txt_eq h2
  have e1:c=x:=h1.1.1
  have e2:f=[]:=h1.2
  subst e1; subst e2
  exact⟨rfl,rfl⟩
theorem flat_txt:∀ o:List Tx,o.flatMap (Scs.vals [.s])=o.map cellT
 | []=>rfl
 | x :: o=>by rw [List.flatMap_cons,flat_txt o]; rfl
theorem newT {V:Know} {b cap:Nat} {o:List Tx} {spare:List Value} {t:TypeId} (hb:V b=none) (hc:o.length≤cap) (hl:o.length≤9223372036854775807) (hz:∀ x∈o,x.1.size≤9223372036854775807) :
  LR rString (kset V b (o.map cellT++spare,(t,(0,0)))) ⟨some ⟨b,0,none⟩,o.length,cap⟩ o [b]∧Own V (kset V b (o.map cellT++spare,(t,(0,0)))) [b]:=by
 refine⟨⟨rfl,hc,hl,.inr ⟨b,[],spare,(t,(0,0)),[],o,rfl,?_,els_txt o hz,rfl⟩⟩,by simp,?_,?_⟩
 ·rw [kset_same,flat_txt]; rfl
 ·intro b' hb'; simp at hb'; subst hb'; exact hb
 ·intro b' hb'; simp at hb'; subst hb'; exact⟨_,_,kset_same⟩
theorem take_ne {l:List Tx} {k:Nat} (h0:0<k) (h:k≤l.length):l.take k≠[]:=by
 intro e
 have:(l.take k).length=0:=by rw [e]; rfl
 rw [List.length_take] at this
 omega
theorem cS_Join (V:Know) (s:SlV) (l:List Tx) (f:List Nat) (b:ByteArray) (h:LR rString V s l f) (hs:sumT l+l.length*b.size≤1099511627776) :
  CallX Tryz.prog V 14 [Sc.val .l s,.string b] (fun V' r=>V'=V∧r=.string (joinT l b)):=by
 refine CallX.of_fits Tryz.mix (fS_Join _ _) fun _=>?_
 simp only [tS_Join,T.wp]
 have hn:=h.1
 have h63:=h.2.2.1
 have hsz:∀ k,k≤l.length→(joinT (l.take k) b).size≤1099511627776:=by
  intro k hk
  have h1:=joinT_size (l.take k) b
  have h2:=sumT_take l k
  have h3:(l.take k).length*b.size≤l.length*b.size:=Nat.mul_le_mul_right _ (by rw [List.length_take]; omega)
  omega
 refine⟨fun y V'=>V'=V∧∃ i:Nat,y.2.1=(i:Int)∧i≤l.length∧y.1=joinT (l.take i) b,fun y=>((l.length:Int)-(y.2.1:Int)).toNat,⟨(⟨#[]⟩,(0:Int),()),rfl,rfl,0,rfl,by omega,rfl⟩,?_⟩
 rintro⟨(t:ByteArray),(i:Int),u⟩ V' ⟨rfl,k,hk,hkl,ht⟩
 replace hk:i=(k:Int):=hk
 replace ht:t=joinT (l.take k) b:=ht
 subst hk ht
 refine⟨fun hlt=>?_,fun hge=>?_⟩
 ·have h1:k<l.length:=by
   have:(k:Int)<(s.n:Int):=of_decide_eq_true hlt
   omega
  obtain⟨⟨bk,o,a1,l1⟩,z1⟩:=h.txt h1
  have e1:l.take (k+1)=l.take k++[l[k]]:=List.take_succ_eq_append_getElem h1
  have s1:=hsz (k+1) (by omega)
  have s0:=hsz k (by omega)
  have fin:∀ t:ByteArray,t=joinT (l.take (k+1)) b→∃ N,([fun vs V''=>∃ y',vs=LShs.lvs [.o (.o .s),.o (.o (.i .i64))] y'∧(V''=V'∧∃ i:Nat,y'.2.1=(i:Int)∧i≤l.length∧y'.1=joinT (l.take i) b)∧((l.length:Int)-(y'.2.1:Int)).toNat<((l.length:Int)-(k:Int)).toNat]:List (List LV→Know→Prop))[0]?=some N∧N [.v (.string t),.v (.int .i64 (IntKind.i64.wrap ((k:Int)+1)))] V':=by
   intro t ht
   refine⟨_,rfl,(t,((k+1:Nat):Int),()),by rw [nxt h1 (by omega)]; rfl,⟨rfl,k+1,rfl,h1,ht⟩,?_⟩
   show((l.length:Int)-((k+1:Nat):Int)).toNat<((l.length:Int)-(k:Int)).toNat
   omega
  refine⟨_,a1,(by omega:(0:Int)≤(k:Int)),(by omega:(k:Int)<(s.n:Int)),l[k].1,l1,fun hp=>?_,fun hz=>?_⟩
  ·have hp':(k:Int) > 0:=of_decide_eq_true hp
   rw [e1,joinT_snoc (take_ne (by omega) (by omega)),ByteArray.size_append,ByteArray.size_append] at s1
   refine⟨?_,?_,fin _ ?_⟩
   ·show(joinT (l.take k) b).size+b.size≤_
    omega
   ·show(joinT (l.take k) b++b).size+l[k].1.size≤_
    rw [ByteArray.size_append]
    omega
   ·rw [e1,joinT_snoc (take_ne (by omega) (by omega))]
  ·have hz':¬ (k:Int) > 0:=of_decide_eq_false hz
   obtain rfl:k=0:=by omega
   rw [e1] at s1
   have e2:joinT (List.take 0 l++[l[0]]) b=l[0].1:=joinT_one _ _
   rw [e2] at s1
   refine⟨?_,fin _ ?_⟩
   ·show(joinT (l.take 0) b).size+l[0].1.size≤_
    omega
   ·rw [e1,e2]
    exact ba_empty_append _
 ·have h1:k=l.length:=by
   have:¬ (k:Int)<(s.n:Int):=of_decide_eq_false hge
   omega
  subst h1
  refine⟨rfl,?_⟩
  rw [List.take_length]
  rfl
theorem txt_obj {pre post:List Value} {cs:List Tx} {t:KTy} {x:Tx} (hx:x∈cs):objOf (pre++(cs.map cellT++post)) t=.cells (pre++(cs.map cellT++post)).toArray t.1 t.2:=by
 unfold objOf
 split
 ·rename_i es he
  exfalso
  have hm:cellT x∈pre++(cs.map cellT++post):=List.mem_append.2 (.inr (List.mem_append.2 (.inl (List.mem_map_of_mem hx))))
  rw [he] at hm
  simp [cellT] at hm
 ·rfl
theorem cI_SJoin (V:Know) (s:SlV) (l:List Tx) (f:List Nat) (b:ByteArray) (h:LR rString V s l f) (hs:sumT l+l.length*b.size≤1099511627776) (hl:l.length≤1099511627776) :
  CallX Tryz.prog V 70 [Sc.val .l s,.string b] (fun V' r=>V'=V∧r=.string (joinT l b)):=by
 have he:Sx.Enters Tryz.prog 70:=⟨_,Tryz.func70,by kernel_rfl,by kernel_rfl⟩
 obtain⟨hn,hc,h63,⟨h0,_,_⟩ | ⟨bk,pre,post,t,fps,cs,ha,hV,hE,_⟩⟩:=h
 ·have:l=[]:=List.eq_nil_of_length_eq_zero (by omega)
  subst this
  refine CallX.of_calls he fun w _=>?_
  have k:=Tryz.strings_Join_none s.a s.c b w
  have e:([Sc.val .l s,.string b]:List Value).toArray=#[.slice s.a 0 s.c,.string b]:=by
   show #[Value.slice s.a s.n s.c,_]=_
   rw [h0]
  rw [e]
  refine k.mono ?_
  rintro e w' ⟨rfl,rfl⟩
  exact⟨rfl,Below.refl _ _⟩
 ·obtain⟨rfl,_⟩:=els_txt_eq hE
  rw [flat_txt] at hV
  by_cases hemp:cs=[]
  ·subst hemp
   refine CallX.of_calls he fun w _=>?_
   have k:=Tryz.strings_Join_none s.a s.c b w
   have h0:s.n=0:=hn
   have e:([Sc.val .l s,.string b]:List Value).toArray=#[.slice s.a 0 s.c,.string b]:=by
    show #[Value.slice s.a s.n s.c,_]=_
    rw [h0]
   rw [e]
   refine k.mono ?_
   rintro e w' ⟨rfl,rfl⟩
   exact⟨rfl,Below.refl _ _⟩
  refine CallX.of_calls he fun w hw=>?_
  have hw':=hw _ _ _ hV
  obtain⟨x0,hx0⟩:∃ x,x∈cs:=List.exists_mem_of_ne_nil cs hemp
  rw [txt_obj hx0] at hw'
  have hlt:bk<w.heap.size:=(Array.getElem?_eq_some_iff.1 hw').1
  have hj:=joinT_size cs b
  have hlen:(Go.Lib.join ((cs.map (·.1)).map (·.data.toList)) b.data.toList).length≤140737488355328:=by
   have e:(joinT cs b).size=(Go.Lib.join ((cs.map (·.1)).map (·.data.toList)) b.data.toList).length:=by
    show(Go.Lib.join (bytesL cs) b.data.toList).toArray.size=_
    rw [List.map_map]
    simp [bytesL]
    rfl
   rw [← e]
   omega
  have k:=Tryz.strings_Join bk pre.length s.c (cs.map (·.1)) b w (fun j x hx=>?_) hlt (by rw [List.length_map]; omega) (by rw [List.length_map]; omega) hlen
  ·have e:([Sc.val .l s,.string b]:List Value).toArray=#[.slice (some ⟨bk,pre.length,none⟩) (cs.map (·.1)).length s.c,.string b]:=by
    show #[Value.slice s.a s.n s.c,_]=_
    rw [ha,hn,List.length_map]
   rw [e]
   refine k.mono ?_
   rintro e w' ⟨rfl,hb⟩
   refine⟨?_,hb⟩
   have:joinT cs b=⟨(Go.Lib.join ((cs.map (·.1)).map (·.data.toList)) b.data.toList).toArray⟩:=by
    unfold joinT bytesL
    rw [List.map_map]
    rfl
   rw [this]
  ·unfold World.cell?
   rw [hw']
   have hjl:j<cs.length:=by
    by_cases q:j<cs.length
    ·exact q
    ·rw [List.getElem?_eq_none (by rw [List.length_map]; omega)] at hx; cases hx
   have hx':cs[j].1=x:=by
    rw [List.getElem?_map,List.getElem?_eq_getElem hjl] at hx
    simpa using hx
   have q:(pre++(cs.map cellT++post))[pre.length+j]?=some (.string x):=by
    rw [List.getElem?_append_right (by omega),Nat.add_sub_cancel_left,List.getElem?_append_left (by rw [List.length_map]; exact hjl),List.getElem?_map,List.getElem?_eq_getElem hjl]
    show some (Value.string cs[j].1)=_
    rw [hx']
   simpa using q
theorem cI_Join (V:Know) (s:SlV) (l:List Tx) (f:List Nat) (b:ByteArray) (h:LR rString V s l f) (hs:sumT l+l.length*b.size≤1099511627776) (hl:l.length≤1099511627776) :
  CallX Tryz.prog V 27 [Sc.val .l s,.string b] (fun V' r=>V'=V∧r=.string (joinT l b)):=by
 refine CallX.of_fits Tryz.mix (fI_Join _ _) fun _=>?_
 simp only [tI_Join,T.wp]
 refine(cI_SJoin V s l f b h hs hl).mono ?_
 rintro V1 r ⟨rfl,rfl⟩
 exact⟨nofun,_,rfl,by trivial,rfl⟩
end Go.Proofs.YtpkmhkbkohppiaaGreatDoor
