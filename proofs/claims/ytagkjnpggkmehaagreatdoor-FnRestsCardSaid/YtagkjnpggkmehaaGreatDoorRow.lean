/-
  What a law's row asks for; the table of currencies as the row lists it.
-/
import Derived.Test.YtagkjnpggkmehaaGreatDoorCuF
import Derived.Test.YtagkjnpggkmehaaGreatDoorLoopT
import Derived.Test.YtagkjnpggkmehaaGreatDoorStr
import Derived.Test.YtagkjnpggkmehaaGreatDoorMapT
import Derived.Test.YtagkjnpggkmehaaGreatDoorRead
import Derived.Test.YtagkjnpggkmehaaGreatDoorRows
import Derived.ProofKit
import Derived.Carry
import Derived.ChangeOld
import Derived.ChangeMaps5
import Derived.Lib.LaidTab
import Derived.KernelRfl
namespace Go.Proofs.YtagkjnpggkmehaaGreatDoor
open Sx
set_option maxRecDepth 100000
abbrev RatE (V0:Know) (b:Nat) (s:SlV) (V:Know):Know→Value→Prop:=fun V' r=>Dx V0 b s V V'∧∃ c x g,r=qv0 c∧rRat.R V' c x g∧(∀ y∈g,y≠b)∧RatOkP x.1 x.2.1 x.2.2.1∧x.2.1.length≤5∧x.2.2.1.length≤5
theorem nat_gr {V:Know} {b cap:Nat} {cs:List Value} {o:List Lim} (hb:V b=some (cs,((3:TypeId),((0,0):Nat × Nat)))) (hcs:cs.length=cap) (h:LR rI V ⟨some ⟨b,0,none⟩,o.length,cap⟩ o [b]):GR rI 3 V ⟨some ⟨b,0,none⟩,o.length,cap⟩ o [b]:=by
 obtain⟨h1,h2,h3,h4⟩:=h
 refine⟨h1,h2,.inr ?_⟩
 rcases h4 with ⟨_,_,k⟩ | ⟨b',pre,post,t,fps,cs',ha,hk,he,hf⟩
 ·cases k
 ·have e1:(⟨b,0,none⟩:Addr)=⟨b',pre.length,none⟩:=Option.some.inj ha
  obtain⟨rfl,e2,_⟩:=Addr.mk.inj e1
  have e3:pre=[]:=List.eq_nil_of_length_eq_zero e2.symm
  subst e3
  rw [hb] at hk
  obtain⟨e4,rfl⟩:=Prod.mk.inj (Option.some.inj hk)
  refine⟨b,fps,cs',post,rfl,by rw [hb,e4]; rfl,?_,he,hf⟩
  have e5:=he.len
  have e6:∀ l:List (Scs [.i .i64]),(l.flatMap (Scs.vals [.i .i64])).length=l.length:=fun l=>by
   induction l with
   | nil=>rfl
   | cons a l ih=>rw [List.flatMap_cons,List.length_append,ih,List.length_cons]; show 1+_=_; omega
  rw [e4] at hcs
  have e7:(cs'.flatMap (Scs.vals [.i .i64])++post).length=cap:=hcs
  rw [List.length_append,e6] at e7
  show post.length=(cap-o.length)*1
  omega
theorem cS_l05Draw2 {V0 V:Know} {b:Nat} {s:SlV} (hc:Cx V0 b s V):CallX Tryz.prog V 100 [.pointer (some ⟨b,0,none⟩),.int .i64 2] (RatE V0 b s V):=by
 refine CallX.of_fits Tryz.mix (fS_l05Draw _ _) fun _=>?_
 simp only [tS_l05Draw,ap_d,T.wp]
 refine(cS_l04Draw hc 2 (by decide) (by decide)).mono ?_
 rintro V1 _ ⟨d1,e,t,o,g,rfl,L1,hg,ok1,n1⟩
 refine⟨nofun,(e,t,()),rfl,(cS_l01Below d1.1 12).mono ?_⟩
 rintro V2 _ ⟨d2,x,rfl,x0,x1,_⟩
 have hx:=x1 (by omega)
 refine⟨nofun,x,rfl,?_⟩
 rw [wrap_i64 (n:=1+x) (by omega)]
 refine(cS_NatOf V2 (1+x) ⟨by omega,by omega⟩).mono ?_
 rintro V3 _ ⟨le3,s3,o3,f3,rfl,L3,O3,C3,v3,n3⟩
 refine⟨nofun,s3,rfl,(cS_l01Once (d2.1.le le3) 3).mono ?_⟩
 rintro V4 _ ⟨d4,e4,rfl⟩
 have d14:=(d2.trans (d2.1.dx le3)).trans d4
 have d04:=d1.trans d14
 have fb:∀ {g:List Nat},(∀ y∈g,y≠b)→∀ y∈g,y ∉ [b]:=fun h y hy=>by simpa using h y hy
 -- what follows once the divisor is there
 have fin:∀ {V5:Know} (u:SlV) (d:List Lim) (f5:List Nat),Dx V0 b s V V5→Dx V0 b s V1 V5→LR rI V5 u d f5→Can d→0<valN d→d.length≤5 →
   CallX Tryz.prog V5 179 [qv1 (e,t,()),qv1 (false,u,())] (fun V6 r=>V5.le V6∧Dx V0 b s V V6∧∃ c x ok g,r=.tuple #[qv0 c,.bool ok]∧rRat.R V6 c x g∧(∀ y∈g,y≠b)∧(ok=true→RatOkP x.1 x.2.1 x.2.2.1∧x.2.1.length≤5∧x.2.2.1.length≤5)):=by
  intro V5 u d f5 d5 d15 L5 C5 p5 n5
  refine(cS_RatMakeP V5 e t u o d g f5 (L1.but (fb hg) d15.2) L5 ok1 C5 p5 (by omega)).mono ?_
  rintro V6 _ ⟨le6,c6,x6,ok6,g6,rfl,R6,O6,hx6⟩
  exact⟨le6,d5.trans (d5.1.dx le6),c6,x6,ok6,g6,rfl,R6,fun y hy=>by simpa using own_off d5.1 O6 y hy,fun h=>⟨redS_ok p5 hx6 h,by subst h; exact redS_wide p5 hx6 5 5 (by rw [sval_abs ok1.1.1.1]; exact(lim_bd ok1.1.1.1 n1).2) (lim_bd C5.1 n5).2⟩⟩
 have zero:∀ {V6:Know},Dx V0 b s V V6→CallX Tryz.prog V6 160 [] (fun V' r=>(false=true→V6.le V')∧∃ y,r=Sh.val (.v (.g [.b,.l,.l])) y∧RatE V0 b s V V' (packed [qv0 y])):=by
  intro V6 d6
  refine(cS_RatZero V6).mono ?_
  rintro V7 _ ⟨le7,c,g7,rfl,R7,h7⟩
  exact⟨nofun,c,rfl,d6.trans (d6.1.dx le7),c,nought,g7,rfl,R7,fun y hy=>d6.1.some (h7 y hy),nought_ok,by decide,by decide⟩
 refine⟨nofun,e4,rfl,fun _=>?_,fun _=>?_⟩
 ·rw [show IntKind.i64.wrap ((2:Int)-1)=1 from by decide]
  refine(cS_l02Nat d4.1 1 (by decide) (by decide)).mono ?_
  rintro V5 _ ⟨d5,b3,cap,cs,o5,rfl,hb3,hcs,L5,hne,hV4,C5,n5⟩
  refine⟨nofun,_,rfl,(cS_l01Below d5.1 999).mono ?_⟩
  rintro V6 _ ⟨d6,w,rfl,w0,w1,_⟩
  have hw:=w1 (by omega)
  refine⟨nofun,w,rfl,rfl,rfl,?_⟩
  rw [wrap_i64 (n:=1+w) (by omega)]
  have hb6:V6 b3=some (cs,(3,(0,0))):=d6.2 _ _ (by simpa using hne) hb3
  have L6:LR rI V6 ⟨some ⟨b3,0,none⟩,o5.length,cap⟩ o5 [b3]:=L5.but (by simpa using hne) d6.2
  have G:=nat_gr hb6 hcs L6
  have hO:Own (mask b3 V6) V6 ([b3]++[]):=⟨by simp,fun y hy=>by
   obtain rfl:y=b3:=by simpa using hy
   exact mask_none,fun y hy=>by
   obtain rfl:y=b3:=by simpa using hy
   exact⟨_,_,hb6⟩⟩
  refine ap_row (sh:=[.i .i64]) (c:=((1+w,()):Lim)) (x:=(1+w,())) G ⟨rfl,rfl⟩ hO (mask_le _ _) (by kernel_rfl) (by omega) (by omega) fun s7 V7 f7 G7 O7 le7=>?_
  have cx7:Cx V0 b s V7:=by
   obtain⟨h1,h2,⟨i,k,hi,hb⟩,h3⟩:=d6.1
   refine⟨fun k x hk=>?_,h2,⟨i,k,hi,le7 _ _ (by rw [mask_else (Ne.symm hne)]; exact hb)⟩,h3⟩
   refine le7 _ _ ?_
   rw [mask_else]
   ·exact h1 k x hk
   ·rintro rfl
    have:=d04.1.1 _ x hk
    rw [hV4] at this; cases this
  have but7:∀ {W:Know},W b3=none→LeBut [b] W V6→LeBut [b] W V7:=fun hn h k x hk hx=>le7 _ _ (by
   rw [mask_else (fun e=>by rw [e,hn] at hx; cases hx)]
   exact h k x hk hx)
  have n1b:V1 b3=none:=by
   cases hv:V1 b3 with
   | none=>rfl
   | some y =>
    have:=d14.2 b3 y (by simpa using hne) hv
    rw [hV4] at this; cases this
  have n0b:V b3=none:=by
   cases hv:V b3 with
   | none=>rfl
   | some y =>
    have:=d1.2 b3 y (by simpa using hne) hv
    rw [n1b] at this; cases this
  have d7:Dx V0 b s V V7:=⟨cx7,but7 n0b ((d04.trans d5).trans d6).2⟩
  have d17:Dx V0 b s V1 V7:=⟨cx7,but7 n1b ((d14.trans d5).trans d6).2⟩
  have C7:Can (o5++[((1+w,()):Lim)]):=⟨lims_snoc C5.1 (by show 0≤1+w∧1+w<_; omega),.inr (by
   rw [List.length_append,show o5.length+[((1+w,()):Lim)].length-1=o5.length from rfl,limb_snoc]
   show 1+w≠0; omega)⟩
  refine(fin s7 _ f7 d7 d17 (G7.lr (by simp; omega)) C7 ((can_pos C7).1 (by simp)) (by simp; omega)).mono ?_
  rintro V8 _ ⟨le8,d8,c8,x8,ok8,g8,rfl,R8,hg8,h8⟩
  refine⟨nofun,(c8,ok8,()),rfl,fun _=>zero d8,fun hf=>⟨d8,c8,x8,g8,rfl,R8,hg8,(h8 (by simpa using hf)).1,(h8 (by simpa using hf)).2⟩⟩
 ·have L4:=(L3.le (Know.le.refl _)).but (fun y hy=>by simpa using own_off d2.1 O3 y hy) d4.2
  have p3:0<valN o3:=by omega
  refine(fin s3 o3 f3 d04 d14 L4 C3 p3 (by omega)).mono ?_
  rintro V8 _ ⟨le8,d8,c8,x8,ok8,g8,rfl,R8,hg8,h8⟩
  refine⟨nofun,(c8,ok8,()),rfl,fun _=>zero d8,fun hf=>⟨d8,c8,x8,g8,rfl,R8,hg8,(h8 (by simpa using hf)).1,(h8 (by simpa using hf)).2⟩⟩
theorem bd_nil:Bd 0 []:=⟨fun _=>rfl,fun x hx=>by cases hx⟩
theorem cS_l19Draw {V0 V:Know} {b:Nat} {s:SlV} (hc:Cx V0 b s V):CallX Tryz.prog V 44 [.pointer (some ⟨b,0,none⟩)] (fun V' r=>Dx V0 b s V V'∧∃ t l f,r=Sc.val .l t∧LR rRest V' t l f∧(∀ y∈f,y≠b)∧RestsOkP l∧Bd 3 l):=by
 refine CallX.of_fits Tryz.mix (fS_l19Draw _) fun _=>?_
 simp only [tS_l19Draw,T.wp]
 have fb:∀ {g:List Nat},(∀ y∈g,y≠b)→∀ y∈g,y ∉ [b]:=fun h y hy=>by simpa using h y hy
 have hS:∀ V:Know,HcS V:=fun _=>trivial
 refine(cS_l01Below hc 4).mono ?_
 rintro V1 _ ⟨d1,x,rfl,x0,x1,_⟩
 have hx:=x1 (by omega)
 refine⟨nofun,x,rfl,fun b2 c2 sp hb2 hc2 _=>?_⟩
 have le2:=kset_le (x:=(([]:List Value)++sp,((reT:TypeId),((0,0):Nat × Nat)))) hb2
 have d2:=d1.trans (d1.1.dx le2)
 refine⟨fun y V'=>∃ (j k:Nat) (t:SlV) (l:List DRest) (f:List Nat),(y.2.1:Int)=(j:Int)∧j+k≤3∧y.1=t∧Dx V0 b s V V'∧LR rRest V' t l f∧(∀ z∈f,z≠b)∧RestsOkP l∧Bd k l,fun y _=>(y.2.1:Int).toNat,
  ⟨(⟨some ⟨b2,0,none⟩,0,c2⟩,x,()),rfl,x.toNat,0,_,[],[],(by show x=_; omega),by omega,rfl,d2,⟨rfl,Nat.zero_le _,Nat.zero_le _,.inl ⟨rfl,(fun h=>by cases h),rfl⟩⟩,(fun _ h=>by cases h),rests_nil,bd_nil⟩,?_⟩
 rintro⟨y1,(i:Int),yu⟩ V4 ⟨j,k,t,l,f,hi,hjk,e1,d4,L,hf,ok,hb⟩
 replace hi:i=(j:Int):=hi
 replace e1:y1=t:=e1
 subst hi e1
 refine⟨fun hgt=>?_,fun _=>⟨d4,y1,l,f,rfl,L,hf,ok,?_⟩⟩
 rotate_left
 ·exact⟨fun e=>(by omega),fun z hz=>by
   obtain⟨p,q⟩:=hb.2 z hz
   exact⟨by omega,by omega⟩⟩
 have jpos:0<j:=by
  have:(j:Int) > 0:=of_decide_eq_true hgt
  omega
 have hw:IntKind.i64.wrap ((j:Int)-1)=((j-1:Nat):Int):=by rw [wrap_i64 (by omega)]; omega
 have hm:((j-1:Nat):Int).toNat<(j:Int).toNat:=by omega
 refine(cS_l08Cur d4.1).mono ?_
 rintro V5 _ ⟨d5,n,rfl,kn⟩
 refine⟨nofun,n,rfl,(cS_l05Draw2 d5.1).mono ?_⟩
 rintro V6 _ ⟨d6,c6,x6,g6,rfl,R6,hg6,ok6,n6,m6⟩
 have d46:=d5.trans d6
 have d06:=d4.trans d46
 refine⟨nofun,c6,rfl,?_⟩
 refine(cS_RestAdd (hS V6) y1 l f (L.but (fb hf) d46.2) ok n kn c6 x6 g6 R6 ok6).mono ?_
 rintro V7 _ ⟨le7,t7,l7,f7,e7,rfl,L7,fr7,kq⟩
 have d07:=d06.trans (d06.1.dx le7)
 refine⟨nofun,(t7,e7,()),rfl,fun ht=>⟨_,rfl,(t7,((j-1:Nat):Int),()),by rw [hw]; rfl,⟨j-1,k+1,t7,l7,f7,rfl,by omega,rfl,d07,L7,fun z hz=>d06.1.some (fr7 z hz),keepQ_ok kq ok kn ok6,?_⟩,hm⟩,
  fun _=>⟨_,rfl,(y1,((j-1:Nat):Int),()),by rw [hw]; rfl,⟨j-1,k,y1,l,f,rfl,by omega,rfl,d07,(L.but (fb hf) d46.2).le le7,hf,ok,hb⟩,hm⟩⟩
 obtain rfl:e7=true:=ht
 exact addR_bd ok hb ok6 n6 m6 (by omega) kq
theorem cS_MakeRests (V:Know) (s:SlV) (l:List (Int × Unit)) (f:List Nat) (h:LR rBy V s l f):CallX Tryz.prog V 12 [Sc.val .l s]
  (fun V' r=>V.le V'∧∃ t x g,r=Sc.val .l t∧LR rRest V' t x g∧RestsOkP x∧Bd 3 x):=by
 refine CallX.of_fits Tryz.mix (fS_MakeRests _) fun _=>?_
 simp only [tS_MakeRests,T.wp]
 refine(cS_l01New V s l f h).mono ?_
 rintro V1 _ ⟨le1,b,rfl,hb,c1⟩
 refine⟨nofun,_,rfl,(cS_l19Draw c1).mono ?_⟩
 rintro V2 _ ⟨d2,t,x,g,rfl,R2,_,ok,bd⟩
 exact⟨nofun,t,rfl,d2.1.1,t,x,g,rfl,R2,ok,bd⟩
end Go.Proofs.YtagkjnpggkmehaaGreatDoor
namespace Go.Proofs.YtagkjnpggkmehaaGreatDoor
open Sx
set_option maxRecDepth 100000
theorem cI_sameInts:EqSC Tryz.prog 106 rI:=fun _ s s' _ _ _ _ h h'=>CallX.of_fits Tryz.mix (fI_sameInts s s') fun _=>tEqI_wp h h'
theorem cI_intSame:EqC Tryz.prog 105 rSigned:=by
 rintro V ⟨c0,c1,cu⟩ ⟨d0,d1,du⟩ ⟨x0,x1,xu⟩ ⟨y0,y1,yu⟩ f f' hx hy
 obtain⟨ec0,hx⟩:=hx
 replace ec0:c0=x0:=ec0
 subst ec0
 obtain⟨f1,fr1,ec1,sc1,hx⟩:=hx
 subst ec1
 replace sc1:LR rI _ c1 x1 f1:=sc1
 replace hx:_=[]:=hx
 subst hx
 obtain⟨ed0,hy⟩:=hy
 replace ed0:d0=y0:=ed0
 subst ed0
 obtain⟨g1,gr1,ed1,sd1,hy⟩:=hy
 subst ed1
 replace sd1:LR rI _ d1 y1 g1:=sd1
 replace hy:_=[]:=hy
 subst hy
 refine CallX.of_fits Tryz.mix (fI_intSame _ _) fun _=>?_
 simp only [tI_intSame,T.wp]
 refine⟨fun h0=>?_,fun h=>⟨by trivial,false,rfl,⟨(fun h=>by cases h),(fun e=>by cases e; simp at h)⟩⟩⟩
 refine(cI_sameInts _ _ _ _ _ _ _ sc1 sd1).mono ?_
 rintro V1 r ⟨rfl,b1,rfl,hb1⟩
 refine⟨nofun,b1,rfl,by trivial,b1,rfl,⟨fun h1=>?_,fun e=>by cases e; exact hb1.2 rfl⟩⟩
 have q0:c0=d0:=by simpa using h0
 subst q0
 have q1:x1=y1:=hb1.1 h1
 cases q1
 rfl
theorem cI_ratSame:EqC Tryz.prog 51 rRat:=by
 rintro V ⟨c0,c1,c2,cu⟩ ⟨d0,d1,d2,du⟩ ⟨x0,x1,x2,xu⟩ ⟨y0,y1,y2,yu⟩ f f' hx hy
 obtain⟨ec0,hx⟩:=hx
 replace ec0:c0=x0:=ec0
 subst ec0
 obtain⟨f1,fr1,ec1,sc1,hx⟩:=hx
 subst ec1
 replace sc1:LR rI _ c1 x1 f1:=sc1
 obtain⟨f2,fr2,ec2,sc2,hx⟩:=hx
 subst ec2
 replace sc2:LR rI _ c2 x2 f2:=sc2
 replace hx:_=[]:=hx
 subst hx
 obtain⟨ed0,hy⟩:=hy
 replace ed0:d0=y0:=ed0
 subst ed0
 obtain⟨g1,gr1,ed1,sd1,hy⟩:=hy
 subst ed1
 replace sd1:LR rI _ d1 y1 g1:=sd1
 obtain⟨g2,gr2,ed2,sd2,hy⟩:=hy
 subst ed2
 replace sd2:LR rI _ d2 y2 g2:=sd2
 replace hy:_=[]:=hy
 subst hy
 refine CallX.of_fits Tryz.mix (fI_ratSame _ _) fun _=>?_
 simp only [tI_ratSame,T.wp]
 refine(cI_intSame _ _ _ _ _ _ _ (rBool.mk (rSl.mk sc1 rNil.mk)) (rBool.mk (rSl.mk sd1 rNil.mk))).mono ?_
 rintro V0 r ⟨rfl,b0,rfl,hb0⟩
 refine⟨nofun,b0,rfl,fun h0=>?_,fun h=>⟨by trivial,false,rfl,⟨(fun h=>by cases h),(fun e=>by cases e; simp [hb0.2 rfl] at h)⟩⟩⟩
 refine(cI_sameInts _ _ _ _ _ _ _ sc2 sd2).mono ?_
 rintro V2 r ⟨rfl,b2,rfl,hb2⟩
 refine⟨nofun,b2,rfl,by trivial,b2,rfl,⟨fun h2=>?_,fun e=>by cases e; exact hb2.2 rfl⟩⟩
 have q0:(c0,x1,())=(d0,y1,()):=hb0.1 h0
 cases q0
 have q2:x2=y2:=hb2.1 h2
 cases q2
 rfl
theorem cI_RestsSame_1:EqC Tryz.prog 50 rRest:=by
 rintro V ⟨c0,c1,c2,c3,cu⟩ ⟨d0,d1,d2,d3,du⟩ ⟨x0,x1,x2,x3,xu⟩ ⟨y0,y1,y2,y3,yu⟩ f f' hx hy
 obtain⟨⟨ec0,zc0⟩,hx⟩:=hx
 replace ec0:c0=x0:=ec0
 subst ec0
 replace zc0:c0.size≤9223372036854775807:=zc0
 obtain⟨ec1,hx⟩:=hx
 replace ec1:c1=x1:=ec1
 subst ec1
 obtain⟨f2,fr2,ec2,sc2,hx⟩:=hx
 subst ec2
 replace sc2:LR rI _ c2 x2 f2:=sc2
 obtain⟨f3,fr3,ec3,sc3,hx⟩:=hx
 subst ec3
 replace sc3:LR rI _ c3 x3 f3:=sc3
 replace hx:_=[]:=hx
 subst hx
 obtain⟨⟨ed0,zd0⟩,hy⟩:=hy
 replace ed0:d0=y0:=ed0
 subst ed0
 replace zd0:d0.size≤9223372036854775807:=zd0
 obtain⟨ed1,hy⟩:=hy
 replace ed1:d1=y1:=ed1
 subst ed1
 obtain⟨g2,gr2,ed2,sd2,hy⟩:=hy
 subst ed2
 replace sd2:LR rI _ d2 y2 g2:=sd2
 obtain⟨g3,gr3,ed3,sd3,hy⟩:=hy
 subst ed3
 replace sd3:LR rI _ d3 y3 g3:=sd3
 replace hy:_=[]:=hy
 subst hy
 refine CallX.of_fits Tryz.mix (fI_RestsSame_1 _ _) fun _=>?_
 simp only [tI_RestsSame_1,T.wp]
 refine⟨fun h0=>?_,fun h=>⟨by trivial,false,rfl,⟨(fun h=>by cases h),(fun e=>by cases e; simp at h)⟩⟩⟩
 refine(cI_ratSame _ _ _ _ _ _ _ (rBool.mk (rSl.mk sc2 (rSl.mk sc3 rNil.mk))) (rBool.mk (rSl.mk sd2 (rSl.mk sd3 rNil.mk)))).mono ?_
 rintro V1 r ⟨rfl,b1,rfl,hb1⟩
 refine⟨nofun,b1,rfl,by trivial,b1,rfl,⟨fun h1=>?_,fun e=>by cases e; exact hb1.2 rfl⟩⟩
 have q0:c0=d0:=text_eq.1 h0
 subst q0
 have q1:(c1,x2,x3,())=(d1,y2,y3,()):=hb1.1 h1
 cases q1
 rfl
theorem cX_EqualFunc_Rest:EqSC Tryz.prog 49 rRest [.func (.func 50) #[] #[]]:=fun _ s s' _ _ _ _ h h'=>CallX.of_fits Tryz.mix (fX_EqualFunc_Rest s s' 50) fun _=>tEqF_wp (g:=50) rfl cI_RestsSame_1 h h'
theorem cI_RestsSame:EqSC Tryz.prog 16 rRest:=by
 intro V s s' l l' f f' h h'
 refine CallX.of_fits Tryz.mix (fI_RestsSame _ _) fun _=>?_
 simp only [tI_RestsSame,T.wp]
 refine(cX_EqualFunc_Rest V s s' l l' f f' h h').mono ?_
 rintro V' r ⟨rfl,b,rfl,hb⟩
 exact⟨nofun,b,rfl,rfl,b,rfl,hb⟩
end Go.Proofs.YtagkjnpggkmehaaGreatDoor
namespace Go.Proofs.YtagkjnpggkmehaaGreatDoor
open Sx
set_option maxRecDepth 100000
theorem negR_len {l:List DRest}:(negR l).length=l.length:=by unfold negR; rw [List.length_map]
theorem drop_cons {α:Type} {l:List α} {i:Nat} (h:i<l.length):l.drop i=l[i] :: l.drop (i+1):=List.drop_eq_getElem_cons h
theorem rests_drop {l:List DRest} (h:RestsOkP l) (i:Nat):RestsOkP (l.drop i):=rests_up ((up_rests h).sublist (List.drop_sublist i l)) fun x hx=>rests_mem h (List.mem_of_mem_drop hx)
theorem cI_RestsAdd {V:Know} (hV:HcI V) (s t:SlV) (l:List DRest) (f g:List Nat) (h:LR rRest V s l f) (h':LR rRest V t (negR l) g) (ok:RestsOkP l) :
  CallX Tryz.prog V 14 [Sc.val .l s,Sc.val .l t] (fun V' r=>V.le V'∧∃ u k,r=.tuple #[Sc.val .l u,.bool true]∧LR rRest V' u [] k):=by
 refine CallX.of_fits Tryz.mix (fI_RestsAdd _ _) fun _=>?_
 simp only [tI_RestsAdd,T.wp]
 have hn:=h'.1
 rw [negR_len] at hn
 have h20:=rests_len ok
 refine(cI_RestsOk hV s l f h).mono ?_
 rintro V1 _ ⟨le1,e1,rfl,he1⟩
 obtain rfl:e1=true:=he1.2 ok
 refine⟨nofun,true,rfl,nofun,fun _=>(kI_restsCopy V1 s l f (h.le le1) (Nat.le_trans (rests_tot ok) (by decide))).mono ?_⟩
 rintro V2 _ ⟨le2,u0,f2,rfl,L2,_⟩
 have l2:=le1.trans le2
 refine⟨nofun,u0,rfl,?_⟩
 refine⟨fun y V'=>V2.le V'∧∃ (i:Nat) (fu:List Nat),(y.2.1:Int)=(i:Int)∧i≤l.length∧LR rRest V' y.1 (l.drop i) fu,fun y _=>((l.length:Int)-(y.2.1:Int)).toNat,
  ⟨(u0,(0:Int),()),rfl,Know.le.refl _,0,f2,rfl,Nat.zero_le _,L2⟩,?_⟩
 rintro⟨y0,(q:Int),u⟩ V3 ⟨le3,i,fu,hq,hi,hL⟩
 replace hq:q=(i:Int):=hq
 subst hq
 have l3:=l2.trans le3
 refine⟨fun hlt=>?_,fun hge=>?_⟩
 ·have hi':i<l.length:=by
   have:(i:Int)<(t.n:Int):=of_decide_eq_true hlt
   omega
  obtain⟨b1,o1,⟨c0,cr⟩,fc,a1,ld1,hR,_⟩:=(h'.le l3).at (i:=i) (by rw [negR_len]; exact hi')
  have ei:(negR l)[i]'(by rw [negR_len]; exact hi')=(l[i].1,negD l[i].2):=by simp [negR]
  rw [ei] at hR
  have hx:=rests_mem ok (List.getElem_mem hi')
  obtain⟨ename,hR2⟩:=rests_at hR
  replace ename:c0=l[i].1:=ename
  subst ename
  replace hR2:rRat.R V3 cr (negD l[i].2) fc:=hR2
  dsimp only
  rw [Int.toNat_natCast]
  have okd:=rests_drop ok i
  refine⟨_,a1,(by omega:(0:Int)≤(i:Int)),(by omega:(i:Int)<(t.n:Int)),(l[i].1,cr),ld1,(cI_RestAdd (hV.le l3) y0 (l.drop i) fu hL okd l[i].1 hx.1 cr (negD l[i].2) fc hR2 (negD_ok hx.2.1).1).mono ?_⟩
  rintro V4 _ ⟨le4,t4,l4,f4,e4,rfl,L4,_,kq⟩
  rw [drop_cons hi'] at kq okd
  obtain⟨rfl,rfl⟩:=strike okd kq
  refine⟨nofun,(t4,true,()),rfl,nofun,fun _=>⟨_,rfl,(t4,((i+1:Nat):Int),()),by rw [nxt hi' (by omega)]; rfl,⟨le3.trans le4,i+1,f4,rfl,hi',L4⟩,?_⟩⟩
  show((l.length:Int)-((i+1:Nat):Int)).toNat<((l.length:Int)-(i:Int)).toNat
  omega
 ·have hi':i=l.length:=by
   have:¬ (i:Int)<(t.n:Int):=of_decide_eq_false hge
   omega
  subst hi'
  rw [List.drop_length] at hL
  exact⟨l3,y0,fu,rfl,hL⟩
theorem restsX_size {l:List DRest} (h:RestsOkP l):(restsX l).size≤1048576:=by
 have h1:=joinT_size (txs l) ⟨#[59,32]⟩
 have h2:=txs_size h
 have e:(⟨#[59,32]⟩:ByteArray).size=2:=rfl
 show(joinT (txs l) ⟨#[59,32]⟩).size≤_
 rw [e] at h1
 omega
abbrev pln:ByteArray:=⟨#[80,76,78]⟩
theorem sgn_sub {a:Int}:sgn (a-a)=0:=by rw [Int.sub_self]; rfl
theorem atR_bd {l:List DRest} (h:Bd 3 l) (c:ByteArray):(atR l c).2.1.length≤17∧(atR l c).2.2.1.length≤15:=by
 unfold atR
 cases hf:l.find? (keyB c) with
 | none=>exact⟨by decide,by decide⟩
 | some x =>
  obtain⟨a,b⟩:=h.2 x (List.mem_of_find?_eq_some hf)
  exact⟨a,b⟩
theorem atR_add {l:List DRest} {c:ByteArray} {y:DRat}:atR (addR c y l) c=if zeroQ y=true then nought else y:=by
 unfold atR
 rw [addR_at]
 split <;> rfl
theorem cmp_put {y:DRat} {S D:Int} (hD:0<D) (hy:RedS S D y true):sgn (rS (if zeroQ y=true then nought else y)*rD y-rS y*rD (if zeroQ y=true then nought else y))=0:=by
 split
 ·rename_i hz
  have h0:rS y=0:=by
   unfold zeroQ at hz
   exact sgn_zero.1 (by simpa using hz)
  have h1:rS nought=0:=by decide
  rw [h0,h1]; simp [sgn]
 ·exact sgn_sub
theorem law_FnRests {V:Know} (hV:HrI V) {s:SlV} {l:List (Int × Unit)} {f:List Nat} (h:LR rBy V s l f):CallX Tryz.prog V 4 [Sc.val .l s] (fun V' r=>V.le V'∧r=.bool true):=by
 refine CallX.of_fits Tryz.mix (fL_FnRests _) fun _=>?_
 simp only [tL_FnRests,T.wp]
 refine⟨fun _=>⟨Know.le.refl _,rfl⟩,fun _=>(cS_MakeRests V s l f h).mono ?_⟩
 rintro V1 _ ⟨le1,t1,x,f1,rfl,L1,ok,bd⟩
 refine⟨nofun,t1,rfl,(cI_RestsNeg (hV.le le1).1.c t1 x f1 L1 ok).mono ?_⟩
 rintro V2 _ ⟨le2,t2,f2,rfl,L2⟩
 have l2:=le1.trans le2
 refine⟨nofun,(t2,true,()),rfl,(cI_RestsAdd (hV.le l2).1.c t1 t2 x f1 f2 (L1.le le2) L2 ok).mono ?_⟩
 rintro V3 _ ⟨le3,t3,f3,rfl,L3⟩
 have l3:=l2.trans le3
 refine⟨nofun,(t3,true,()),rfl,(cI_RestsText (hV.le l3).1 t1 x f1 (L1.le (le2.trans le3)) ok).mono ?_⟩
 rintro V4 _ ⟨le4,rfl⟩
 have l4:=l3.trans le4
 refine⟨nofun,_,rfl,(cI_TextRests (hV.le l4) (restsX x) (restsX_size ok)).mono ?_⟩
 rintro V5 _ ⟨le5,t5,x5,f5,ok5,rfl,L5,_,rd⟩
 have l5:=l4.trans le5
 obtain⟨rfl,rfl⟩:=rdRests_inj rd (.inl ⟨rfl,ok,rfl⟩)
 have L1':=L1.le ((le2.trans le3).trans (le4.trans le5))
 refine⟨nofun,(t5,true,()),rfl,nofun,fun _=>⟨nofun,fun _=>⟨fun hne=>?_,fun _=>⟨nofun,fun _=>?_⟩⟩⟩⟩
 ·have h0:t3.n=0:=L3.1
  rw [show((t3,true,()):SlV × Bool × Unit).1.n=0 from h0] at hne
  cases hne
 refine(cI_RestsSame V5 t5 t1 x5 x5 f5 f1 L5 L1').mono ?_
 rintro V6 _ ⟨rfl,e,rfl,he⟩
 obtain rfl:e=true:=he.2 rfl
 refine⟨nofun,true,rfl,nofun,fun _=>?_⟩
 refine(cI_RestsOk (hV.le l5).1.c t2 (negR x5) f2 (L2.le ((le3.trans le4).trans le5))).mono ?_
 rintro V7 _ ⟨le7,e,rfl,he⟩
 obtain rfl:e=true:=he.2 (negR_ok ok)
 have l7:=l5.trans le7
 refine⟨nofun,true,rfl,nofun,fun _=>?_⟩
 have L17:=L1'.le le7
 have hn:=L1.1
 have h20:=rests_len ok
 refine⟨fun y V'=>V7.le V'∧∃ i:Nat,(y.1:Int)=(i:Int)∧i≤x5.length,fun y _=>((x5.length:Int)-(y.1:Int)).toNat,
  ⟨((0:Int),()),rfl,Know.le.refl _,0,rfl,Nat.zero_le _⟩,?_⟩
 rintro⟨(q:Int),u⟩ V8 ⟨le8,i,hq,hi⟩
 replace hq:q=(i:Int):=hq
 subst hq
 have l8:=l7.trans le8
 have L18:=L17.le le8
 refine⟨fun hlt=>?_,fun _=>?_⟩
 ·have hi':i<x5.length:=by
   have:(i:Int)<(t1.n:Int):=of_decide_eq_true hlt
   omega
  obtain⟨b1,o1,⟨c0,cr⟩,fc,a1,ld1,hR,_⟩:=L18.at hi'
  have hx:=rests_mem ok (List.getElem_mem hi')
  obtain⟨ename,hR2⟩:=rests_at hR
  replace ename:c0=x5[i].1:=ename
  subst ename
  replace hR2:rRat.R V8 cr x5[i].2 fc:=hR2
  dsimp only
  rw [Int.toNat_natCast]
  refine⟨_,a1,(by omega:(0:Int)≤(i:Int)),(by omega:(i:Int)<(t1.n:Int)),(x5[i].1,cr),ld1,(cI_RestOf V8 t1 x5 f1 L18 (rests_rat ok) x5[i].1).mono ?_⟩
  rintro V9 _ ⟨le9,c9,f9,rfl,R9⟩
  rw [restOf_at,atR_mem (up_rests ok) (List.getElem_mem hi')] at R9
  refine⟨fun _=>le9,c9,rfl,(cI_RatCmp V9 x5[i].2 x5[i].2 c9 cr _ _ R9 (rRat.le hR2 le9) hx.2.1 hx.2.1).mono ?_⟩
  rintro V10 _ ⟨le10,rfl⟩
  rw [sgn_sub]
  refine⟨nofun,_,rfl,(fun hf=>by cases hf),fun _=>⟨_,rfl,(((i+1:Nat):Int),()),by rw [nxt hi' (by omega)]; rfl,⟨(le8.trans le9).trans le10,i+1,rfl,hi'⟩,?_⟩⟩
  show((x5.length:Int)-((i+1:Nat):Int)).toNat<((x5.length:Int)-(i:Int)).toNat
  omega
 have kp:known pln=true:=by decide +kernel
 refine(cL_half V8).mono ?_
 rintro V9 _ ⟨le9,c9,f9,rfl,R9⟩
 have l9:=l8.trans le9
 refine⟨nofun,c9,rfl,(cI_RestAdd (hV.le l9).1.c t1 x5 f1 (L18.le le9) ok pln kp c9 halfD f9 R9 half_ok).mono ?_⟩
 rintro V10 _ ⟨le10,t10,x10,f10,e10,rfl,L10,_,kq⟩
 have l10:=l9.trans le10
 have hat:=atR_ok ok pln
 obtain⟨b1,b2⟩:=atR_bd bd pln
 have hD:0<rD (atR x5 pln)*rD halfD:=Int.mul_pos (ratP_pos hat) (ratP_pos half_ok)
 have hyes:∀ {y:DRat} {e:Bool},AddRP (atR x5 pln) halfD (y,e)→e=true:=fun hy=>by
  have h1:rS halfD=1:=by decide
  have h2:rD halfD=2:=by decide
  have a1:=lim_bd hat.1.1.1.1 b1
  have a2:=lim_bd hat.2.1.1.1 b2
  have a3:((rS (atR x5 pln)).natAbs:Int)=valN (atR x5 pln).2.1:=sval_abs hat.1.1.1.1
  have a4:rD (atR x5 pln)=valN (atR x5 pln).2.2.1:=rfl
  have p1:(1000000000:Int) ^ 18=1000000000*1000000000 ^ 17:=pw_succ 17
  have p2:(1000000000:Int) ^ 15≤1000000000 ^ 17:=pw_mono (by omega)
  refine redS_fits hD hy ?_ ?_
  ·rw [h1,h2]; omega
  ·rw [h2]; omega
 obtain⟨y,hy,rfl,rfl⟩:∃ y,AddRP (atR x5 pln) halfD (y,true)∧x10=addR pln y x5∧e10=true:=by
  rcases kq with ⟨h1,y,h2,h3⟩ | ⟨_,_,y,hy⟩
  ·exact⟨y,h2,h3,h1⟩
  ·have:=hyes hy
   cases this
 have yok:RatP y:=redS_ok hD hy rfl
 have ok10:RestsOkP (addR pln y x5):=addR_ok ok kp yok
 refine⟨nofun,(t10,true,()),rfl,fun _=>?_,nofun⟩
 refine(cI_RestOf V10 t10 _ f10 L10 (rests_rat ok10) pln).mono ?_
 rintro V11 _ ⟨le11,c11,f11,rfl,R11⟩
 rw [restOf_at,atR_add] at R11
 refine⟨nofun,c11,rfl,(cI_RestOf V11 t1 x5 f1 (L18.le ((le9.trans le10).trans le11)) (rests_rat ok) pln).mono ?_⟩
 rintro V12 _ ⟨le12,c12,f12,rfl,R12⟩
 rw [restOf_at] at R12
 refine⟨nofun,c12,rfl,(cL_half V12).mono ?_⟩
 rintro V13 _ ⟨le13,c13,f13,rfl,R13⟩
 obtain⟨s1,s2,g1,g2,rfl,A1,B1,_⟩:=rat_elim (rRat.le R12 le13)
 obtain⟨s3,s4,g3,g4,rfl,A2,B2,_⟩:=rat_elim R13
 refine⟨nofun,_,rfl,(cI_RatAdd V13 _ s1 s2 _ s3 s4 _ _ _ _ _ _ _ _ A1 B1 A2 B2 hat half_ok).mono ?_⟩
 rintro V14 _ ⟨le14,c14,y14,e14,f14,rfl,R14,_,hy14⟩
 obtain⟨rfl,rfl⟩:=redS_inj hD hy14 hy
 refine⟨nofun,(c14,true,()),rfl,(cL_must V14 c14).mono ?_⟩
 rintro V15 _ ⟨rfl,rfl⟩
 have okz:RatP (if zeroQ y14=true then nought else y14):=by
  split
  ·exact nought_ok
  ·exact yok
 refine⟨nofun,c14,rfl,(cI_RatCmp V15 _ y14 c11 c14 _ _ (rRat.le R11 ((le12.trans le13).trans le14)) R14 okz yok).mono ?_⟩
 rintro V16 _ ⟨le16,rfl⟩
 have hc:sgn (sval (if zeroQ y14=true then nought else y14).1 (if zeroQ y14=true then nought else y14).2.1*valN y14.2.2.1-sval y14.1 y14.2.1*valN (if zeroQ y14=true then nought else y14).2.2.1)=0:=cmp_put hD hy
 rw [hc]
 exact⟨nofun,_,rfl,(l10.trans le11).trans ((le12.trans le13).trans (le14.trans le16)),rfl⟩
end Go.Proofs.YtagkjnpggkmehaaGreatDoor
namespace Go.Proofs.YtagkjnpggkmehaaGreatDoor
open Sx Go.ChangeShapes Go.WideShapes Go.ChangeAt Go.RowKit
theorem below_of_fr {V V':Know} {w w':World} (h:Fr V V' w w') (hV:V.on w) (hV':V'.on w') (hle:V.le V'):Below w.heap.size w w':=by
 refine⟨h.os,h.tape,h.output,h.size,fun k hk=>?_⟩
 cases hk2:V k with
 | none=>exact h.keep k hk hk2
 | some x =>
  obtain⟨c,t⟩:=x
  rw [hV k c t hk2,hV' k c t (hle k _ hk2)]
section
variable {H:Type} {enc:TypeId × Value→H} {P:Program}
theorem trodAll_stays (hl:laidOutB P=true) {W W':World} (hb:Below W.heap.size W W'):∀ {ts:List TypeId} {vs:List Value} {ds:List (DataW H)} {p:List MemPlace},
  (∀ t∈ts,P.readableRec t=true∧t<P.types.size)→DataW.TrodAll enc P W 0 (fun _=>true) true ts vs ds p→(∀ x∈p,x.block<W.heap.size)→DataW.TrodAll enc P W' 0 (fun b=>decide (b<W.heap.size)) true ts vs ds p
 | [],_,_,_,_,h,_=>by
  obtain⟨rfl,rfl,rfl⟩:=trodAll_nil h
  exact h
 | t :: _,_,_,_,ht,h,hp=>by
  obtain⟨v,vs1,d,ds1,a,b,rfl,rfl,rfl,h1,h2⟩:=trodAll_cons h
  obtain⟨g1,g2⟩:=ht t (List.mem_cons_self ..)
  exact⟨a,b,Below.trod hl g1 g2 h1 hb (fun x hx=>hp x (by simp [hx])),trodAll_stays hl hb (fun t ht'=>ht t (List.mem_cons_of_mem _ ht')) h2 (fun x hx=>hp x (by simp [hx])),rfl⟩
def varsOk (P:Program) (ns:List String):Bool:=ns.all fun n=>((P.globalNamed n).bind (P.globals[·]?)).all fun gl=>P.readableRec gl.type && decide (gl.type<P.types.size)
theorem trodVars_stays (hl:laidOutB P=true) {W W':World} (hb:Below W.heap.size W W') :
  ∀ {ns:List String} {gs:List (DataW H)} {ps:List MemPlace},varsOk P ns=true→DataW.TrodVars enc P W (fun _=>true) ns gs ps→DataW.TrodVars enc P W' (fun b=>decide (b<W.heap.size)) ns gs ps
 | [],[],_,_,h=>h
 | [],_ :: _,_,_,h=>h.elim
 | _ :: _,[],_,_,h=>h.elim
 | n :: ns,d :: ds,ps,hv,h=>by
  have hlt:=h.lt
  obtain⟨g,t,cs,fuel,p,q,h1,h2,h3,h4,hs,e⟩:=h
  simp only [varsOk,List.all_cons,Bool.and_eq_true] at hv
  have ht:P.readableRec t=true∧t<P.types.size:=by
   have:=hv.1
   rw [h1] at this
   cases hg:P.globals[g]? with
   | none=>rw [hg] at h2; cases h2
   | some gl =>
    rw [hg] at h2
    obtain rfl:gl.type=t:=Option.some.inj h2
    simpa [hg] using this
  have hp:∀ x∈p,x.block<W.heap.size:=fun x hx=>hlt x (by rw [e]; simp [hx])
  have h3':W'.var? P n=some cs:=by
   unfold World.var? at h3 ⊢
   rw [h1] at h3 ⊢
   simp only [Option.bind_some] at h3 ⊢
   have hg:g<W.heap.size:=by
    cases hh:W.heap[g]? with
    | none=>rw [hh] at h3; cases h3
    | some o=>exact(Array.getElem?_eq_some_iff.1 hh).1
   rw [hb.block g hg]; exact h3
  obtain⟨f2,h4'⟩:∃ f2,DataW.trod enc P W' 0 (fun b=>decide (b<W.heap.size)) true f2 t cs.toList=some (d,p):=by
   have hT:DataW.Trod enc P W 0 (fun _=>true) true t (.agg cs) d p:=⟨fuel,h4⟩
   exact Below.trod hl ht.1 ht.2 hT hb hp
  exact⟨g,t,cs,f2,p,q,h1,h2,h3',h4',trodVars_stays hl hb (by simpa [varsOk] using hv.2) hs,e⟩
theorem post_law (hl:laidOutB P=true) {f:Func} {s:ChangeSpec} {W W':World} {args:Array Value} {ds gs:List (DataW H)} {before:List MemPlace} {tb:TypeId}
  (hp:∀ t∈f.params.toList,P.readableRec t=true∧t<P.types.size) (hv:varsOk P s.vars=true) (hW:DataW.Whole enc P f.params.toList s.vars false W args.toList ds gs before) (hb:Below W.heap.size W W')
  (hr:f.resultTypes=#[tb]) (hu:P.underlying tb=some .bool) (h1:(s.fn H (ds++gs)).results=[.lit (.bool true)]) (h2:(s.fn H (ds++gs)).args=ds) (h3:(s.fn H (ds++gs)).vars=gs) :
  s.post enc P f false true false false W args (.bool true) W':=by
 have hlt:=hW.lt
 have hW2:=hW
 obtain⟨p,q,hA,hV,rfl,hz,hn⟩:=hW
 refine⟨ds,gs,p++q,[],p,q,hW2,?_,?_,?_,hb.frame _,nofun⟩
 ·rw [hr,h1]
  exact trodAll_mk1 (shut_bool hu true)
 ·rw [h2]
  exact trodAll_stays hl hb hp hA (fun x hx=>hlt x (by simp [hx]))
 ·rw [h3]
  exact trodVars_stays hl hb hv hV
end
def rowsOk (P:Program) (l:List TypeId):Bool:=l.all fun t=>P.readableRec t && decide (t<P.types.size)
theorem rowsOk_spec {P:Program} {l:List TypeId} (h:rowsOk P l=true):∀ t∈l,P.readableRec t=true∧t<P.types.size:=by
 intro t ht
 have:=List.all_eq_true.1 h t ht
 simpa using this
def rowData {H:Type} (r:CurRow):DataW H:=.agg [.lit (.string r.1.data.toList),.lit (.string r.2.1.data.toList),.lit (.int .i64 r.2.2.1),.lit (.int .i64 r.2.2.2.1)]
def curData {H:Type} (l:List CurRow):DataW H:=.agg (l.map rowData)
theorem cells_of_rows:∀ {l:List CurRow} {cs:List Value},cs.length=l.length*4→(∀ (i:Nat) (h:i<l.length),(cs.drop (i*4)).take 4=rowC l[i])→cs=curCells l
 | [],cs,hl,_=>by simp at hl; simp [hl,curCells]
 | a :: l,cs,hl,h=>by
  have h0:=h 0 (by simp)
  simp only [Nat.zero_mul,List.drop_zero,List.getElem_cons_zero] at h0
  have ih:=cells_of_rows (l:=l) (cs:=cs.drop 4) (by simp at hl ⊢; omega) (fun i hi=>by
   have:=h (i+1) (by simpa using hi)
   rw [List.drop_drop]
   rw [show 4+i*4=(i+1)*4 by omega]
   simpa using this)
  rw [← List.take_append_drop 4 cs,h0,ih]
  rfl
theorem str_of {s:ByteArray} {b:ByteArray} (h:s.data.toList=b.data.toList):s=b:=by
 obtain⟨⟨l⟩⟩:=s
 obtain⟨⟨m⟩⟩:=b
 simp at h
 subst h; rfl
section
variable {H:Type} {enc:TypeId × Value→H} {P:Program} {w:World} {base:Nat} {sp:Nat→Bool} {held:Bool}
theorem row_of_trod {fuel:Nat} {e:TypeId} {f0 f1 f2 f3:Field} {cs:List Value} {r:CurRow} {p:List MemPlace} (he:P.underlying e=some (.struct #[f0,f1,f2,f3]))
  (h0:P.underlying f0.type=some .string∧f0.offset=0∧P.cellsOf f0.type=1) (h1:P.underlying f1.type=some .string∧f1.offset=1∧P.cellsOf f1.type=1)
  (h2:P.underlying f2.type=some (.int .i64)∧f2.offset=2∧P.cellsOf f2.type=1) (h3:P.underlying f3.type=some (.int .i64)∧f3.offset=3∧P.cellsOf f3.type=1) (hc:P.cellsOf e=4)
  (h:DataW.trod enc P w base sp held fuel e cs=some (rowData r,p)):cs=rowC r:=by
 obtain⟨xs,n,_,hx,hl,hlen,hf⟩:=DataW.trod_struct he h
 match xs,hlen with
 | [y0,y1,y2,y3],_ =>
  have g0:=hf 0 f0 rfl
  have g1:=hf 1 f1 rfl
  have g2:=hf 2 f2 rfl
  have g3:=hf 3 f3 rfl
  rw [hc] at hl
  match cs,hl with
  | [c0,c1,c2,c3],_ =>
   simp only [h0.2.1,h0.2.2,h1.2.1,h1.2.2,h2.2.1,h2.2.2,h3.2.1,h3.2.2] at g0 g1 g2 g3
   obtain⟨s0,e0,x0,_⟩:=DataW.trod_string h0.1 g0
   obtain⟨s1,e1,x1,_⟩:=DataW.trod_string h1.1 g1
   obtain⟨n2,e2,x2,_⟩:=DataW.trod_int h2.1 g2
   obtain⟨n3,e3,x3,_⟩:=DataW.trod_int h3.1 g3
   simp at e0 e1 e2 e3
   subst e0 e1 e2 e3
   have hx1:=congrArg Prod.fst hx
   simp only [rowData,x0,x1,x2,x3,List.map_cons,List.map_nil,DataW.agg.injEq,List.cons.injEq,DataW.lit.injEq,Lit.string.injEq,Lit.int.injEq,and_true,true_and] at hx1
   obtain⟨q0,q1,q2,q3⟩:=hx1
   show _=[Value.string r.1,.string r.2.1,.int .i64 r.2.2.1,.int .i64 r.2.2.2.1]
   rw [str_of q0,str_of q1,q2,q3]
theorem cells_of_trod {fuel:Nat} {t e:TypeId} {f0 f1 f2 f3:Field} {cs:List Value} {l:List CurRow} {p:List MemPlace} (ht:P.underlying t=some (.array l.length e)) (he:P.underlying e=some (.struct #[f0,f1,f2,f3]))
  (h0:P.underlying f0.type=some .string∧f0.offset=0∧P.cellsOf f0.type=1) (h1:P.underlying f1.type=some .string∧f1.offset=1∧P.cellsOf f1.type=1)
  (h2:P.underlying f2.type=some (.int .i64)∧f2.offset=2∧P.cellsOf f2.type=1) (h3:P.underlying f3.type=some (.int .i64)∧f3.offset=3∧P.cellsOf f3.type=1) (hc:P.cellsOf e=4) (hct:P.cellsOf t=l.length*4)
  (h:DataW.trod enc P w base sp held fuel t cs=some (curData l,p)):cs=curCells l:=by
 cases fuel with
 | zero=>simp [DataW.trod] at h
 | succ fuel =>
  simp only [DataW.trod,ht,hc,hct] at h
  split at h
  ·rename_i hl
   obtain⟨xs,hm,hx⟩:=Option.map_eq_some_iff.1 h
   have hxs:xs.map (·.1)=l.map rowData:=by
    have:=congrArg Prod.fst hx
    simpa [curData] using this
   refine cells_of_rows hl fun i hi=>?_
   obtain⟨b,hb,hf⟩:=Go.Lib.mapM_at hm i i (by simp [hi])
   have hb1:b.1=rowData l[i]:=by
    have h2:(xs.map (·.1))[i]?=some b.1:=by simp [hb]
    rw [hxs] at h2
    simpa [hi] using h2.symm
   obtain⟨b1,b2⟩:=b
   simp only at hb1
   subst hb1
   exact row_of_trod he h0 h1 h2 h3 hc hf
  ·cases h
end
noncomputable def fieldsC:Array Field:=match Tryz.prog.underlying 131 with | some (.struct fs)=>fs | _=>#[]
theorem table {W : World} {rest : List (String × DataW Unit)} (h : laidMet Tryz.prog (("loop.example/g00793/impl.currencies", curData curI) :: rest) W) : ∃ t, W.heap[0]? = some (.cells (curCells curI).toArray t (0, 0)) := by
 obtain⟨ps,⟨g',t',cs,fuel,p,q,hg',ht',hvar,hd,hq,hps⟩,_,hb⟩:=h
 obtain rfl := Option.some.inj ((show Tryz.prog.globalNamed "loop.example/g00793/impl.currencies" = some 0 by kernel_rfl).symm.trans hg')
 obtain rfl:=Option.some.inj ((show(Tryz.prog.globals[0]?).map (·.type)=some 138 by kernel_rfl).symm.trans ht')
 have hcs:=cells_of_trod (e:=131) (f0:=fieldsC[0]!) (f1:=fieldsC[1]!) (f2:=fieldsC[2]!) (f3:=fieldsC[3]!) (by kernel_rfl) (by kernel_rfl) ⟨by kernel_rfl,by kernel_rfl,by kernel_rfl⟩ ⟨by kernel_rfl,by kernel_rfl,by kernel_rfl⟩
  ⟨by kernel_rfl,by kernel_rfl,by kernel_rfl⟩ ⟨by kernel_rfl,by kernel_rfl,by kernel_rfl⟩ (by kernel_rfl) (by kernel_rfl) hd
 have hsz:0<cs.size:=by
  have:=congrArg List.length hcs
  simp at this
  rw [this]; decide +kernel
 obtain⟨⟨c,t,hc⟩,_⟩:=hb 0 0 (by
  rw [hps]
  refine List.mem_append_left _ (List.mem_append_left _ ?_)
  simp [MemPlace.row]
  exact hsz)
 unfold World.var? at hvar
 rw [hg'] at hvar
 simp only [Option.bind_some,hc,Option.some.injEq] at hvar
 refine⟨t,?_⟩
 rw [hc,← hcs,hvar]
theorem hasCur_of {W:World} {t:TypeId} (h:W.heap[0]?=some (.cells (curCells curI).toArray t (0,0))):hasCur (knowOf W) :=
 ⟨(t,(0,0)),knowOf_eq h fun es e=>by
  have h80:(curCells curI).toArray.toList.length=80:=by decide +kernel
  have h1:=h80.symm.trans (congrArg List.length e)
  exact absurd (show(80:Nat)=1 from h1) (by omega)⟩
end Go.Proofs.YtagkjnpggkmehaaGreatDoor
