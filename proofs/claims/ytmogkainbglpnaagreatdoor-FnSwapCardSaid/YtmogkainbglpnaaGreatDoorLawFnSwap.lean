/-
  The walk of the law: an exchange rounds once, for all inputs.
-/
import Derived.Test.YtmogkainbglpnaaGreatDoorCuC
import Derived.Test.YtmogkainbglpnaaGreatDoorCopy
import Derived.Test.YtmogkainbglpnaaGreatDoorSumM
import Derived.Test.YtmogkainbglpnaaGreatDoorValid
namespace Go.Proofs.YtmogkainbglpnaaGreatDoor
open Sx
set_option maxRecDepth 100000
theorem LR.masked {sh:List Sc} {α:Type} {r:Rp sh α} {V:Know} {t:SlV} {l:List α} {f:List Nat} {b:Nat} (h:LR r V t l f) (hb:∀ y∈f,y≠b):LR r (mask b V) t l f :=
 h.loc fun y hy=>by unfold mask; rw [if_neg (hb y hy)]
theorem cS_l10Pair {V0 V:Know} {b:Nat} {s:SlV} (hc:Cx V0 b s V) (p:ByteArray) (t:SlV) (l:List DRate) (f:List Nat) (h:LR rRate V t l f) (hf:∀ y∈f,y≠b) (ok:RatesOkP p l) :
  CallX Tryz.prog V 30 [.pointer (some ⟨b,0,none⟩),qv2 (p,t,())] (fun V' r=>Dx V0 b s V V'∧∃ n1 n2:ByteArray,r=.tuple #[.string n1,.string n2]∧n1.size≤9223372036854775807∧known n2=true):=by
 refine CallX.of_fits Tryz.mix (fS_l10Pair _ _) fun _=>?_
 simp only [tS_l10Pair,T.wp,if_true]
 have fb:∀ y∈f,y ∉ [b]:=fun y hy=>by simpa using hf y hy
 have hn:=h.1
 have kn:∀ {i:Nat} (hi:i<l.length),known l[i].1=true∧known l[i].2.1=true:=fun {i} hi=>by
  obtain⟨_,q,_⟩:=ok.2.2 i hi
  exact⟨q.1,q.2.1⟩
 have rest:∀ {V1:Know},Dx V0 b s V V1→CallX Tryz.prog V1 67 [.pointer (some ⟨b,0,none⟩)] (fun V' r=>(false=true→V1.le V')∧∃ y,r=Sh.val (.v (.o .s)) y∧CallX Tryz.prog V' 68 [.pointer (some ⟨b,0,none⟩)] (fun V'' r'=>(false=true→V'.le V'')∧∃ y',r'=Sh.val (.v (.o .s)) y'∧(Dx V0 b s V V''∧∃ n1 n2:ByteArray,packed [.string y,.string y']=.tuple #[.string n1,.string n2]∧n1.size≤9223372036854775807∧known n2=true))):=by
  intro V1 d1
  refine(cS_l08Any d1.1).mono ?_
  rintro V2 _ ⟨d2,n1,rfl,z1⟩
  refine⟨nofun,n1,rfl,(cS_l08Cur d2.1).mono ?_⟩
  rintro V3 _ ⟨d3,n2,rfl,k2⟩
  exact⟨nofun,n2,rfl,(d1.trans d2).trans d3,n1,n2,rfl,z1,k2⟩
 refine⟨fun hgt=>?_,fun _=>rest (hc.dx (Know.le.refl _))⟩
 have hpos:0<l.length:=by
  have:(t.n:Int) > 0:=of_decide_eq_true hgt
  omega
 refine(cS_l01Once hc 3).mono ?_
 rintro V1 _ ⟨d1,e,rfl⟩
 refine⟨nofun,e,rfl,fun _=>?_,fun _=>rest d1⟩
 have L1:=h.but fb d1.2
 refine⟨mask b V1,mask_le b V1,(cS_l01Below d1.1 _).mono ?_⟩
 rintro V2 _ ⟨d2,x,rfl,x0,x1,_⟩
 have hx:=x1 (by omega)
 have hx2:x.toNat<l.length:=by omega
 obtain⟨b3,o3,c3,fc3,a3,l3,hR3,_⟩:=(L1.masked hf).at hx2
 refine⟨mask_but (Know.le.refl _) d2.2,x,rfl,_,a3,x0,hx,c3,l3,?_⟩
 have L2:=L1.but fb d2.2
 refine⟨mask b V2,mask_le b V2,(cS_l01Below d2.1 _).mono ?_⟩
 rintro V3 _ ⟨d3,z,rfl,z0,z1,_⟩
 have hz:=z1 (by omega)
 have hz2:z.toNat<l.length:=by omega
 obtain⟨b4,o4,c4,fc4,a4,l4,hR4,_⟩:=(L2.masked hf).at hz2
 refine⟨mask_but (Know.le.refl _) d3.2,z,rfl,_,a4,z0,hz,c4,l4,(cS_l01Below d3.1 3).mono ?_⟩
 rintro V4 _ ⟨d4,w,rfl,_⟩
 have dd:=((d1.trans d2).trans d3).trans d4
 obtain⟨e31,e32⟩:=rate_cell hR3
 obtain⟨e41,e42⟩:=rate_cell hR4
 obtain⟨k31,k32⟩:=kn hx2
 obtain⟨k41,k42⟩:=kn hz2
 refine⟨nofun,w,rfl,fun _=>⟨dd,_,_,rfl,?_,?_⟩,fun _=>⟨fun _=>⟨dd,_,_,rfl,?_,?_⟩,fun _=>⟨dd,_,_,rfl,?_,?_⟩⟩⟩
 ·rw [e31]; exact known_len k31
 ·rw [e42]; exact k42
 ·rw [e32]; exact known_len k32
 ·rw [e31]; exact k31
 ·rw [e31]; exact known_len k31
 ·rw [e41]; exact k41
theorem cS_l01New (V:Know) (s:SlV) (l:List (Int × Unit)) (f:List Nat) (h:LR rBy V s l f):CallX Tryz.prog V 28 [Sc.val .l s] (fun V' r=>V.le V'∧∃ b,r=.pointer (some ⟨b,0,none⟩)∧V b=none∧Cx V b s V'):=by
 refine CallX.of_fits Tryz.mix (fS_l01New _) fun _=>?_
 simp only [tS_l01New,T.wp]
 have hn:=h.1
 have h63:=h.2.2.1
 refine⟨fun y V'=>V'=V∧∃ k:Nat,y.2.1=(k:Int)∧k≤l.length,fun y _=>((l.length:Int)-(y.2.1:Int)).toNat,⟨(_,(0:Int),()),rfl,rfl,0,rfl,Nat.zero_le _⟩,?_⟩
 rintro⟨(g:Int),(i:Int),u⟩ V' ⟨rfl,k,hi,hk⟩
 replace hi:i=(k:Int):=hi
 subst hi
 have fin:∀ b2,V' b2=none→(V'.le (kset V' b2 ([Sc.val .l s,.int .i64 0,.int .i64 g],(tyC,(0,0))))∧∃ b,packed [.pointer (some ⟨b2,0,none⟩)]=.pointer (some ⟨b,0,none⟩)∧V' b=none∧Cx V' b s (kset V' b2 ([Sc.val .l s,.int .i64 0,.int .i64 g],(tyC,(0,0))))) :=
  fun b2 hb2=>⟨kset_le hb2,b2,rfl,hb2,kset_le hb2,hb2,⟨0,g,Int.le_refl _,kset_same⟩,l,f,h⟩
 refine⟨fun hlt=>⟨fun _=>?_,fun _=>fin⟩,fun _=>fin⟩
 have hi2:k<l.length:=by
  have:(k:Int)<(s.n:Int):=of_decide_eq_true hlt
  omega
 obtain⟨b1,o1,c1,fc,a1,l1,hR,_⟩:=h.at hi2
 dsimp only
 rw [Int.toNat_natCast]
 refine⟨_,a1,by omega,(by omega:(k:Int)<(s.n:Int)),c1.1,l1,_,rfl,(_,((k+1:Nat):Int),()),by rw [nxt hi2 (by omega)]; rfl,⟨rfl,k+1,rfl,hi2⟩,?_⟩
 show((l.length:Int)-((k+1:Nat):Int)).toNat<((l.length:Int)-(k:Int)).toNat
 omega
theorem cS_MakeRates (V:Know) (s:SlV) (l:List (Int × Unit)) (f:List Nat) (h:LR rBy V s l f):CallX Tryz.prog V 6 [Sc.val .l s]
  (fun V' r=>V.le V'∧∃ p t l f n1 n2,r=.tuple #[qv2 (p,t,()),.string n1,.string n2]∧LR rRate V' t l f∧RatesOkP p l∧TabS l∧n1.size≤9223372036854775807∧known n2=true):=by
 refine CallX.of_fits Tryz.mix (fS_MakeRates _) fun _=>?_
 simp only [tS_MakeRates,T.wp]
 refine(cS_l01New V s l f h).mono ?_
 rintro V1 _ ⟨le1,b,rfl,hb,c1⟩
 refine⟨nofun,_,rfl,(cS_l10Table c1).mono ?_⟩
 rintro V2 _ ⟨d2,c,p,l',f',rfl,R2,hf,ok,td⟩
 obtain⟨t,rfl,L2⟩:=rates_el R2
 refine⟨nofun,_,rfl,(cS_l10Pair d2.1 p t l' f' L2 hf ok).mono ?_⟩
 rintro V3 _ ⟨d3,n1,n2,rfl,z1,k2⟩
 exact⟨nofun,(n1,n2,()),rfl,d3.1.1,p,t,l',f',n1,n2,rfl,L2.but (fun y hy=>by simpa using hf y hy) d3.2,ok,td,z1,k2⟩
theorem cS_MakeAmount (V:Know) (s:SlV) (l:List (Int × Unit)) (f:List Nat) (h:LR rBy V s l f) (a:ByteArray):CallX Tryz.prog V 7 [Sc.val .l s,.string a]
  (fun V' r=>V.le V'∧∃ t o g,r=qv3 (a,false,t,())∧LR rI V' t o g∧Can o∧valN o<30000∧o.length≤3):=by
 refine CallX.of_fits Tryz.mix (fS_MakeAmount _ _) fun _=>?_
 simp only [tS_MakeAmount,T.wp]
 refine(cS_l01New V s l f h).mono ?_
 rintro V1 _ ⟨le1,b,rfl,hb,c1⟩
 have c1':=c1
 obtain⟨_,_,⟨i,k,hi,hk⟩,_⟩:=c1
 refine⟨nofun,_,rfl,k,ld_at hk 2 1,_,_,rfl,hk,Nat.le_refl 3,?_⟩
 have d2:=kset_cx (h:=IntKind.i64.wrap (k+31)) c1' hi
 refine(cS_l01Below d2.1 30000).mono ?_
 rintro V2 _ ⟨d3,x,rfl,x0,x1,_⟩
 have hx:=x1 (by omega)
 refine⟨nofun,x,rfl,(cS_IntOfD V2 x x0 (by omega)).mono ?_⟩
 rintro V3 _ ⟨le3,t,o,g,rfl,L3,_,C3,v3,n3⟩
 exact⟨nofun,_,rfl,d3.1.1.trans le3,t,o,g,rfl,L3,C3,by omega,n3⟩
theorem cS_MakeMode (V:Know) (s:SlV) (l:List (Int × Unit)) (f:List Nat) (h:LR rBy V s l f):CallX Tryz.prog V 14 [Sc.val .l s] (fun V' r=>V.le V'∧∃ x:Int,r=.int .i64 x∧0≤x∧x≤6):=by
 refine CallX.of_fits Tryz.mix (fS_MakeMode _) fun _=>?_
 simp only [tS_MakeMode,T.wp]
 refine(cS_l01New V s l f h).mono ?_
 rintro V1 _ ⟨le1,b,rfl,hb,c1⟩
 have c1':=c1
 obtain⟨_,_,⟨i,k,hi,hk⟩,_⟩:=c1
 refine⟨nofun,_,rfl,k,ld_at hk 2 1,_,_,rfl,hk,Nat.le_refl 3,?_⟩
 have d2:=kset_cx (h:=IntKind.i64.wrap (k+13)) c1' hi
 refine(cS_l01Below d2.1 7).mono ?_
 rintro V2 _ ⟨d3,x,rfl,x0,x1,_⟩
 have hx:=x1 (by omega)
 exact⟨nofun,x,rfl,d3.1.1,x,rfl,x0,by omega⟩
end Go.Proofs.YtmogkainbglpnaaGreatDoor
namespace Go.Proofs.YtmogkainbglpnaaGreatDoor
open Sx
set_option maxRecDepth 100000
theorem cI_RatCmp (V:Know) (x y:DRat) (c d:Scs [.b,.l,.l]) (f g:List Nat) (hx:rRat.R V c x f) (hy:rRat.R V d y g) (ox:RatOkP x.1 x.2.1 x.2.2.1) (oy:RatOkP y.1 y.2.1 y.2.2.1) :
  CallX Tryz.prog V 13 [qv0 c,qv0 d] (fun V' r=>V.le V'∧r=.int .i64 (sgn (sval x.1 x.2.1*valN y.2.2.1-sval y.1 y.2.1*valN x.2.2.1))):=by
 refine CallX.of_fits Tryz.mix (fI_RatCmp _ _) fun _=>?_
 obtain⟨s1,s2,g1,g2,rfl,L1,L2,rfl⟩:=rat_elim hx
 obtain⟨t1,t2,k1,k2,rfl,M1,M2,rfl⟩:=rat_elim hy
 simp only [tI_RatCmp,T.wp]
 have z1:=ox.2.2.2.1
 have z2:=ox.2.2.2.2.1
 have z3:=oy.2.2.2.1
 have z4:=oy.2.2.2.2.1
 refine(cI_ratsOk V x.1 s1 s2 y.1 t1 t2 x.2.1 x.2.2.1 y.2.1 y.2.2.1 _ _ _ _ L1 L2 M1 M2 ox oy).mono ?_
 rintro V1 _ ⟨le1,rfl⟩
 refine⟨nofun,true,rfl,nofun,fun _=>(cI_num V1 x.1 s1 s2 t2 x.2.1 [] y.2.2.1 _ [] _ (L1.le le1) (M2.le le1) ox.1.1.1 oy.2.1.1 (by omega) (by omega)).mono ?_⟩
 rintro V2 _ ⟨le2,e2,u2,o2,f2,rfl,L3,C3,v3,n3⟩
 have l2:=le1.trans le2
 refine⟨fun _=>le2,_,rfl,(cI_num V2 y.1 t1 t2 s2 y.2.1 [] x.2.2.1 _ [] _ (M1.le l2) (L2.le l2) oy.1.1.1 ox.2.1.1 (by omega) (by omega)).mono ?_⟩
 rintro V3 _ ⟨le3,e3,u3,o3,f3,rfl,L4,C4,v4,n4⟩
 refine⟨nofun,_,rfl,(cI_intCmp V3 e2 u2 e3 u3 o2 o3 f2 f3 (L3.le le3) L4 C3 C4 (by omega) (by omega)).mono ?_⟩
 rintro V4 _ ⟨le4,rfl⟩
 exact⟨nofun,_,rfl,(l2.trans le3).trans le4,by rw [v3,v4]; rfl⟩
end Go.Proofs.YtmogkainbglpnaaGreatDoor
namespace Go.Proofs.YtmogkainbglpnaaGreatDoor
open Sx
set_option maxRecDepth 100000
theorem cI_RatNeg (V:Know) (x:DRat) (c:Scs [.b,.l,.l]) (f:List Nat) (hx:rRat.R V c x f) (ok:RatOkP x.1 x.2.1 x.2.2.1) :
  CallX Tryz.prog V 96 [qv0 c] (fun V' r=>V.le V'∧∃ d g,r=.tuple #[qv0 d,.bool true]∧rRat.R V' d (!x.1 && decide (0<x.2.1.length),x.2.1,x.2.2.1,()) g):=by
 refine CallX.of_fits Tryz.mix (fI_RatNeg _) fun _=>?_
 obtain⟨s1,s2,g1,g2,rfl,L1,L2,rfl⟩:=rat_elim hx
 simp only [tI_RatNeg,T.wp]
 have z1:=ok.2.2.2.1
 have z2:=ok.2.2.2.2.1
 refine(cI_RatOk V x.1 s1 s2 x.2.1 x.2.2.1 g1 g2 L1 L2).mono ?_
 rintro V1 _ ⟨le1,e,rfl,he⟩
 obtain rfl:e=true:=he.2 ok
 refine⟨nofun,true,rfl,nofun,fun _=>(rI_ratNeg V1 x.1 s1 s2 x.2.1 x.2.2.1 g1 g2 (L1.le le1) (L2.le le1) (by omega) (by omega)).mono ?_⟩
 rintro V2 _ ⟨le2,t,t',g,g',rfl,M1,M2,_⟩
 exact⟨nofun,_,rfl,le1.trans le2,_,_,rfl,rat_mk M1 M2⟩
theorem cL_must (V:Know) (c:Scs [.b,.l,.l]):CallX Tryz.prog V 26 [qv0 c,.bool true] (fun V' r=>V'=V∧r=qv0 c):=by
 refine CallX.of_fits Tryz.mix (fL_must _ _) fun _=>?_
 simp only [tL_must,T.wp]
 exact⟨nofun,fun _=>⟨by trivial,rfl⟩⟩
theorem cL_size (V:Know) (x:DRat) (c:Scs [.b,.l,.l]) (f:List Nat) (hx:rRat.R V c x f) (ok:RatOkP x.1 x.2.1 x.2.2.1) :
  CallX Tryz.prog V 57 [qv0 c] (fun V' r=>V.le V'∧∃ d e g,r=qv0 d∧rRat.R V' d (e,x.2.1,x.2.2.1,()) g∧RatOkP e x.2.1 x.2.2.1∧sval e x.2.1=((sval x.1 x.2.1).natAbs:Int)):=by
 refine CallX.of_fits Tryz.mix (fL_size _) fun _=>?_
 obtain⟨s1,s2,g1,g2,rfl,L1,L2,rfl⟩:=rat_elim hx
 simp only [tL_size,T.wp]
 refine(cI_RatSign V x.1 s1 s2 x.2.1 x.2.2.1 g1 g2 L1 L2 ok).mono ?_
 rintro V1 _ ⟨le1,rfl⟩
 refine⟨nofun,_,rfl,fun hlt=>?_,fun hge=>?_⟩
 ·have h0:sval x.1 x.2.1<0:=by
   have h1:sgn (sval x.1 x.2.1)<0:=of_decide_eq_true hlt
   refine Int.lt_of_not_ge fun k=>?_
   unfold sgn at h1
   by_cases q:sval x.1 x.2.1=0
   ·rw [q] at h1
    revert h1
    decide
   ·have q1:0<sval x.1 x.2.1:=by omega
    simp [q1,show ¬ sval x.1 x.2.1<0 by omega,q] at h1
  refine(cI_RatNeg V1 x (x.1,s1,s2,()) _ (rRat.le hx le1) ok).mono ?_
  rintro V2 _ ⟨le2,d,g,rfl,R2⟩
  refine⟨nofun,(d,true,()),rfl,(cL_must V2 d).mono ?_⟩
  rintro V3 _ ⟨rfl,rfl⟩
  obtain⟨k1,k2⟩:=neg_ok ok
  exact⟨nofun,d,rfl,le1.trans le2,d,_,g,rfl,R2,k1,by rw [k2]; omega⟩
 ·have h0:¬ sval x.1 x.2.1<0:=by
   have:=of_decide_eq_false hge
   intro k
   exact this (by unfold sgn; rw [if_pos k]; decide)
  exact⟨le1,_,x.1,_,rfl,rRat.le hx le1,ok,by omega⟩
theorem cL_small (V:Know) (x:DRat) (c:Scs [.b,.l,.l]) (f:List Nat) (hx:rRat.R V c x f) (ok:RatOkP x.1 x.2.1 x.2.2.1) (hs:((sval x.1 x.2.1).natAbs:Int)<valN x.2.2.1) :
  CallX Tryz.prog V 22 [qv0 c] (fun V' r=>V.le V'∧r=.bool true):=by
 refine CallX.of_fits Tryz.mix (fL_small _) fun _=>?_
 obtain⟨s1,s2,g1,g2,rfl,L1,L2,rfl⟩:=rat_elim hx
 simp only [tL_small,T.wp]
 refine(cS_RatOk V x.1 s1 s2 x.2.1 x.2.2.1 g1 g2 L1 L2).mono ?_
 rintro V1 _ ⟨le1,e,rfl,he⟩
 obtain rfl:e=true:=he.2 ok
 refine⟨nofun,true,rfl,fun _=>?_,nofun⟩
 refine(cL_size V1 x (x.1,s1,s2,()) _ (rRat.le hx le1) ok).mono ?_
 rintro V2 _ ⟨le2,d,e2,g,rfl,R2,ok2,v2⟩
 refine⟨nofun,d,rfl,(cI_IntOf1 V2).mono ?_⟩
 rintro V3 _ ⟨le3,s3,f3,rfl,L3⟩
 have c1:Can [((1:Int),())]:=⟨lims_one (by decide),.inr (by decide)⟩
 refine⟨nofun,(false,s3,()),rfl,(cI_RatInt V3 false s3 _ f3 L3 ⟨⟨c1,by decide⟩,(fun h=>by cases h)⟩).mono ?_⟩
 rintro V4 _ ⟨le4,c4,x4,e4,f4,rfl,R4,_,hx4⟩
 rw [show sval false [((1:Int),())]=1 by decide] at hx4
 obtain rfl:e4=true:=redS_fits (by decide) hx4 (by decide) (by decide)
 refine⟨nofun,(c4,true,()),rfl,(cL_must V4 c4).mono ?_⟩
 rintro V5 _ ⟨rfl,rfl⟩
 obtain⟨v4,p4,_⟩:=redS_val (by decide) hx4
 refine⟨nofun,c4,rfl,(cI_RatCmp V5 (e2,x.2.1,x.2.2.1,()) x4 d c4 _ _ (rRat.le R2 (le3.trans le4)) R4 ok2 (redS_ok (by decide) hx4 rfl)).mono ?_⟩
 rintro V6 _ ⟨le6,rfl⟩
 refine⟨nofun,_,rfl,(le1.trans le2).trans ((le3.trans le4).trans le6),?_⟩
 show Value.bool (decide (sgn (sval e2 x.2.1*valN x4.2.2.1-sval x4.1 x4.2.1*valN x.2.2.1)<0))=_
 rw [Int.mul_one,Int.one_mul] at v4
 rw [v2,v4]
 have hlt:((sval x.1 x.2.1).natAbs:Int)*valN x4.2.2.1<valN x4.2.2.1*valN x.2.2.1:=by
  rw [Int.mul_comm (valN x4.2.2.1)]
  exact Int.mul_lt_mul_of_pos_right hs p4
 rw [show sgn (((sval x.1 x.2.1).natAbs:Int)*valN x4.2.2.1-valN x4.2.2.1*valN x.2.2.1)=-1 by unfold sgn; rw [if_pos (by omega)]]
 rfl
end Go.Proofs.YtmogkainbglpnaaGreatDoor
namespace Go.Proofs.YtmogkainbglpnaaGreatDoor
open Sx
set_option maxRecDepth 100000
theorem law_FnSwap {V:Know} (hV:HeI V) {s:SlV} {l:List (Int × Unit)} {f:List Nat} (h:LR rBy V s l f):CallX Tryz.prog V 4 [Sc.val .l s] (fun V' r=>V.le V'∧r=.bool true):=by
 refine CallX.of_fits Tryz.mix (fL_FnSwap _) fun _=>?_
 simp only [tL_FnSwap,T.wp]
 refine⟨fun _=>⟨Know.le.refl _,rfl⟩,fun _=>(cS_MakeRates V s l f h).mono ?_⟩
 rintro V1 _ ⟨le1,p,t,rs,f1,a,b,rfl,L1,ok,td,za,kb⟩
 refine⟨nofun,((p,t,()),a,b,()),rfl,(cS_MakeAmount V1 s l f (h.le le1) a).mono ?_⟩
 rintro V2 _ ⟨le2,u,o,g,rfl,L2,C2,v2,n2⟩
 have l2:=le1.trans le2
 refine⟨nofun,(a,false,u,()),rfl,(cS_MakeMode V2 s l f (h.le l2)).mono ?_⟩
 rintro V3 _ ⟨le3,md,rfl,m0,m1⟩
 have l3:=l2.trans le3
 have v0:=valN_nonneg C2.1
 have ev:sval false o=valN o:=by simp [sval]
 have hm:known a=true→MoneyOkP a false o:=fun k=>⟨k,⟨⟨C2,by omega⟩,(fun h=>by cases h)⟩,by omega⟩
 refine⟨nofun,md,rfl,(cI_Convert (hV.le l3) p t rs f1 (L1.le (le2.trans le3)) (a,false,u,()) (a,false,o,()) _ (money_mk za (L2.le le3)) b md).mono ?_⟩
 rintro V4 _ ⟨le4,c4,mo,f4,c4',ra,g4,code,rfl,R4,R4',_,h4⟩
 have l4:=l3.trans le4
 have L4:=L1.le ((le2.trans le3).trans le4)
 have M4:=L2.le (le3.trans le4)
 have sw:=conv_swap (m:=(a,false,o,())) ok td kb ⟨m0,m1⟩ hm (by show 0≤sval false o; omega) (by show sval false o≤60000; omega) h4
 refine⟨nofun,(c4,c4',code,()),rfl,?_⟩
 rcases sw with ⟨hc,ka⟩ | ⟨hc,ka,hw⟩ | ⟨hc,ka,hw,okm,mob,okr,sm,x,hx,hsum⟩
 ·subst hc
  replace ka:known a=false:=ka
  refine⟨fun _=>⟨fun _=>?_,fun e=>by cases e⟩,fun e=>by cases e⟩
  refine(cI_RateHow (hV.le l4).1 p t rs f1 L4 a b).mono ?_
  rintro V5 _ ⟨le5,rfl⟩
  refine⟨nofun,_,rfl,fun _=>(cS_CurKnown V5 a).mono ?_,fun _=>⟨l4.trans le5,rfl⟩⟩
  rintro V6 _ ⟨le6,rfl⟩
  refine⟨nofun,_,rfl,fun e=>?_,fun _=>⟨(l4.trans le5).trans le6,rfl⟩⟩
  rw [ka] at e
  cases e
 ·subst hc
  replace ka:known a=true:=ka
  replace hw:how p rs a b=0:=hw
  refine⟨fun _=>⟨fun _=>?_,fun e=>by cases e⟩,fun e=>by cases e⟩
  refine(cI_RateHow (hV.le l4).1 p t rs f1 L4 a b).mono ?_
  rintro V5 _ ⟨le5,rfl⟩
  refine⟨nofun,_,rfl,fun _=>(cS_CurKnown V5 a).mono ?_,fun e=>?_⟩
  ·rintro V6 _ ⟨le6,rfl⟩
   refine⟨nofun,_,rfl,fun _=>(cS_CurKnown V6 b).mono ?_,fun e=>?_⟩
   ·rintro V7 _ ⟨le7,rfl⟩
    refine⟨nofun,_,rfl,(l4.trans le5).trans (le6.trans le7),?_⟩
    rw [kb]
    rfl
   ·rw [ka] at e
    cases e
  ·rw [hw] at e
   cases e
 subst hc
 replace ka:known a=true:=ka
 have hw':howR p rs a b≠0:=by
  rw [← how_ok ok ka kb]
  exact hw
 have okm2:=hm ka
 have G:=ratesG ok
 obtain⟨u0,u1⟩:=unitS_bd G p a b
 obtain⟨d0,d1⟩:=unitD_bd G p a b
 have e18:(1000000000:Int) ^ 18=1000000000000000000000000000000000000000000000000000000000000000000000000000000000000000000000000000000000000000000000000000000000000000000000000000000000000000000:=by decide
 have hD:0<exD p rs (a,false,o,()) b:=d0
 have okx:=redS_ok hD hx rfl
 refine⟨(fun e=>by cases e),fun _=>(cI_UnitRate (hV.le l4).1 p t rs f1 L4 a b ok ka kb hw').mono ?_⟩
 rintro V5 _ ⟨le5,c5,x5,e5,f5,rfl,R5,_,hx5⟩
 obtain rfl:e5=true:=redS_fits d0 hx5 (by omega) (by omega)
 have l5:=l4.trans le5
 have ok5:=redS_ok d0 hx5 rfl
 refine⟨nofun,(c5,true,()),rfl,(cI_MoneyRat (hV.le l5).1 a false u o g (M4.le le5) okm2).mono ?_⟩
 rintro V6 _ ⟨le6,c6,x6,f6,rfl,R6,_,hx6⟩
 have ok6:=redS_ok (by decide) hx6 rfl
 have l6:=l5.trans le6
 obtain⟨s6,t6,g6,k6,rfl,L6,M6,rfl⟩:=rat_elim R6
 obtain⟨s5,t5,g5,k5,rfl,L5,M5,rfl⟩:=rat_elim (rRat.le R5 le6)
 refine⟨fun _=>le6,_,rfl,(cI_RatMul V6 x6.1 s6 t6 x5.1 s5 t5 x6.2.1 x6.2.2.1 x5.2.1 x5.2.2.1 _ _ _ _ L6 M6 L5 M5 ok6 ok5).mono ?_⟩
 rintro V7 _ ⟨le7,c7,x7,e7,f7,rfl,R7,_,hx7⟩
 have l7:=l6.trans le7
 have hx7':=redS_mul (by decide) d0 hx6 hx5 hx7
 rw [Int.one_mul] at hx7'
 obtain⟨rfl,rfl⟩:=redS_inj (x:=x7) (x':=x) hD hx7' hx
 have z4:=R4.1.1
 obtain⟨c40,c41,c42,c4u⟩:=c4
 obtain⟨mo0,mo1,mo2,mou⟩:=mo
 have R4m:=rMoney.le R4 (le5.trans (le6.trans le7))
 obtain⟨⟨q0,_⟩,q1,w1,w2,hq,hs7,hN⟩:=R4m
 replace q0:c40=mo0:=q0
 replace q1:c41=mo1:=q1
 subst q0 q1
 refine⟨nofun,(c7,true,()),rfl,(cI_MoneyRat (hV.le l7).1 c40 c41 c42 mo2 w1 hs7 okm).mono ?_⟩
 rintro V8 _ ⟨le8,c8,x8,f8,rfl,R8,_,hx8⟩
 have ok8:=redS_ok (by decide) hx8 rfl
 have l8:=l7.trans le8
 obtain⟨s8,t8,g8,k8,rfl,L8,M8,rfl⟩:=rat_elim R8
 obtain⟨sr,tr,gr,kr,hcr,Lr,Mr,hgr⟩:=rat_elim (rRat.le R4' ((le5.trans le6).trans (le7.trans le8)))
 subst hcr
 refine⟨fun _=>le8,_,rfl,(cI_RatAdd V8 x8.1 s8 t8 ra.1 sr tr x8.2.1 x8.2.2.1 ra.2.1 ra.2.2.1 _ _ _ _ L8 M8 Lr Mr ok8 okr).mono ?_⟩
 rintro V9 _ ⟨le9,c9,x9,e9,f9,rfl,R9,_,hx9⟩
 have l9:=l8.trans le9
 obtain⟨rfl,rfl⟩:=hsum x8 x9 e9 hx8 hx9
 refine⟨nofun,(c9,true,()),rfl,(cI_Exact (hV.le l9).1 p t rs f1 (L4.le ((le5.trans le6).trans ((le7.trans le8).trans le9))) (a,false,o,()) u g (M4.le ((le5.trans le6).trans ((le7.trans le8).trans le9))) b ok okm2 kb hw').mono ?_⟩
 rintro V10 _ ⟨le10,c10,x10,e10,f10,rfl,R10,_,hx10⟩
 have l10:=l9.trans le10
 obtain⟨rfl,rfl⟩:=redS_inj hD hx10 hx
 refine⟨nofun,(c10,true,()),rfl,fun _=>⟨fun _=>⟨fun _=>⟨fun _=>?_,nofun⟩,nofun⟩,nofun⟩,nofun⟩
 refine(cI_RatCmp V10 x10 x10 c7 c9 _ _ (rRat.le R7 ((le8.trans le9).trans le10)) (rRat.le R9 le10) okx okx).mono ?_
 rintro V11 _ ⟨le11,rfl⟩
 rw [Int.sub_self]
 refine⟨nofun,0,rfl,fun _=>?_,fun e=>by cases e⟩
 refine(cI_RatCmp V11 x10 x10 c10 c7 _ _ (rRat.le R10 le11) (rRat.le R7 (((le8.trans le9).trans le10).trans le11)) okx okx).mono ?_
 rintro V12 _ ⟨le12,rfl⟩
 rw [Int.sub_self]
 refine⟨nofun,0,rfl,fun _=>?_,fun e=>by cases e⟩
 refine(cL_small V12 ra (ra.1,sr,tr,()) _ (rRat.le R4' (((le5.trans le6).trans (le7.trans le8)).trans ((le9.trans le10).trans (le11.trans le12)))) okr sm).mono ?_
 rintro V13 _ ⟨le13,rfl⟩
 refine⟨nofun,true,rfl,fun _=>⟨(l10.trans le11).trans (le12.trans le13),?_⟩,nofun⟩
 have e:c40=b:=mob
 subst e
 show Value.bool (c40.toList == c40.toList)=_
 rw [beq_self_eq_true]
end Go.Proofs.YtmogkainbglpnaaGreatDoor
