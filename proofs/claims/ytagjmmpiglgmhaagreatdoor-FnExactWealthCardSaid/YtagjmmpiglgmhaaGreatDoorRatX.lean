/-
  Fractions: products, quotients, decimals and amounts as fractions; in the program and in the reference.
-/
import Derived.Test.YtagjmmpiglgmhaaGreatDoorTotB
import Derived.Test.YtagjmmpiglgmhaaGreatDoorDecB
namespace Go.Proofs.YtagjmmpiglgmhaaGreatDoor
open Sx
set_option maxRecDepth 100000
theorem sval_mul {c d:Bool} {n m o:List Lim} (h:valN o=valN n*valN m):sval (c != d) o=sval c n*sval d m:=by
 cases c <;> cases d <;> simp [sval,h,Int.neg_mul,Int.mul_neg]
theorem cI_intMul (V:Know) (c0:Bool) (c1:SlV) (d0:Bool) (d1:SlV) (a b:List Lim) (f g:List Nat) (h:LR rI V c1 a f) (h':LR rI V d1 b g) (ha:Can a) (hb:Can b) (la:a.length≤1000000) (lb:b.length≤1000000) :
  CallX Tryz.prog V gI_intMul [Sh1.val (.g [.b,.l]) (c0,c1,()),Sh1.val (.g [.b,.l]) (d0,d1,())] (fun V' r=>V.le V'∧∃ s o f,r=Sh1.val (.g [.b,.l]) ((c0 != d0) && decide (0<o.length),s,())∧LR rI V' s o f∧Own V V' f∧Can o∧valN o=valN a*valN b):=by
 refine CallX.of_fits Tryz.mix (fI_intMul _ _) fun _=>?_
 simp only [tI_intMul,T.wp]
 refine(cI_natMul V c1 d1 a b f g h h' ha.1 hb.1 la lb).mono ?_
 rintro V1 _ ⟨le1,s1,o,bk,rfl,N1,hb1,ho,hv,_⟩
 refine⟨fun _=>le1,s1,rfl,(cI_signed V1 _ s1).mono ?_⟩
 rintro V2 _ ⟨rfl,rfl⟩
 refine⟨fun _=>Know.le.refl _,_,rfl,le1,s1,o,[bk],?_,N1.lr,N1.own hb1,ho,hv⟩
 have hn:=N1.lr.1
 have:decide ((s1.n:Int) > 0)=decide (0<o.length):=decide_eq_decide.2 (by omega)
 show Sh1.val (.g [.b,.l]) ((!(c0 == d0)) && decide ((s1.n:Int) > 0),s1,())=_
 rw [this]
 rfl
theorem cI_RatMul (V:Know) (c0:Bool) (c1 c2:SlV) (d0:Bool) (d1 d2:SlV) (n d m e:List Lim) (f g f' g':List Nat) (h1:LR rI V c1 n f) (h2:LR rI V c2 d g) (h3:LR rI V d1 m f') (h4:LR rI V d2 e g') (hr:RatOkP c0 n d) (hs:RatOkP d0 m e) :
  CallX Tryz.prog V gI_RatMul [Sh1.val (.g [.b,.l,.l]) (c0,c1,c2,()),Sh1.val (.g [.b,.l,.l]) (d0,d1,d2,())] (RatPost V (sval c0 n*sval d0 m) (valN d*valN e)):=by
 refine CallX.of_fits Tryz.mix (fI_RatMul _ _) fun _=>?_
 simp only [tI_RatMul,T.wp]
 have z1:=hr.2.2.2.1
 have z2:=hr.2.2.2.2.1
 have z3:=hs.2.2.2.1
 have z4:=hs.2.2.2.2.1
 have p1:=(can_pos hr.2.1.1).1 hr.2.2.1
 have p2:=(can_pos hs.2.1.1).1 hs.2.2.1
 refine(cI_ratsOk V c0 c1 c2 d0 d1 d2 n d m e f g f' g' h1 h2 h3 h4 hr hs).mono ?_
 rintro V1 _ ⟨le1,rfl⟩
 refine⟨nofun,true,rfl,nofun,fun _=>(cI_intMul V1 c0 c1 d0 d1 n m f f' (h1.le le1) (h3.le le1) hr.1.1.1 hs.1.1.1 (by omega) (by omega)).mono ?_⟩
 rintro V2 _ ⟨le2,s2,o2,f2,rfl,L2,_,C2,v2⟩
 have l2:=le1.trans le2
 have n2:=mul_len (a:=n) (b:=m) hs.1.1.1 C2 hr.1.1.1.1 v2
 refine⟨fun _=>le2,_,rfl,(cI_natMul V2 c2 d2 d e g g' (h2.le l2) (h4.le l2) hr.2.1.1.1 hs.2.1.1.1 (by omega) (by omega)).mono ?_⟩
 rintro V3 _ ⟨le3,s3,o3,b3,rfl,nw,_,C3,v3,_⟩
 have l3:=l2.trans le3
 have n3:=mul_len (a:=d) (b:=e) hs.2.1.1 C3 hr.2.1.1.1 v3
 refine⟨fun _=>le3,s3,rfl,(cI_reduce V3 _ s2 s3 o2 o3 f2 [b3] (L2.le le3) nw.lr C2 C3 (by rw [v3]; exact Int.mul_pos p1 p2) (by omega) (by omega)).mono ?_⟩
 rintro V4 _ ⟨le4,c4,x4,e4,f4,rfl,R4,O4,hx⟩
 refine⟨fun _=>le4,(c4,e4,()),rfl,l3.trans le4,c4,x4,e4,f4,rfl,R4,O4.pre l3,?_⟩
 rw [(made_ok (q:=c0 != d0) C2 (by omega)).2,sval_mul v2,v3] at hx
 exact hx
theorem cS_RatMul (V:Know) (c0:Bool) (c1 c2:SlV) (d0:Bool) (d1 d2:SlV) (n d m e:List Lim) (f g f' g':List Nat) (h1:LR rI V c1 n f) (h2:LR rI V c2 d g) (h3:LR rI V d1 m f') (h4:LR rI V d2 e g') (hr:RatOkP c0 n d) (hs:RatOkP d0 m e) :
  CallX Tryz.prog V gS_RatMul [Sh1.val (.g [.b,.l,.l]) (c0,c1,c2,()),Sh1.val (.g [.b,.l,.l]) (d0,d1,d2,())] (RatPost V (sval c0 n*sval d0 m) (valN d*valN e)):=by
 refine CallX.of_fits Tryz.mix (fS_RatMul _ _) fun _=>?_
 simp only [tS_RatMul,T.wp]
 have z1:=hr.2.2.2.1
 have z2:=hr.2.2.2.2.1
 have z3:=hs.2.2.2.1
 have z4:=hs.2.2.2.2.1
 have p1:=(can_pos hr.2.1.1).1 hr.2.2.1
 have p2:=(can_pos hs.2.1.1).1 hs.2.2.1
 refine(cS_RatOk V c0 c1 c2 n d f g h1 h2).mono ?_
 rintro V1 _ ⟨le1,b1,rfl,hb1⟩
 have hb1:=hb1.2 hr
 subst hb1
 refine⟨nofun,true,rfl,nofun,fun _=>(cS_RatOk V1 d0 d1 d2 m e f' g' (h3.le le1) (h4.le le1)).mono ?_⟩
 rintro V2 _ ⟨le2,b2,rfl,hb2⟩
 have hb2:=hb2.2 hs
 subst hb2
 have l2:=le1.trans le2
 refine⟨nofun,true,rfl,nofun,fun _=>(cS_l02Mul V2 c1 d1 n m f f' (h1.le l2) (h3.le l2) hr.1.1.1.1 hs.1.1.1.1 (by omega) (by omega)).mono ?_⟩
 rintro V3 _ ⟨le3,s3,o3,f3,rfl,L3,_,C3,v3⟩
 have n3:=mul_len (a:=n) (b:=m) hs.1.1.1 C3 hr.1.1.1.1 v3
 have l3:=l2.trans le3
 refine⟨fun _=>le3,s3,rfl,(cS_l02Mul V3 c2 d2 d e g g' (h2.le l3) (h4.le l3) hr.2.1.1.1 hs.2.1.1.1 (by omega) (by omega)).mono ?_⟩
 rintro V4 _ ⟨le4,s4,o4,f4,rfl,L4,_,C4,v4⟩
 have n4:=mul_len (a:=d) (b:=e) hs.2.1.1 C4 hr.2.1.1.1 v4
 have l4:=l3.trans le4
 refine⟨fun _=>le4,s4,rfl,(cS_l05Low V4 (c0 != d0) s3 s4 o3 o4 f3 f4 (L3.le le4) L4 C3 C4 (by rw [v4]; exact Int.mul_pos p1 p2) (by omega) (by omega)).mono ?_⟩
 rintro V5 _ ⟨le5,c5,x5,e5,f5,rfl,R5,O5,hx⟩
 refine⟨fun _=>le5,(c5,e5,()),rfl,l4.trans le5,c5,x5,e5,f5,rfl,R5,O5.pre l4,?_⟩
 rw [sval_mul v3,v4] at hx
 exact hx
def sv (b:Bool) (z:Int):Int:=if b=true then -z else z
theorem sv_sval {b:Bool} {o:List Lim} {z:Int} (h:valN o=z):sval b o=sv b z:=by
 unfold sval sv
 rw [h]
theorem cI_RatDiv (V:Know) (c0:Bool) (c1 c2:SlV) (d0:Bool) (d1 d2:SlV) (n d m e:List Lim) (f g f' g':List Nat) (h1:LR rI V c1 n f) (h2:LR rI V c2 d g) (h3:LR rI V d1 m f') (h4:LR rI V d2 e g') (hr:RatOkP c0 n d) (hs:RatOkP d0 m e) (hm:0<m.length) :
  CallX Tryz.prog V gI_RatDiv [Sh1.val (.g [.b,.l,.l]) (c0,c1,c2,()),Sh1.val (.g [.b,.l,.l]) (d0,d1,d2,())] (RatPost V (sv (c0 != d0) (valN n*valN e)) (valN d*valN m)):=by
 refine CallX.of_fits Tryz.mix (fI_RatDiv _ _) fun _=>?_
 simp only [tI_RatDiv,T.wp]
 have z1:=hr.2.2.2.1
 have z2:=hr.2.2.2.2.1
 have z3:=hs.2.2.2.1
 have z4:=hs.2.2.2.2.1
 have p1:=(can_pos hr.2.1.1).1 hr.2.2.1
 have p2:=(can_pos hs.1.1.1).1 hm
 have hn3:=h3.1
 refine(cI_ratsOk V c0 c1 c2 d0 d1 d2 n d m e f g f' g' h1 h2 h3 h4 hr hs).mono ?_
 rintro V1 _ ⟨le1,rfl⟩
 refine⟨nofun,true,rfl,nofun,fun _=>⟨fun hz=>?_,fun _=>?_⟩⟩
 ·have:(d1.n:Int)=0:=by simpa using hz
  omega
 refine(cI_natMul V1 c1 d2 n e f g' (h1.le le1) (h4.le le1) hr.1.1.1.1 hs.2.1.1.1 (by omega) (by omega)).mono ?_
 rintro V2 _ ⟨le2,s2,o2,b2,rfl,nw2,_,C2,v2,_⟩
 have l2:=le1.trans le2
 have n2:=mul_len (a:=n) (b:=e) hs.2.1.1 C2 hr.1.1.1.1 v2
 refine⟨fun _=>le2,s2,rfl,(cI_signed V2 _ s2).mono ?_⟩
 rintro V3 _ ⟨rfl,rfl⟩
 refine⟨fun _=>Know.le.refl _,_,rfl,(cI_natMul V3 c2 d1 d m g f' (h2.le l2) (h3.le l2) hr.2.1.1.1 hs.1.1.1.1 (by omega) (by omega)).mono ?_⟩
 rintro V4 _ ⟨le4,s4,o4,b4,rfl,nw4,_,C4,v4,_⟩
 have l4:=l2.trans le4
 have n4:=mul_len (a:=d) (b:=m) hs.1.1.1 C4 hr.2.1.1.1 v4
 have hn2:=nw2.lr.1
 have ed:decide ((s2.n:Int) > 0)=decide (0<o2.length):=decide_eq_decide.2 (by omega)
 refine⟨fun _=>le4,s4,rfl,(cI_reduce V4 _ s2 s4 o2 o4 [b2] [b4] (nw2.lr.le le4) nw4.lr C2 C4 (by rw [v4]; exact Int.mul_pos p1 p2) (by omega) (by omega)).mono ?_⟩
 rintro V5 _ ⟨le5,c5,x5,e5,f5,rfl,R5,O5,hx⟩
 refine⟨fun _=>le5,(c5,e5,()),rfl,l4.trans le5,c5,x5,e5,f5,rfl,R5,O5.pre l4,?_⟩
 rw [ed,(made_ok (q:=!(c0 == d0)) C2 (by omega)).2,sv_sval v2,v4] at hx
 exact hx
theorem cS_RatDiv (V:Know) (c0:Bool) (c1 c2:SlV) (d0:Bool) (d1 d2:SlV) (n d m e:List Lim) (f g f' g':List Nat) (h1:LR rI V c1 n f) (h2:LR rI V c2 d g) (h3:LR rI V d1 m f') (h4:LR rI V d2 e g') (hr:RatOkP c0 n d) (hs:RatOkP d0 m e) (hm:0<m.length) :
  CallX Tryz.prog V gS_RatDiv [Sh1.val (.g [.b,.l,.l]) (c0,c1,c2,()),Sh1.val (.g [.b,.l,.l]) (d0,d1,d2,())] (RatPost V (sv (c0 != d0) (valN n*valN e)) (valN d*valN m)):=by
 refine CallX.of_fits Tryz.mix (fS_RatDiv _ _) fun _=>?_
 simp only [tS_RatDiv,T.wp]
 have z1:=hr.2.2.2.1
 have z2:=hr.2.2.2.2.1
 have z3:=hs.2.2.2.1
 have z4:=hs.2.2.2.2.1
 have p1:=(can_pos hr.2.1.1).1 hr.2.2.1
 have p2:=(can_pos hs.1.1.1).1 hm
 refine(cS_RatOk V c0 c1 c2 n d f g h1 h2).mono ?_
 rintro V1 _ ⟨le1,b1,rfl,hb1⟩
 have hb1:=hb1.2 hr
 subst hb1
 refine⟨nofun,true,rfl,nofun,fun _=>(cS_RatOk V1 d0 d1 d2 m e f' g' (h3.le le1) (h4.le le1)).mono ?_⟩
 rintro V2 _ ⟨le2,b2,rfl,hb2⟩
 have hb2:=hb2.2 hs
 subst hb2
 have l2:=le1.trans le2
 refine⟨nofun,true,rfl,nofun,fun _=>(cS_l02Mul V2 c1 d2 n e f g' (h1.le l2) (h4.le l2) hr.1.1.1.1 hs.2.1.1.1 (by omega) (by omega)).mono ?_⟩
 rintro V3 _ ⟨le3,s3,o3,f3,rfl,L3,_,C3,v3⟩
 have n3:=mul_len (a:=n) (b:=e) hs.2.1.1 C3 hr.1.1.1.1 v3
 have l3:=l2.trans le3
 refine⟨fun _=>le3,s3,rfl,(cS_l02Mul V3 c2 d1 d m g f' (h2.le l3) (h3.le l3) hr.2.1.1.1 hs.1.1.1.1 (by omega) (by omega)).mono ?_⟩
 rintro V4 _ ⟨le4,s4,o4,f4,rfl,L4,_,C4,v4⟩
 have n4:=mul_len (a:=d) (b:=m) hs.1.1.1 C4 hr.2.1.1.1 v4
 have l4:=l3.trans le4
 refine⟨fun _=>le4,s4,rfl,(cS_l05Low V4 (c0 != d0) s3 s4 o3 o4 f3 f4 (L3.le le4) L4 C3 C4 (by rw [v4]; exact Int.mul_pos p1 p2) (by omega) (by omega)).mono ?_⟩
 rintro V5 _ ⟨le5,c5,x5,e5,f5,rfl,R5,O5,hx⟩
 refine⟨fun _=>le5,(c5,e5,()),rfl,l4.trans le5,c5,x5,e5,f5,rfl,R5,O5.pre l4,?_⟩
 rw [sv_sval v3,v4] at hx
 exact hx
theorem redS_small {S D:Int} {x:DRat} {e:Bool} {a b:List Lim} (h:RedS S D x e) (ha:Can a) (hb:Can b) (va:(S.natAbs:Int)=valN a) (vb:D=valN b) (hD:0<D) (la:a.length≤18) (lb:b.length≤18):e=true:=by
 obtain⟨p,q,hR,⟨_,_,he,_⟩ | ⟨hn,_,_⟩⟩:=h
 ·exact he
 ·exfalso
  have hg:=gcd_pos (N:=(S.natAbs:Int)) hD
  have p0:=valN_nonneg hR.1.1
  have q0:=valN_nonneg hR.2.1.1
  have hp:valN p≤valN a:=by
   rw [← va,← hR.2.2.1]
   have:valN p*1≤valN p*(Int.gcd (S.natAbs:Int) D:Int):=Int.mul_le_mul_of_nonneg_left (by omega) p0
   omega
  have hq:valN q≤valN b:=by
   rw [← vb]
   have e:=hR.2.2.2
   have:valN q*1≤valN q*(Int.gcd (S.natAbs:Int) D:Int):=Int.mul_le_mul_of_nonneg_left (by omega) q0
   omega
  have h1:=can_len ha hR.1 hp
  have h2:=can_len hb hR.2.1 hq
  exact hn ⟨by omega,by omega⟩
def DecRatPost (V:Know) (n:Bool) (m:List Lim) (sc:Int):Know→Value→Prop:=fun V' r=>V.le V'∧∃ c x f,r=Sh1.val (.g [.b,.l,.l]) c∧rRat.R V' c x f∧Own V V' f∧RedS (sval n m) (ten sc.toNat) x true
theorem decRat_of {n:Bool} {m:List Lim} {sc:Int} {x:DRat} {e:Bool} (hd:DecOkP n m sc) (h:RedS (sval n m) (ten sc.toNat) x e):e=true:=by
 have h6:=hd.2.1
 have h30:=hd.2.2
 exact redS_small h hd.1.1.1 (tenL_can sc.toNat) (sval_abs hd.1.1.1.1) (tenL_val _).symm (ten_pos _) (by omega) (by rw [tenL_len]; omega)
theorem cI_DecRat (V:Know) (n:Bool) (t:SlV) (m:List Lim) (f:List Nat) (sc:Int) (h:LR rI V t m f) (hd:DecOkP n m sc):CallX Tryz.prog V gI_DecRat [decV n t sc] (DecRatPost V n m sc):=by
 refine CallX.of_fits Tryz.mix (fI_DecRat _) fun _=>?_
 simp only [tI_DecRat,T.wp]
 have h6:=hd.2.1
 have h30:=hd.2.2
 refine(cI_DecOk V n t sc m f h).mono ?_
 rintro V1 r ⟨rfl,e,rfl,he⟩
 obtain rfl:e=true:=he.2 hd
 refine⟨nofun,true,rfl,nofun,fun _=>?_⟩
 have ei:sc=((sc.toNat:Nat):Int):=by omega
 have key:=cI_natTen V1 sc.toNat (by omega)
 rw [← ei] at key
 refine key.mono ?_
 rintro V2 _ ⟨le2,s2,f2,rfl,L2,_⟩
 refine⟨fun _=>le2,s2,rfl,(cI_reduce V2 n t s2 m (tenL sc.toNat) f f2 (h.le le2) L2 hd.1.1.1 (tenL_can _) (by rw [tenL_val]; exact ten_pos _) (by omega) (by rw [tenL_len]; omega)).mono ?_⟩
 rintro V3 _ ⟨le3,c3,x3,e3,f3,rfl,R3,O3,hx⟩
 rw [tenL_val] at hx
 obtain rfl:=decRat_of hd hx
 exact⟨fun _=>le3,(c3,true,()),rfl,le2.trans le3,c3,x3,f3,rfl,R3,O3.pre le2,hx⟩
theorem cS_DecRat (V:Know) (n:Bool) (t:SlV) (m:List Lim) (f:List Nat) (sc:Int) (h:LR rI V t m f) (hd:DecOkP n m sc):CallX Tryz.prog V gS_DecRat [decV n t sc] (DecRatPost V n m sc):=by
 refine CallX.of_fits Tryz.mix (fS_DecRat _) fun _=>?_
 simp only [tS_DecRat,T.wp]
 have h6:=hd.2.1
 have h30:=hd.2.2
 refine(cS_DecOk V n t sc m f h).mono ?_
 rintro V1 r ⟨rfl,e,rfl,he⟩
 obtain rfl:e=true:=he.2 hd
 refine⟨nofun,true,rfl,nofun,fun _=>?_⟩
 have ei:sc=((sc.toNat:Nat):Int):=by omega
 have key:=cS_l07Ten V1 sc.toNat (by omega)
 rw [← ei] at key
 refine key.mono ?_
 rintro V2 _ ⟨le2,s2,f2,rfl,L2,_⟩
 refine⟨fun _=>le2,(false,s2,()),rfl,?_⟩
 have hM:CallX Tryz.prog V2 gS_RatMake [Sh1.val (.g [.b,.l]) (n,t,()),Sh1.val (.g [.b,.l]) (false,s2,())] (RatPost V2 (sval n m) (ten sc.toNat)):=by
  refine CallX.of_fits Tryz.mix (fS_RatMake _ _) fun _=>?_
  simp only [tS_RatMake,T.wp]
  refine(cS_IntOk V2 n t m f (h.le le2)).mono ?_
  rintro V3 r ⟨rfl,e,rfl,he⟩
  obtain rfl:e=true:=he.2 hd.1
  refine⟨nofun,true,rfl,nofun,fun _=>(cS_IntOk V3 false s2 _ f2 L2).mono ?_⟩
  rintro V4 r ⟨rfl,e,rfl,he⟩
  obtain rfl:e=true:=he.2 ⟨⟨tenL_can _,by rw [tenL_len]; omega⟩,(fun h=>by cases h)⟩
  refine⟨nofun,true,rfl,nofun,fun _=>(cS_l05Low V4 _ t s2 m _ f f2 (h.le le2) L2 hd.1.1.1 (tenL_can _) (by rw [tenL_val]; exact ten_pos _) (by omega) (by rw [tenL_len]; omega)).mono ?_⟩
  rintro V5 _ ⟨le5,c5,x5,e5,f5,rfl,R5,O5,hx⟩
  rw [tenL_val] at hx
  refine⟨nofun,(c5,e5,()),rfl,le5,c5,x5,e5,f5,rfl,R5,O5,?_⟩
  have eb:(!n == false)=n:=by cases n <;> rfl
  rw [eb] at hx; exact hx
 refine hM.mono ?_
 rintro V3 _ ⟨le3,c3,x3,e3,f3,rfl,R3,O3,hx⟩
 obtain rfl:=decRat_of hd hx
 exact⟨fun _=>le3,(c3,true,()),rfl,le2.trans le3,c3,x3,f3,rfl,R3,O3.pre le2,hx⟩
end Go.Proofs.YtagjmmpiglgmhaaGreatDoor
