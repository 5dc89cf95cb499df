/-
  Whole numbers and amounts as fractions, in the program and in the reference.
-/
import Derived.Test.YtceoihhldnnenaaGreatDoorTotB
import Derived.Test.YtceoihhldnnenaaGreatDoorDecB
namespace Go.Proofs.YtceoihhldnnenaaGreatDoor
open Sx
set_option maxRecDepth 100000
def sv (b:Bool) (z:Int):Int:=if b=true then -z else z
theorem sv_sval {b:Bool} {o:List Lim} {z:Int} (h:valN o=z):sval b o=sv b z:=by
 unfold sval sv
 rw [h]
theorem cI_RatDiv (V:Know) (c0:Bool) (c1 c2:SlV) (d0:Bool) (d1 d2:SlV) (n d m e:List Lim) (f g f' g':List Nat) (h1:LR rI V c1 n f) (h2:LR rI V c2 d g) (h3:LR rI V d1 m f') (h4:LR rI V d2 e g') (hr:RatOkP c0 n d) (hs:RatOkP d0 m e) (hm:0<m.length) :
  CallX Tryz.prog V 310 [qv1 (c0,c1,c2,()),qv1 (d0,d1,d2,())] (RatPost V (sv (c0 != d0) (valN n*valN e)) (valN d*valN m)):=by
 refine CallX.of_fits Tryz.mix (fI_RatDiv _ _) fun _=>?_
 simp only [tI_RatDiv,T.wp]
 have z1:=hr.2.2.2.1
 have z2:=hr.2.2.2.2.1
 have z3:=hs.2.2.2.1
 have z4:=hs.2.2.2.2.1
 have p1:=(can_pos hr.2.1.1).1 hr.2.2.1
 have p2:=(can_pos hs.1.1.1).1 hm
 have hn3:=h3.1
 refine(cI_ratsOk V c0 c1 c2 d0 d1 d2 n d m e f g f' g' h1 h2 h3 h4 hr hs).mono ?_
 rintro V1 _ ⟨le1,rfl⟩
 refine⟨nofun,true,rfl,nofun,fun _=>⟨fun hz=>?_,fun _=>?_⟩⟩
 ·have:(d1.n:Int)=0:=by simpa using hz
  omega
 refine(cI_natMul V1 c1 d2 n e f g' (h1.le le1) (h4.le le1) hr.1.1.1.1 hs.2.1.1.1 (by omega) (by omega)).mono ?_
 rintro V2 _ ⟨le2,s2,o2,b2,rfl,nw2,_,C2,v2,_⟩
 have l2:=le1.trans le2
 have n2:=mul_len (a:=n) (b:=e) hs.2.1.1 C2 hr.1.1.1.1 v2
 refine⟨fun _=>le2,s2,rfl,(cI_signed V2 _ s2).mono ?_⟩
 rintro V3 _ ⟨rfl,rfl⟩
 refine⟨fun _=>Know.le.refl _,_,rfl,(cI_natMul V3 c2 d1 d m g f' (h2.le l2) (h3.le l2) hr.2.1.1.1 hs.1.1.1.1 (by omega) (by omega)).mono ?_⟩
 rintro V4 _ ⟨le4,s4,o4,b4,rfl,nw4,_,C4,v4,_⟩
 have l4:=l2.trans le4
 have n4:=mul_len (a:=d) (b:=m) hs.1.1.1 C4 hr.2.1.1.1 v4
 have hn2:=nw2.lr.1
 have ed:decide ((s2.n:Int) > 0)=decide (0<o2.length):=decide_eq_decide.2 (by omega)
 refine⟨fun _=>le4,s4,rfl,(cI_reduce V4 _ s2 s4 o2 o4 [b2] [b4] (nw2.lr.le le4) nw4.lr C2 C4 (by rw [v4]; exact Int.mul_pos p1 p2) (by omega) (by omega)).mono ?_⟩
 rintro V5 _ ⟨le5,c5,x5,e5,f5,rfl,R5,O5,hx⟩
 refine⟨fun _=>le5,(c5,e5,()),rfl,l4.trans le5,c5,x5,e5,f5,rfl,R5,O5.pre l4,?_⟩
 rw [ed,(made_ok (q:=!(c0 == d0)) C2 (by omega)).2,sv_sval v2,v4] at hx
 exact hx
theorem cS_RatDiv (V:Know) (c0:Bool) (c1 c2:SlV) (d0:Bool) (d1 d2:SlV) (n d m e:List Lim) (f g f' g':List Nat) (h1:LR rI V c1 n f) (h2:LR rI V c2 d g) (h3:LR rI V d1 m f') (h4:LR rI V d2 e g') (hr:RatOkP c0 n d) (hs:RatOkP d0 m e) (hm:0<m.length) :
  CallX Tryz.prog V 117 [qv1 (c0,c1,c2,()),qv1 (d0,d1,d2,())] (RatPost V (sv (c0 != d0) (valN n*valN e)) (valN d*valN m)):=by
 refine CallX.of_fits Tryz.mix (fS_RatDiv _ _) fun _=>?_
 simp only [tS_RatDiv,T.wp]
 have z1:=hr.2.2.2.1
 have z2:=hr.2.2.2.2.1
 have z3:=hs.2.2.2.1
 have z4:=hs.2.2.2.2.1
 have p1:=(can_pos hr.2.1.1).1 hr.2.2.1
 have p2:=(can_pos hs.1.1.1).1 hm
 refine(cS_RatOk V c0 c1 c2 n d f g h1 h2).mono ?_
 rintro V1 _ ⟨le1,b1,rfl,hb1⟩
 have hb1:=hb1.2 hr
 subst hb1
 refine⟨nofun,true,rfl,nofun,fun _=>(cS_RatOk V1 d0 d1 d2 m e f' g' (h3.le le1) (h4.le le1)).mono ?_⟩
 rintro V2 _ ⟨le2,b2,rfl,hb2⟩
 have hb2:=hb2.2 hs
 subst hb2
 have l2:=le1.trans le2
 refine⟨nofun,true,rfl,nofun,fun _=>(cS_l02Mul V2 c1 d2 n e f g' (h1.le l2) (h4.le l2) hr.1.1.1.1 hs.2.1.1.1 (by omega) (by omega)).mono ?_⟩
 rintro V3 _ ⟨le3,s3,o3,f3,rfl,L3,_,C3,v3⟩
 have n3:=mul_len (a:=n) (b:=e) hs.2.1.1 C3 hr.1.1.1.1 v3
 have l3:=l2.trans le3
 refine⟨fun _=>le3,s3,rfl,(cS_l02Mul V3 c2 d1 d m g f' (h2.le l3) (h3.le l3) hr.2.1.1.1 hs.1.1.1.1 (by omega) (by omega)).mono ?_⟩
 rintro V4 _ ⟨le4,s4,o4,f4,rfl,L4,_,C4,v4⟩
 have n4:=mul_len (a:=d) (b:=m) hs.1.1.1 C4 hr.2.1.1.1 v4
 have l4:=l3.trans le4
 refine⟨fun _=>le4,s4,rfl,(cS_l05Low V4 (c0 != d0) s3 s4 o3 o4 f3 f4 (L3.le le4) L4 C3 C4 (by rw [v4]; exact Int.mul_pos p1 p2) (by omega) (by omega)).mono ?_⟩
 rintro V5 _ ⟨le5,c5,x5,e5,f5,rfl,R5,O5,hx⟩
 refine⟨fun _=>le5,(c5,e5,()),rfl,l4.trans le5,c5,x5,e5,f5,rfl,R5,O5.pre l4,?_⟩
 rw [sv_sval v3,v4] at hx
 exact hx
theorem redS_small {S D:Int} {x:DRat} {e:Bool} {a b:List Lim} (h:RedS S D x e) (ha:Can a) (hb:Can b) (va:(S.natAbs:Int)=valN a) (vb:D=valN b) (hD:0<D) (la:a.length≤18) (lb:b.length≤18):e=true:=by
 obtain⟨p,q,hR,⟨_,_,he,_⟩ | ⟨hn,_,_⟩⟩:=h
 ·exact he
 ·exfalso
  have hg:=gcd_pos (N:=(S.natAbs:Int)) hD
  have p0:=valN_nonneg hR.1.1
  have q0:=valN_nonneg hR.2.1.1
  have hp:valN p≤valN a:=by
   rw [← va,← hR.2.2.1]
   have:valN p*1≤valN p*(Int.gcd (S.natAbs:Int) D:Int):=Int.mul_le_mul_of_nonneg_left (by omega) p0
   omega
  have hq:valN q≤valN b:=by
   rw [← vb]
   have e:=hR.2.2.2
   have:valN q*1≤valN q*(Int.gcd (S.natAbs:Int) D:Int):=Int.mul_le_mul_of_nonneg_left (by omega) q0
   omega
  have h1:=can_len ha hR.1 hp
  have h2:=can_len hb hR.2.1 hq
  exact hn ⟨by omega,by omega⟩
def DecRatPost (V:Know) (n:Bool) (m:List Lim) (sc:Int):Know→Value→Prop:=fun V' r=>V.le V'∧∃ c x f,r=qv1 c∧rRat.R V' c x f∧Own V V' f∧RedS (sval n m) (ten sc.toNat) x true
theorem decRat_of {n:Bool} {m:List Lim} {sc:Int} {x:DRat} {e:Bool} (hd:DecOkP n m sc) (h:RedS (sval n m) (ten sc.toNat) x e):e=true:=by
 have h6:=hd.2.1
 have h30:=hd.2.2
 exact redS_small h hd.1.1.1 (tenL_can sc.toNat) (sval_abs hd.1.1.1.1) (tenL_val _).symm (ten_pos _) (by omega) (by rw [tenL_len]; omega)
theorem cI_DecRat (V:Know) (n:Bool) (t:SlV) (m:List Lim) (f:List Nat) (sc:Int) (h:LR rI V t m f) (hd:DecOkP n m sc):CallX Tryz.prog V 309 [decV n t sc] (DecRatPost V n m sc):=by
 refine CallX.of_fits Tryz.mix (fI_DecRat _) fun _=>?_
 simp only [tI_DecRat,T.wp]
 have h6:=hd.2.1
 have h30:=hd.2.2
 refine(cI_DecOk V n t sc m f h).mono ?_
 rintro V1 r ⟨rfl,e,rfl,he⟩
 obtain rfl:e=true:=he.2 hd
 refine⟨nofun,true,rfl,nofun,fun _=>?_⟩
 have ei:sc=((sc.toNat:Nat):Int):=by omega
 have key:=cI_natTen V1 sc.toNat (by omega)
 rw [← ei] at key
 refine key.mono ?_
 rintro V2 _ ⟨le2,s2,f2,rfl,L2,_⟩
 refine⟨fun _=>le2,s2,rfl,(cI_reduce V2 n t s2 m (tenL sc.toNat) f f2 (h.le le2) L2 hd.1.1.1 (tenL_can _) (by rw [tenL_val]; exact ten_pos _) (by omega) (by rw [tenL_len]; omega)).mono ?_⟩
 rintro V3 _ ⟨le3,c3,x3,e3,f3,rfl,R3,O3,hx⟩
 rw [tenL_val] at hx
 obtain rfl:=decRat_of hd hx
 exact⟨fun _=>le3,(c3,true,()),rfl,le2.trans le3,c3,x3,f3,rfl,R3,O3.pre le2,hx⟩
theorem cS_DecRat (V:Know) (n:Bool) (t:SlV) (m:List Lim) (f:List Nat) (sc:Int) (h:LR rI V t m f) (hd:DecOkP n m sc):CallX Tryz.prog V 116 [decV n t sc] (DecRatPost V n m sc):=by
 refine CallX.of_fits Tryz.mix (fS_DecRat _) fun _=>?_
 simp only [tS_DecRat,T.wp]
 have h6:=hd.2.1
 have h30:=hd.2.2
 refine(cS_DecOk V n t sc m f h).mono ?_
 rintro V1 r ⟨rfl,e,rfl,he⟩
 obtain rfl:e=true:=he.2 hd
 refine⟨nofun,true,rfl,nofun,fun _=>?_⟩
 have ei:sc=((sc.toNat:Nat):Int):=by omega
 have key:=cS_l07Ten V1 sc.toNat (by omega)
 rw [← ei] at key
 refine key.mono ?_
 rintro V2 _ ⟨le2,s2,f2,rfl,L2,_⟩
 refine⟨fun _=>le2,(false,s2,()),rfl,?_⟩
 have hM:CallX Tryz.prog V2 85 [qv0 (n,t,()),qv0 (false,s2,())] (RatPost V2 (sval n m) (ten sc.toNat)):=by
  refine CallX.of_fits Tryz.mix (fS_RatMake _ _) fun _=>?_
  simp only [tS_RatMake,T.wp]
  refine(cS_IntOk V2 n t m f (h.le le2)).mono ?_
  rintro V3 r ⟨rfl,e,rfl,he⟩
  obtain rfl:e=true:=he.2 hd.1
  refine⟨nofun,true,rfl,nofun,fun _=>(cS_IntOk V3 false s2 _ f2 L2).mono ?_⟩
  rintro V4 r ⟨rfl,e,rfl,he⟩
  obtain rfl:e=true:=he.2 ⟨⟨tenL_can _,by rw [tenL_len]; omega⟩,(fun h=>by cases h)⟩
  refine⟨nofun,true,rfl,nofun,fun _=>(cS_l05Low V4 _ t s2 m _ f f2 (h.le le2) L2 hd.1.1.1 (tenL_can _) (by rw [tenL_val]; exact ten_pos _) (by omega) (by rw [tenL_len]; omega)).mono ?_⟩
  rintro V5 _ ⟨le5,c5,x5,e5,f5,rfl,R5,O5,hx⟩
  rw [tenL_val] at hx
  refine⟨nofun,(c5,e5,()),rfl,le5,c5,x5,e5,f5,rfl,R5,O5,?_⟩
  have eb:(!n == false)=n:=by cases n <;> rfl
  rw [eb] at hx; exact hx
 refine hM.mono ?_
 rintro V3 _ ⟨le3,c3,x3,e3,f3,rfl,R3,O3,hx⟩
 obtain rfl:=decRat_of hd hx
 exact⟨fun _=>le3,(c3,true,()),rfl,le2.trans le3,c3,x3,f3,rfl,R3,O3.pre le2,hx⟩
end Go.Proofs.YtceoihhldnnenaaGreatDoor
namespace Go.Proofs.YtceoihhldnnenaaGreatDoor
open Sx
set_option maxRecDepth 100000
theorem gcd_cross {N D N' D' p q:Int} (hN:0≤N) (hD:0<D) (hN':0≤N') (hD':0<D') (h:N*D'=N'*D) (hp:p*(Int.gcd N D:Int)=N) (hq:q*(Int.gcd N D:Int)=D) :
  p*(Int.gcd N' D':Int)=N'∧q*(Int.gcd N' D':Int)=D':=by
 have hg0:Int.gcd N D≠0:=fun e=>by
  have:=(Int.gcd_eq_zero_iff.1 e).2
  omega
 have hg:0<(Int.gcd N D:Int):=by omega
 generalize hgg:(Int.gcd N D:Int)=g at *
 have p0:0≤p:=by
  refine Int.le_of_not_gt fun k=>?_
  have:p*g<0:=Int.mul_neg_of_neg_of_pos k hg
  omega
 have q0:0≤q:=by
  refine Int.le_of_not_gt fun k=>?_
  have:q*g<0:=Int.mul_neg_of_neg_of_pos k hg
  omega
 have e1:p*D'=q*N':=by
  have:(p*D')*g=(q*N')*g:=by
   calc (p*D')*g=(p*g)*D':=by ac_rfl
    _=N'*(q*g):=by rw [hp,hq,h]
    _=(q*N')*g:=by ac_rfl
  exact Int.eq_of_mul_eq_mul_right (by omega) this
 have co:Int.gcd p q=1:=by
  have e:Int.gcd (p*g) (q*g)=Int.gcd p q*Int.natAbs g:=Int.gcd_mul_right _ _ _
  rw [hp,hq] at e
  have:Int.natAbs g=Int.gcd N D:=by omega
  rw [this] at e
  have:1*Int.gcd N D=Int.gcd p q*Int.gcd N D:=by omega
  exact(Nat.eq_of_mul_eq_mul_right (by omega) this).symm
 constructor
 ·have e:Int.gcd (p*N') (p*D')=Int.natAbs p*Int.gcd N' D':=Int.gcd_mul_left _ _ _
  rw [e1] at e
  have e2:Int.gcd (p*N') (q*N')=Int.gcd p q*Int.natAbs N':=Int.gcd_mul_right _ _ _
  rw [co,Nat.one_mul] at e2
  rw [e2] at e
  have:(Int.natAbs N':Int)=(Int.natAbs p:Int)*(Int.gcd N' D':Int):=by rw [e]; exact Int.natCast_mul _ _
  rw [Int.natAbs_of_nonneg p0,Int.natAbs_of_nonneg hN'] at this
  exact this.symm
 ·have e:Int.gcd (q*N') (q*D')=Int.natAbs q*Int.gcd N' D':=Int.gcd_mul_left _ _ _
  rw [← e1] at e
  have e2:Int.gcd (p*D') (q*D')=Int.gcd p q*Int.natAbs D':=Int.gcd_mul_right _ _ _
  rw [co,Nat.one_mul] at e2
  rw [e2] at e
  have:(Int.natAbs D':Int)=(Int.natAbs q:Int)*(Int.gcd N' D':Int):=by rw [e]; exact Int.natCast_mul _ _
  rw [Int.natAbs_of_nonneg q0,Int.natAbs_of_nonneg (by omega)] at this
  exact this.symm
theorem redS_cross {S D S' D':Int} {x:DRat} {e:Bool} (hD:0<D) (hD':0<D') (h:S*D'=S'*D) (hx:RedS S D x e):RedS S' D' x e:=by
 obtain⟨p,q,⟨c1,c2,h1,h2⟩,h3⟩:=hx
 have hs:((S.natAbs:Int))*D'=(S'.natAbs:Int)*D:=by
  have:=congrArg Int.natAbs h
  rw [Int.natAbs_mul,Int.natAbs_mul] at this
  have h3:=congrArg (Nat.cast (R:=Int)) this
  rw [Int.natCast_mul,Int.natCast_mul,Int.natAbs_of_nonneg (by omega:0≤D'),Int.natAbs_of_nonneg (by omega:0≤D)] at h3
  exact h3
 obtain⟨k1,k2⟩:=gcd_cross (by omega) hD (by omega) hD' hs h1 h2
 have hneg:decide (S<0)=decide (S'<0):=by
  refine decide_eq_decide.2 ⟨fun k=>?_,fun k=>?_⟩
  ·refine Int.lt_of_not_ge fun k'=>?_
   have a1:S*D'<0:=Int.mul_neg_of_neg_of_pos k hD'
   have a2:0≤S'*D:=Int.mul_nonneg k' (by omega)
   omega
  ·refine Int.lt_of_not_ge fun k'=>?_
   have a1:S'*D<0:=Int.mul_neg_of_neg_of_pos k hD
   have a2:0≤S*D':=Int.mul_nonneg k' (by omega)
   omega
 refine⟨p,q,⟨c1,c2,k1,k2⟩,?_⟩
 rw [← hneg]
 exact h3
theorem redS_len {S D:Int} {x:DRat} {e:Bool} (hD:0<D) (h:RedS S D x e) (k:Nat) (hk:0<k) (hS:(S.natAbs:Int)<1000000000 ^ k) (hDb:D<1000000000 ^ k) (hk18:k≤18):e=true∧x.2.1.length≤k∧x.2.2.1.length≤k:=by
 obtain⟨p,q,h1,h2⟩:=h
 have hg:=gcd_pos (N:=(S.natAbs:Int)) hD
 have p0:=valN_nonneg h1.1.1
 have q0:=valN_nonneg h1.2.1.1
 have bd:∀ {l:List Lim},Can l→∀ {N:Int},valN l*(Int.gcd (S.natAbs:Int) D:Int)=N→N<1000000000 ^ k→l.length≤k:=by
  intro l hl N hv hN
  by_cases kk:l.length≤k
  ·exact kk
  ·have g1:=can_ge hl (by omega)
   have g2:=pw_mono (show k≤l.length-1 by omega)
   have g3:valN l*1≤valN l*(Int.gcd (S.natAbs:Int) D:Int):=Int.mul_le_mul_of_nonneg_left (by omega) (valN_nonneg hl.1)
   omega
 have lp:=bd h1.1 h1.2.2.1 hS
 have lq:=bd h1.2.1 h1.2.2.2 hDb
 rcases h2 with ⟨_,_,c,rfl⟩ | ⟨hl,_,_⟩
 ·exact⟨c,lp,lq⟩
 ·exact absurd ⟨by omega,by omega⟩ hl
theorem redS_fits {S D:Int} {x:DRat} {e:Bool} (hD:0<D) (h:RedS S D x e) (hS:(S.natAbs:Int)<1000000000 ^ 18) (hDb:D<1000000000 ^ 18):e=true:=(redS_len hD h 18 (by omega) hS hDb (by omega)).1
theorem redS_val {S D:Int} {x:DRat} (hD:0<D) (h:RedS S D x true):sval x.1 x.2.1*D=S*valN x.2.2.1∧0<valN x.2.2.1∧(0<S→x.1=false∧0<valN x.2.1):=by
 obtain⟨p,q,h1,h2⟩:=h
 rcases h2 with ⟨_,_,_,rfl⟩ | ⟨_,c,_⟩
 ·have q0:=red_pos hD h1
  obtain⟨c1,c2,v1,v2⟩:=id h1
  refine⟨?_,q0,fun hS=>⟨decide_eq_false (by omega),(red_num hD h1).2 (by omega)⟩⟩
  show sval (decide (S<0)) p*D=S*valN q
  have e1:sval (decide (S<0)) p*(Int.gcd (S.natAbs:Int) D:Int)=S:=by
   unfold sval
   by_cases k:S<0
   ·simp only [k,decide_true,if_true]
    rw [Int.neg_mul,v1]; omega
   ·simp only [k,decide_false,Bool.false_eq_true,if_false]
    rw [v1]; omega
  calc sval (decide (S<0)) p*D=sval (decide (S<0)) p*(valN q*(Int.gcd (S.natAbs:Int) D:Int)):=by rw [v2]
   _=(sval (decide (S<0)) p*(Int.gcd (S.natAbs:Int) D:Int))*valN q:=by ac_rfl
   _=S*valN q:=by rw [e1]
 ·cases c
theorem redS_div {S1 D1 S2 D2:Int} {x y z:DRat} {e:Bool} (h1:0<D1) (h2:0<D2) (hS2:0<S2) (hx:RedS S1 D1 x true) (hy:RedS S2 D2 y true) (hz:RedS (sv (x.1 != y.1) (valN x.2.1*valN y.2.2.1)) (valN x.2.2.1*valN y.2.1) z e):RedS (S1*D2) (D1*S2) z e:=by
 obtain⟨v1,p1,_⟩:=redS_val h1 hx
 obtain⟨v2,p2,k2⟩:=redS_val h2 hy
 obtain⟨hy1,hy2⟩:=k2 hS2
 rw [hy1] at hz v2
 have e1:sv (x.1 != false) (valN x.2.1*valN y.2.2.1)=sval x.1 x.2.1*valN y.2.2.1:=by
  unfold sv sval
  cases x.1 <;> simp [Int.neg_mul]
 have e2:sval false y.2.1=valN y.2.1:=by unfold sval; simp
 rw [e1] at hz
 rw [e2] at v2
 refine redS_cross (Int.mul_pos p1 hy2) (Int.mul_pos h1 hS2) ?_ hz
 calc sval x.1 x.2.1*valN y.2.2.1*(D1*S2)=(sval x.1 x.2.1*D1)*(S2*valN y.2.2.1):=by ac_rfl
  _=(S1*valN x.2.2.1)*(valN y.2.1*D2):=by rw [v1,v2]
  _=S1*D2*(valN x.2.2.1*valN y.2.1):=by ac_rfl
def awayB (m:Int) (neg:Bool) (c:Int) (odd:Bool):Bool :=
 if m=0 then false else if m=1 then true else if m=2 then neg else if m=3 then !neg else if m=4 then decide (c > 0) else if m=5 then decide (c≥0) else decide (c > 0) || (decide (c=0) && odd)
def upN (m:Int) (neg:Bool) (n d:Int):Prop:=0<n % d∧awayB m neg (sgn (n % d+n % d-d)) (decide (n / d % 2=1))=true
noncomputable def rndN (m:Int) (neg:Bool) (n d:Int):Int:=by
 classical
 exact if upN m neg n d then n / d+1 else n / d
theorem rnd_up {m:Int} {neg:Bool} {n d:Int} (h:upN m neg n d):rndN m neg n d=n / d+1:=by
 unfold rndN; exact if_pos h
theorem rnd_down {m:Int} {neg:Bool} {n d:Int} (h:¬ upN m neg n d):rndN m neg n d=n / d:=by
 unfold rndN; exact if_neg h
theorem rnd_cases (m:Int) (neg:Bool) (n d:Int):(rndN m neg n d=n / d+1∧0<n % d)∨rndN m neg n d=n / d:=by
 by_cases h:upN m neg n d
 ·exact .inl ⟨rnd_up h,h.1⟩
 ·exact .inr (rnd_down h)
theorem quot_mod {n d q r:Int} (h:n=q*d+r) (h0:0≤r) (h1:r<d):q=n / d∧r=n % d:=by
 have e:=Int.mul_ediv_add_emod n d
 refine quot_unique h (q':=n / d) (r':=n % d) (by rw [Int.mul_comm]; exact e.symm) ⟨h0,h1⟩ ⟨Int.emod_nonneg _ (by omega),Int.emod_lt_of_pos _ (by omega)⟩
theorem rnd_diff {m:Int} {neg:Bool} {n d:Int} (hd:0<d):-d≤n-rndN m neg n d*d∧n-rndN m neg n d*d≤d:=by
 have e:=Int.mul_ediv_add_emod n d
 have h0:=Int.emod_nonneg n (show d≠0 by omega)
 have h1:=Int.emod_lt_of_pos n hd
 have e2:n / d*d=d*(n / d):=Int.mul_comm _ _
 rcases rnd_cases m neg n d with ⟨q,_⟩ | q
 ·rw [q,Int.add_mul,Int.one_mul,e2]; omega
 ·rw [q,e2]; omega
theorem rnd_le {m:Int} {neg:Bool} {n d:Int} (hn:0≤n) (hd:0<d):rndN m neg n d≤n:=by
 have e:=Int.mul_ediv_add_emod n d
 have h0:=Int.emod_nonneg n (show d≠0 by omega)
 have hq:=Int.ediv_nonneg hn (show 0≤d by omega)
 have h2:1*(n / d)≤d*(n / d):=Int.mul_le_mul_of_nonneg_right (by omega) hq
 rcases rnd_cases m neg n d with ⟨q,hr⟩ | q <;> omega
theorem val_par {l:List Lim} (h:0<l.length):valN l % 2=limb l 0 % 2:=by
 have key:∀ i,0<i→valTo l i % 2=limb l 0 % 2:=by
  intro i
  induction i with
  | zero=>intro h; omega
  | succ k ih =>
   intro _
   show(valTo l k+limb l k*1000000000 ^ k) % 2=_
   cases k with
   | zero=>simp [valTo]
   | succ j =>
    have:=ih (by omega)
    have e:limb l (j+1)*1000000000 ^ (j+1)=2*(limb l (j+1)*(500000000*1000000000 ^ j)):=by
     rw [pw_succ]
     have:(1000000000:Int)=2*500000000:=by decide
     rw [show(1000000000:Int)*1000000000 ^ j=2*(500000000*1000000000 ^ j) by omega]
     ac_rfl
    omega
 exact key _ h
def RndP (m:Int) (x:DRat) (e:Bool) (q:List Lim):Prop:=Can q∧valN q=rndN m x.1 (valN x.2.1) (valN x.2.2.1)∧e=(x.1 && decide (0<q.length))
def LeftP (x:DRat) (e:Bool) (q:List Lim) (y:DRat):Prop:=RedS (sval x.1 x.2.1-sval e q*valN x.2.2.1) (valN x.2.2.1) y true
theorem rndP_inj {m:Int} {x:DRat} {e e':Bool} {q q':List Lim} (h:RndP m x e q) (h':RndP m x e' q'):e=e'∧q=q':=by
 obtain rfl:=can_inj h.1 h'.1 (h.2.1.trans h'.2.1.symm)
 exact⟨h.2.2.trans h'.2.2.symm,rfl⟩
theorem rnd_len {m:Int} {x:DRat} {e:Bool} {q:List Lim} (hx:RatOkP x.1 x.2.1 x.2.2.1) (h:RndP m x e q):q.length≤18∧IntOkP e q∧sval e q=sval x.1 q:=by
 have hn:=valN_nonneg hx.1.1.1.1
 have hd:=(can_pos hx.2.1.1).1 hx.2.2.1
 have h1:=rnd_le (m:=m) (neg:=x.1) hn hd
 have h2:=can_len hx.1.1.1 h.1 (by rw [h.2.1]; exact h1)
 have h3:=hx.2.2.2.2.1
 obtain⟨k1,k2⟩:=made_ok (q:=x.1) h.1 (by omega)
 rw [h.2.2]
 exact⟨by omega,k1,k2⟩
theorem left_bd {m:Int} {x:DRat} {e:Bool} {q:List Lim} (hx:RatOkP x.1 x.2.1 x.2.2.1) (h:RndP m x e q):((sval x.1 x.2.1-sval e q*valN x.2.2.1).natAbs:Int)<1000000000 ^ 18∧0<valN x.2.2.1∧valN x.2.2.1<1000000000 ^ 18:=by
 have hd:=(can_pos hx.2.1.1).1 hx.2.2.1
 have hb:=(valTo_bd hx.2.1.1.1 x.2.2.1.length).2
 have e2:valTo x.2.2.1 x.2.2.1.length=valN x.2.2.1:=rfl
 have hp:=pw_mono hx.2.2.2.1
 have h1:=rnd_diff (m:=m) (neg:=x.1) (n:=valN x.2.1) hd
 rw [← h.2.1] at h1
 rw [(rnd_len hx h).2.2]
 refine⟨?_,hd,by omega⟩
 unfold sval
 split
 ·rw [Int.neg_mul]; omega
 ·omega
def OutP (to:ByteArray) (m:Int) (x:DRat) (mo:DMoney) (ra:DRat) (ok:Bool):Prop :=
 ∃ e q,RndP m x e q∧((q.length≤4∧ok=true∧mo=(to,e,q,())∧LeftP x e q ra)∨(¬ q.length≤4∧ok=false∧mo=(ByteArray.empty,false,[],())∧ra=(false,[],[],())))
end Go.Proofs.YtceoihhldnnenaaGreatDoor
namespace Go.Proofs.YtceoihhldnnenaaGreatDoor
open Sx
set_option maxRecDepth 100000
theorem cI_IntOf1 (V:Know):CallX Tryz.prog V 256 [.int .i64 1] (fun V' r=>V.le V'∧∃ s f,r=qv0 (false,s,())∧LR rI V' s [(1,())] f):=by
 refine CallX.of_fits Tryz.mix (fI_IntOf _) fun _=>?_
 simp only [tI_IntOf,T.wp]
 refine⟨fun h=>?_,fun _=>?_⟩
 ·have:(1:Int)<0:=of_decide_eq_true h
  omega
 rw [show IntKind.u64.wrap 1=1 from wrap_u64 (by omega)]
 refine(cI_natOf V 1 (by omega)).mono ?_
 rintro V1 _ ⟨le1,s,o,f,rfl,L,_,C,v,_⟩
 have e:o=[(1,())]:=can_inj C ⟨lims_one (by decide),.inr (by decide)⟩ (by rw [v,valN_one])
 subst e
 exact⟨nofun,s,rfl,le1,s,f,rfl,L⟩
theorem cS_IntOf1 (V:Know):CallX Tryz.prog V 86 [.int .i64 1] (fun V' r=>V.le V'∧∃ s f,r=qv0 (false,s,())∧LR rI V' s [(1,())] f):=by
 refine CallX.of_fits Tryz.mix (fS_IntOf _) fun _=>?_
 simp only [tS_IntOf,T.wp]
 refine⟨fun h=>?_,fun _=>⟨fun h=>?_,fun _=>?_⟩⟩
 ·have:(1:Int)=-9223372036854775808:=by simp at h
  omega
 ·have:(1:Int)<0:=of_decide_eq_true h
  omega
 refine(cS_NatOf V 1 (by omega)).mono ?_
 rintro V1 _ ⟨le1,s,o,f,rfl,L,_,C,v,_⟩
 have e:o=[(1,())]:=can_inj C ⟨lims_one (by decide),.inr (by decide)⟩ (by rw [v,valN_one])
 subst e
 refine⟨nofun,s,rfl,(cS_l04Make V1 false s _ f L C (by simp)).mono ?_⟩
 rintro V2 _ ⟨le2,s2,f2,rfl,L2,_⟩
 exact⟨nofun,(false,s2,()),rfl,le1.trans le2,s2,f2,rfl,L2⟩
theorem oneI_ok:IntOkP false [((1:Int),())]:=⟨⟨⟨lims_one (by decide),.inr (by decide)⟩,by simp⟩,fun h=>by cases h⟩
theorem cI_intsOk (V:Know) (c0:Bool) (c1:SlV) (d0:Bool) (d1:SlV) (a b:List Lim) (f g:List Nat) (h:LR rI V c1 a f) (h':LR rI V d1 b g) (ha:IntOkP c0 a) (hb:IntOkP d0 b) :
  CallX Tryz.prog V 262 [qv0 (c0,c1,()),qv0 (d0,d1,())] (fun V' r=>V'=V∧r=.bool true):=by
 refine CallX.of_fits Tryz.mix (fI_intsOk _ _) fun _=>?_
 simp only [tI_intsOk,T.wp]
 refine(cI_IntOk V c0 c1 a f h).mono ?_
 rintro V1 _ ⟨rfl,e,rfl,he⟩
 have he:=he.2 ha
 subst he
 refine⟨nofun,true,rfl,fun _=>(cI_IntOk V1 d0 d1 b g h').mono ?_,nofun⟩
 rintro V2 _ ⟨rfl,e,rfl,he⟩
 have he:=he.2 hb
 subst he
 exact⟨nofun,true,rfl,rfl,rfl⟩
theorem cI_RatInt (V:Know) (c0:Bool) (s:SlV) (n:List Lim) (f:List Nat) (h:LR rI V s n f) (hn:IntOkP c0 n):CallX Tryz.prog V 247 [qv0 (c0,s,())] (RatPost V (sval c0 n) 1):=by
 refine CallX.of_fits Tryz.mix (fI_RatInt _) fun _=>?_
 simp only [tI_RatInt,T.wp]
 refine(cI_IntOf1 V).mono ?_
 rintro V1 _ ⟨le1,s1,f1,rfl,L1⟩
 have key:CallX Tryz.prog V1 255 [qv0 (c0,s,()),qv0 (false,s1,())] (RatPost V1 (sval c0 n) 1):=by
  have hL:=h.le le1
  have hs:=hL.1
  have hs1:=L1.1
  have hlen:=hn.1.2
  refine CallX.of_fits Tryz.mix (fI_RatMake _ _) fun _=>?_
  simp only [tI_RatMake,T.wp]
  refine(cI_intsOk V1 c0 s false s1 n _ f f1 hL L1 hn oneI_ok).mono ?_
  rintro V2 _ ⟨rfl,rfl⟩
  refine⟨nofun,true,rfl,nofun,fun _=>⟨fun hz=>?_,fun _=>(cI_signed V2 _ s).mono ?_⟩⟩
  ·have:(s1.n:Int)=0:=by simpa using hz
   simp at hs1
   omega
  rintro V3 _ ⟨rfl,rfl⟩
  have e:((!c0 == false) && decide ((s.n:Int) > 0))=c0:=by
   cases c0 with
   | false=>rfl
   | true =>
    have:=hn.2 rfl
    have q:decide ((s.n:Int) > 0)=true:=decide_eq_true (by omega)
    rw [q]; rfl
  refine⟨fun _=>Know.le.refl _,(c0,s,()),by rw [e]; rfl,(cI_reduce V3 c0 s s1 n _ f f1 hL L1 hn.1.1 oneI_ok.1.1 (by rw [valN_one]; decide) (by omega) (by simp)).mono ?_⟩
  rintro V4 _ ⟨le4,c,x,e4,f4,rfl,R4,O4,hx⟩
  rw [valN_one] at hx
  exact⟨fun _=>le4,(c,e4,()),rfl,le4,c,x,e4,f4,rfl,R4,O4,hx⟩
 refine⟨fun _=>le1,(false,s1,()),rfl,key.mono ?_⟩
 rintro V4 _ ⟨le4,c,x,e4,f4,rfl,R4,O4,hx⟩
 exact⟨fun _=>le4,(c,e4,()),rfl,le1.trans le4,c,x,e4,f4,rfl,R4,O4.pre le1,hx⟩
theorem cS_RatInt (V:Know) (c0:Bool) (s:SlV) (n:List Lim) (f:List Nat) (h:LR rI V s n f) (hn:IntOkP c0 n):CallX Tryz.prog V 45 [qv0 (c0,s,())] (RatPost V (sval c0 n) 1):=by
 refine CallX.of_fits Tryz.mix (fS_RatInt _) fun _=>?_
 simp only [tS_RatInt,T.wp]
 refine(cS_IntOf1 V).mono ?_
 rintro V1 _ ⟨le1,s1,f1,rfl,L1⟩
 have key:CallX Tryz.prog V1 85 [qv0 (c0,s,()),qv0 (false,s1,())] (RatPost V1 (sval c0 n) 1):=by
  have hL:=h.le le1
  have hlen:=hn.1.2
  refine CallX.of_fits Tryz.mix (fS_RatMake _ _) fun _=>?_
  simp only [tS_RatMake,T.wp]
  refine(cS_IntOk V1 c0 s n f hL).mono ?_
  rintro V2 _ ⟨rfl,e,rfl,he⟩
  have he:=he.2 hn
  subst he
  refine⟨nofun,true,rfl,nofun,fun _=>(cS_IntOk V2 false s1 _ f1 L1).mono ?_⟩
  rintro V3 _ ⟨rfl,e,rfl,he⟩
  have he:=he.2 oneI_ok
  subst he
  have e:(!c0 == false)=c0:=by cases c0 <;> rfl
  refine⟨nofun,true,rfl,nofun,fun _=>?_⟩
  show CallX _ _ _ [Value.bool (!c0 == false),_,_] _
  rw [e]
  refine(cS_l05Low V3 c0 s s1 n _ f f1 hL L1 hn.1.1 oneI_ok.1.1 (by rw [valN_one]; decide) (by omega) (by simp)).mono ?_
  rintro V4 _ ⟨le4,c,x,e4,f4,rfl,R4,O4,hx⟩
  rw [valN_one] at hx
  exact⟨nofun,(c,e4,()),rfl,le4,c,x,e4,f4,rfl,R4,O4,hx⟩
 refine⟨fun _=>le1,(false,s1,()),rfl,key.mono ?_⟩
 rintro V4 _ ⟨le4,c,x,e4,f4,rfl,R4,O4,hx⟩
 exact⟨fun _=>le4,(c,e4,()),rfl,le1.trans le4,c,x,e4,f4,rfl,R4,O4.pre le1,hx⟩
theorem rat_elim {V:Know} {c:Scs [.b,.l,.l]} {x:DRat} {f:List Nat} (h:rRat.R V c x f):∃ s s' g g',c=(x.1,s,s',())∧LR rI V s x.2.1 g∧LR rI V s' x.2.2.1 g'∧f=g++(g'++[]):=by
 obtain⟨c0,c1,c2,cu⟩:=c
 obtain⟨x0,x1,x2,xu⟩:=x
 obtain⟨e0,h⟩:=h
 replace e0:c0=x0:=e0
 subst e0
 obtain⟨g,r,rfl,hs,h⟩:=h
 obtain⟨g',r',rfl,hs',h⟩:=h
 replace h:r'=[]:=h
 subst h
 exact⟨c1,c2,g,g',rfl,hs,hs',rfl⟩
end Go.Proofs.YtceoihhldnnenaaGreatDoor
namespace Go.Proofs.YtceoihhldnnenaaGreatDoor
open Sx
set_option maxRecDepth 100000
theorem int_red {n:Bool} {m:List Lim} (h:IntOkP n m) (hl:m.length≤18):RedS (sval n m) 1 (n,m,[((1:Int),())],()) true:=by
 have h0:=valN_nonneg h.1.1.1
 refine⟨m,[(1,())],⟨h.1.1,oneI_ok.1.1,?_,by rw [valN_one,Int.gcd_one]; rfl⟩,.inl ⟨hl,by simp,rfl,?_⟩⟩
 ·rw [Int.gcd_one,sval_abs h.1.1.1]; simp
 ·have:decide (sval n m<0)=n:=by
   unfold sval
   cases n with
   | false=>simp; omega
   | true =>
    have:=(can_pos h.1.1).1 (h.2 rfl)
    simp; omega
  rw [this]
abbrev LegPost (V:Know) (S D:Int):Know→Value→Prop:=fun V' r=>V.le V'∧∃ c x f,r=qv1 c∧rRat.R V' c x f∧Own V V' f∧RedS S D x true
theorem cI_MoneyRat {V:Know} (hV:HcI V) (c:ByteArray) (n:Bool) (s:SlV) (m:List Lim) (f:List Nat) (h:LR rI V s m f) (ok:MoneyOkP c n m) :
  CallX Tryz.prog V 311 [qv2 (c,n,s,())] (LegPost V (sval n m) 1):=by
 refine CallX.of_fits Tryz.mix (fI_MoneyRat _) fun _=>?_
 simp only [tI_MoneyRat,T.wp]
 refine(cI_MoneyOk hV c n s m f h).mono ?_
 rintro V1 r ⟨le1,e,rfl,he⟩
 obtain rfl:e=true:=he.2 ok
 have l4:=ok.2.2
 refine⟨nofun,true,rfl,nofun,fun _=>?_⟩
 have hc:CallX Tryz.prog V1 207 [qv0 (n,s,())] (fun V' r=>V1.le V'∧∃ s' f',r=qv0 (n,s',())∧LR rI V' s' m f'∧Own V1 V' f'):=by
  refine CallX.of_fits Tryz.mix (fI_intCopy _) fun _=>?_
  simp only [tI_intCopy,T.wp]
  refine(cI_natCopy V1 s m f (h.le le1) (by omega)).mono ?_
  rintro V2 _ ⟨le2,s2,f2,rfl,L2,O2⟩
  exact⟨fun _=>le2,s2,rfl,le2,s2,f2,rfl,L2,O2⟩
 refine hc.mono ?_
 rintro V2 _ ⟨le2,s2,f2,rfl,L2,O2⟩
 refine⟨nofun,(n,s2,()),rfl,fun b cp sp hb hcp _=>?_⟩
 have hc':1≤cp:=hcp
 have nw:=newI (V:=V2) (b:=b) (cap:=cp) (o:=[((1:Int),())]) (spare:=sp) (t:=3) hb hc' (by decide)
 have kl:=kset_le (x:=([((1:Int),())].map cellI++sp,((3:TypeId),((0,0):Nat × Nat)))) hb
 exact⟨(le1.trans le2).trans kl,_,_,_,rfl,rat_mk (L2.le kl) nw.1,Own.append (O2.pre le1) (Own.append nw.2 Own.nil kl (Know.le.refl _)) (le1.trans le2) kl,int_red ok.2.1 (by omega)⟩
theorem cS_MoneyRat {V:Know} (c:ByteArray) (n:Bool) (s:SlV) (m:List Lim) (f:List Nat) (h:LR rI V s m f) (ok:MoneyOkP c n m) :
  CallX Tryz.prog V 118 [qv2 (c,n,s,())] (LegPost V (sval n m) 1):=by
 refine CallX.of_fits Tryz.mix (fS_MoneyRat _) fun _=>?_
 simp only [tS_MoneyRat,T.wp]
 refine(cS_MoneyOk c n s m f h).mono ?_
 rintro V1 r ⟨le1,e,rfl,he⟩
 obtain rfl:e=true:=he.2 ok
 have l4:=ok.2.2
 refine⟨nofun,true,rfl,nofun,fun _=>(cS_RatInt V1 n s m f (h.le le1) ok.2.1).mono ?_⟩
 rintro V2 _ ⟨le2,c2,x2,e2,f2,rfl,R2,O2,hx2⟩
 obtain⟨ex,ee⟩:=redS_inj (by decide) hx2 (int_red ok.2.1 (by omega))
 subst ee
 exact⟨nofun,(c2,true,()),rfl,le1.trans le2,c2,x2,f2,rfl,R2,O2.pre le1,hx2⟩
end Go.Proofs.YtceoihhldnnenaaGreatDoor
