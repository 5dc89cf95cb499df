/-
  Mathematics of fractions in lowest terms, and of rates between currencies: as data. Rounding of a fraction by the seven modes, as data.
-/
import Derived.Test.YtmppmpceccpdlaaGreatDoorLedA
import Derived.Test.YtmppmpceccpdlaaGreatDoorDecM
namespace Go.Proofs.YtmppmpceccpdlaaGreatDoor
open Sx
set_option maxRecDepth 100000
def Goes (n:Bool) (m:List Lim) (sc s:Int) (y:List Lim):Prop:=DecOkP n m sc∧DecOkP n y s∧Same10 m sc y s
def At (n:Bool) (m:List Lim) (sc s:Int) (x:DecD) (e:Bool):Prop:=(e=true∧∃ y,x=(n,y,s,())∧Goes n m sc s y)∨(e=false∧x=(false,[],0,())∧∀ y,¬ Goes n m sc s y)
theorem cI_natTen (V:Know) (k:Nat) (hk:k≤440):CallX Tryz.prog V 39 [.int .i64 (k:Int)] (fun V' r=>V.le V'∧∃ s f,r=Sc.val .l s∧LR rI V' s (tenL k) f∧Own V V' f):=by
 refine CallX.of_fits Tryz.mix (fI_natTen _) fun _=>?_
 have e1:(k:Int).tdiv 9=((k / 9:Nat):Int):=(Int.ofNat_tdiv k 9).symm
 have e2:(k:Int).tmod 9=((k % 9:Nat):Int):=(Int.ofNat_tmod k 9).symm
 have w1:IntKind.i64.wrap ((k / 9:Nat):Int)=((k / 9:Nat):Int):=wrap_i64 (by omega)
 have w2:IntKind.i64.wrap (((k / 9:Nat):Int)+1)=((k / 9:Nat):Int)+1:=wrap_i64 (by omega)
 simp only [tI_natTen,T.wp,e1,e2,w1,w2]
 refine⟨by decide,by decide,⟨by omega,by omega,by omega,by omega⟩,by decide,?_⟩
 refine⟨fun y V'=>V'=V∧∃ i:Nat,y.2.1=(i:Int)∧i≤k % 9∧y.1=ten i,fun y=>(((k % 9:Nat):Int)-(y.2.1:Int)).toNat,⟨((1:Int),(0:Int),()),rfl,rfl,0,rfl,by omega,rfl⟩,?_⟩
 rintro⟨(t:Int),(i:Int),u⟩ V' ⟨rfl,j,hj,hjl,ht⟩
 replace hj:i=(j:Int):=hj
 replace ht:t=ten j:=ht
 subst hj ht
 refine⟨fun hlt=>?_,fun hge=>?_⟩
 ·have hl:j<k % 9:=by
   have:(j:Int)<((k % 9:Nat):Int):=of_decide_eq_true hlt
   omega
  have hb:=ten_lt9 (show j<9 by omega)
  refine⟨_,rfl,(ten (j+1),((j+1:Nat):Int),()),?_,⟨rfl,j+1,rfl,by omega,rfl⟩,?_⟩
  ·show [LV.v (.int .i64 (IntKind.i64.wrap (ten j*10))),LV.v (.int .i64 (IntKind.i64.wrap ((j:Int)+1)))]=_
   rw [wrap_i64 (by omega:-9223372036854775808≤ten j*10∧ten j*10≤9223372036854775807),nxt hl (by omega),← ten_succ]
   rfl
  ·show(((k % 9:Nat):Int)-((j+1:Nat):Int)).toNat<(((k % 9:Nat):Int)-(j:Int)).toNat
   omega
 ·have hl:j=k % 9:=by
   have:¬ (j:Int)<((k % 9:Nat):Int):=of_decide_eq_false hge
   omega
  subst hl
  have e3:(((k / 9:Nat):Int)).toNat=k / 9:=by omega
  refine⟨rfl,⟨rfl,by omega,by omega⟩,fun b cap spare hb hcap _=>?_⟩
  have hc:(tenL k).length≤cap:=by rw [tenL_len]; omega
  have hx:(madeCells ⟨[.int .i64 (0:Int)]⟩ ((((k / 9:Nat):Int)).toNat*1)).toList++[(Sh1.o (Sc.i IntKind.i64)).val (ten (k % 9))]=(tenL k).map cellI:=by
   rw [show(((k / 9:Nat):Int)).toNat*1=k / 9 by omega,made_zer,tenL,List.map_append]
   rfl
  have hN:=newI (V:=V') (b:=b) (cap:=cap) (o:=tenL k) (spare:=spare) (t:=3) hb hc (by rw [tenL_len]; omega)
  refine⟨kset_le hb,⟨some ⟨b,0,none⟩,(tenL k).length,cap⟩,[b],?_,?_,?_⟩
  ·rw [tenL_len,show k / 9+1=(((k / 9:Nat):Int)).toNat+1 by omega]
   rfl
  ·have h1:=hN.1
   rw [← hx] at h1
   exact h1
  ·have h1:=hN.2
   rw [← hx] at h1
   exact h1
abbrev decV (n:Bool) (s:SlV) (x:Int):Value:=qv6 (n,s,x,())
def AtPost (V:Know) (n:Bool) (m:List Lim) (sc s:Int):Know→Value→Prop:=fun V' r=>V.le V'∧∃ (x:DecD) (t:SlV) (e:Bool) (f:List Nat),r=.tuple #[decV x.1 t x.2.2.1,.bool e]∧LR rI V' t x.2.1 f∧Own V V' f∧At n m sc s x e
theorem AtPost.split {V V':Know} {n:Bool} {m:List Lim} {sc s:Int} {r:Value} (h:AtPost V n m sc s V' r):∃ y,r=Sh.val (.t [.g [.b,.l,.i .i64],.o .b]) y:=by
 obtain⟨_,x,t,e,_,rfl,_⟩:=h
 exact⟨((x.1,t,x.2.2.1,()),e,()),rfl⟩
end Go.Proofs.YtmppmpceccpdlaaGreatDoor
namespace Go.Proofs.YtmppmpceccpdlaaGreatDoor
open Sx
set_option maxRecDepth 100000
theorem loadV_le {V V':Know} {a:Addr} {k:Nat} {x:List Value} (h:V.le V') (hl:loadV V a k=some x):loadV V' a k=some x:=by
 unfold loadV at hl ⊢
 split at hl
 ·rename_i cs u h1 h2
  rw [h1,h _ _ h2]
  exact hl
 ·cases hl
theorem one_ok:DecOkP false [(1,())] 0:=⟨⟨⟨⟨lims_one (by decide),.inr (by decide)⟩,by simp⟩,(fun h=>by cases h)⟩,by simp,by omega,by omega⟩
end Go.Proofs.YtmppmpceccpdlaaGreatDoor
namespace Go.Proofs.YtmppmpceccpdlaaGreatDoor
open Sx
set_option maxRecDepth 100000
theorem sval_mul {c d:Bool} {n m o:List Lim} (h:valN o=valN n*valN m):sval (c != d) o=sval c n*sval d m:=by
 cases c <;> cases d <;> simp [sval,h,Int.neg_mul,Int.mul_neg]
theorem cI_intMul (V:Know) (c0:Bool) (c1:SlV) (d0:Bool) (d1:SlV) (a b:List Lim) (f g:List Nat) (h:LR rI V c1 a f) (h':LR rI V d1 b g) (ha:Can a) (hb:Can b) (la:a.length≤1000000) (lb:b.length≤1000000) :
  CallX Tryz.prog V 44 [qv1 (c0,c1,()),qv1 (d0,d1,())] (fun V' r=>V.le V'∧∃ s o f,r=qv1 ((c0 != d0) && decide (0<o.length),s,())∧LR rI V' s o f∧Own V V' f∧Can o∧valN o=valN a*valN b):=by
 refine CallX.of_fits Tryz.mix (fI_intMul _ _) fun _=>?_
 simp only [tI_intMul,T.wp]
 refine(cI_natMul V c1 d1 a b f g h h' ha.1 hb.1 la lb).mono ?_
 rintro V1 _ ⟨le1,s1,o,bk,rfl,N1,hb1,ho,hv,_⟩
 refine⟨fun _=>le1,s1,rfl,(cI_signed V1 _ s1).mono ?_⟩
 rintro V2 _ ⟨rfl,rfl⟩
 refine⟨fun _=>Know.le.refl _,_,rfl,le1,s1,o,[bk],?_,N1.lr,N1.own hb1,ho,hv⟩
 have hn:=N1.lr.1
 have:decide ((s1.n:Int) > 0)=decide (0<o.length):=decide_eq_decide.2 (by omega)
 show qv1 ((!(c0 == d0)) && decide ((s1.n:Int) > 0),s1,())=_
 rw [this]
 rfl
theorem cI_RatMul (V:Know) (c0:Bool) (c1 c2:SlV) (d0:Bool) (d1 d2:SlV) (n d m e:List Lim) (f g f' g':List Nat) (h1:LR rI V c1 n f) (h2:LR rI V c2 d g) (h3:LR rI V d1 m f') (h4:LR rI V d2 e g') (hr:RatOkP c0 n d) (hs:RatOkP d0 m e) :
  CallX Tryz.prog V 13 [qv0 (c0,c1,c2,()),qv0 (d0,d1,d2,())] (RatPost V (sval c0 n*sval d0 m) (valN d*valN e)):=by
 refine CallX.of_fits Tryz.mix (fI_RatMul _ _) fun _=>?_
 simp only [tI_RatMul,T.wp]
 have z1:=hr.2.2.2.1
 have z2:=hr.2.2.2.2.1
 have z3:=hs.2.2.2.1
 have z4:=hs.2.2.2.2.1
 have p1:=(can_pos hr.2.1.1).1 hr.2.2.1
 have p2:=(can_pos hs.2.1.1).1 hs.2.2.1
 refine(cI_ratsOk V c0 c1 c2 d0 d1 d2 n d m e f g f' g' h1 h2 h3 h4 hr hs).mono ?_
 rintro V1 _ ⟨le1,rfl⟩
 refine⟨nofun,true,rfl,nofun,fun _=>(cI_intMul V1 c0 c1 d0 d1 n m f f' (h1.le le1) (h3.le le1) hr.1.1.1 hs.1.1.1 (by omega) (by omega)).mono ?_⟩
 rintro V2 _ ⟨le2,s2,o2,f2,rfl,L2,_,C2,v2⟩
 have l2:=le1.trans le2
 have n2:=mul_len (a:=n) (b:=m) hs.1.1.1 C2 hr.1.1.1.1 v2
 refine⟨fun _=>le2,_,rfl,(cI_natMul V2 c2 d2 d e g g' (h2.le l2) (h4.le l2) hr.2.1.1.1 hs.2.1.1.1 (by omega) (by omega)).mono ?_⟩
 rintro V3 _ ⟨le3,s3,o3,b3,rfl,nw,_,C3,v3,_⟩
 have l3:=l2.trans le3
 have n3:=mul_len (a:=d) (b:=e) hs.2.1.1 C3 hr.2.1.1.1 v3
 refine⟨fun _=>le3,s3,rfl,(cI_reduce V3 _ s2 s3 o2 o3 f2 [b3] (L2.le le3) nw.lr C2 C3 (by rw [v3]; exact Int.mul_pos p1 p2) (by omega) (by omega)).mono ?_⟩
 rintro V4 _ ⟨le4,c4,x4,e4,f4,rfl,R4,O4,hx⟩
 refine⟨fun _=>le4,(c4,e4,()),rfl,l3.trans le4,c4,x4,e4,f4,rfl,R4,O4.pre l3,?_⟩
 rw [(made_ok (q:=c0 != d0) C2 (by omega)).2,sval_mul v2,v3] at hx
 exact hx
def sv (b:Bool) (z:Int):Int:=if b=true then -z else z
theorem sv_sval {b:Bool} {o:List Lim} {z:Int} (h:valN o=z):sval b o=sv b z:=by
 unfold sval sv
 rw [h]
theorem cI_RatDiv (V:Know) (c0:Bool) (c1 c2:SlV) (d0:Bool) (d1 d2:SlV) (n d m e:List Lim) (f g f' g':List Nat) (h1:LR rI V c1 n f) (h2:LR rI V c2 d g) (h3:LR rI V d1 m f') (h4:LR rI V d2 e g') (hr:RatOkP c0 n d) (hs:RatOkP d0 m e) (hm:0<m.length) :
  CallX Tryz.prog V 77 [qv0 (c0,c1,c2,()),qv0 (d0,d1,d2,())] (RatPost V (sv (c0 != d0) (valN n*valN e)) (valN d*valN m)):=by
 refine CallX.of_fits Tryz.mix (fI_RatDiv _ _) fun _=>?_
 simp only [tI_RatDiv,T.wp]
 have z1:=hr.2.2.2.1
 have z2:=hr.2.2.2.2.1
 have z3:=hs.2.2.2.1
 have z4:=hs.2.2.2.2.1
 have p1:=(can_pos hr.2.1.1).1 hr.2.2.1
 have p2:=(can_pos hs.1.1.1).1 hm
 have hn3:=h3.1
 refine(cI_ratsOk V c0 c1 c2 d0 d1 d2 n d m e f g f' g' h1 h2 h3 h4 hr hs).mono ?_
 rintro V1 _ ⟨le1,rfl⟩
 refine⟨nofun,true,rfl,nofun,fun _=>⟨fun hz=>?_,fun _=>?_⟩⟩
 ·have:(d1.n:Int)=0:=by simpa using hz
  omega
 refine(cI_natMul V1 c1 d2 n e f g' (h1.le le1) (h4.le le1) hr.1.1.1.1 hs.2.1.1.1 (by omega) (by omega)).mono ?_
 rintro V2 _ ⟨le2,s2,o2,b2,rfl,nw2,_,C2,v2,_⟩
 have l2:=le1.trans le2
 have n2:=mul_len (a:=n) (b:=e) hs.2.1.1 C2 hr.1.1.1.1 v2
 refine⟨fun _=>le2,s2,rfl,(cI_signed V2 _ s2).mono ?_⟩
 rintro V3 _ ⟨rfl,rfl⟩
 refine⟨fun _=>Know.le.refl _,_,rfl,(cI_natMul V3 c2 d1 d m g f' (h2.le l2) (h3.le l2) hr.2.1.1.1 hs.1.1.1.1 (by omega) (by omega)).mono ?_⟩
 rintro V4 _ ⟨le4,s4,o4,b4,rfl,nw4,_,C4,v4,_⟩
 have l4:=l2.trans le4
 have n4:=mul_len (a:=d) (b:=m) hs.1.1.1 C4 hr.2.1.1.1 v4
 have hn2:=nw2.lr.1
 have ed:decide ((s2.n:Int) > 0)=decide (0<o2.length):=decide_eq_decide.2 (by omega)
 refine⟨fun _=>le4,s4,rfl,(cI_reduce V4 _ s2 s4 o2 o4 [b2] [b4] (nw2.lr.le le4) nw4.lr C2 C4 (by rw [v4]; exact Int.mul_pos p1 p2) (by omega) (by omega)).mono ?_⟩
 rintro V5 _ ⟨le5,c5,x5,e5,f5,rfl,R5,O5,hx⟩
 refine⟨fun _=>le5,(c5,e5,()),rfl,l4.trans le5,c5,x5,e5,f5,rfl,R5,O5.pre l4,?_⟩
 rw [ed,(made_ok (q:=!(c0 == d0)) C2 (by omega)).2,sv_sval v2,v4] at hx
 exact hx
theorem redS_small {S D:Int} {x:DRat} {e:Bool} {a b:List Lim} (h:RedS S D x e) (ha:Can a) (hb:Can b) (va:(S.natAbs:Int)=valN a) (vb:D=valN b) (hD:0<D) (la:a.length≤18) (lb:b.length≤18):e=true:=by
 obtain⟨p,q,hR,⟨_,_,he,_⟩ | ⟨hn,_,_⟩⟩:=h
 ·exact he
 ·exfalso
  have hg:=gcd_pos (N:=(S.natAbs:Int)) hD
  have p0:=valN_nonneg hR.1.1
  have q0:=valN_nonneg hR.2.1.1
  have hp:valN p≤valN a:=by
   rw [← va,← hR.2.2.1]
   have:valN p*1≤valN p*(Int.gcd (S.natAbs:Int) D:Int):=Int.mul_le_mul_of_nonneg_left (by omega) p0
   omega
  have hq:valN q≤valN b:=by
   rw [← vb]
   have e:=hR.2.2.2
   have:valN q*1≤valN q*(Int.gcd (S.natAbs:Int) D:Int):=Int.mul_le_mul_of_nonneg_left (by omega) q0
   omega
  have h1:=can_len ha hR.1 hp
  have h2:=can_len hb hR.2.1 hq
  exact hn ⟨by omega,by omega⟩
def DecRatPost (V:Know) (n:Bool) (m:List Lim) (sc:Int):Know→Value→Prop:=fun V' r=>V.le V'∧∃ c x f,r=qv0 c∧rRat.R V' c x f∧Own V V' f∧RedS (sval n m) (ten sc.toNat) x true
theorem decRat_of {n:Bool} {m:List Lim} {sc:Int} {x:DRat} {e:Bool} (hd:DecOkP n m sc) (h:RedS (sval n m) (ten sc.toNat) x e):e=true:=by
 have h6:=hd.2.1
 have h30:=hd.2.2
 exact redS_small h hd.1.1.1 (tenL_can sc.toNat) (sval_abs hd.1.1.1.1) (tenL_val _).symm (ten_pos _) (by omega) (by rw [tenL_len]; omega)
theorem cI_DecRat (V:Know) (n:Bool) (t:SlV) (m:List Lim) (f:List Nat) (sc:Int) (h:LR rI V t m f) (hd:DecOkP n m sc):CallX Tryz.prog V 76 [decV n t sc] (DecRatPost V n m sc):=by
 refine CallX.of_fits Tryz.mix (fI_DecRat _) fun _=>?_
 simp only [tI_DecRat,T.wp]
 have h6:=hd.2.1
 have h30:=hd.2.2
 refine(cI_DecOk V n t sc m f h).mono ?_
 rintro V1 r ⟨rfl,e,rfl,he⟩
 obtain rfl:e=true:=he.2 hd
 refine⟨nofun,true,rfl,nofun,fun _=>?_⟩
 have ei:sc=((sc.toNat:Nat):Int):=by omega
 have key:=cI_natTen V1 sc.toNat (by omega)
 rw [← ei] at key
 refine key.mono ?_
 rintro V2 _ ⟨le2,s2,f2,rfl,L2,_⟩
 refine⟨fun _=>le2,s2,rfl,(cI_reduce V2 n t s2 m (tenL sc.toNat) f f2 (h.le le2) L2 hd.1.1.1 (tenL_can _) (by rw [tenL_val]; exact ten_pos _) (by omega) (by rw [tenL_len]; omega)).mono ?_⟩
 rintro V3 _ ⟨le3,c3,x3,e3,f3,rfl,R3,O3,hx⟩
 rw [tenL_val] at hx
 obtain rfl:=decRat_of hd hx
 exact⟨fun _=>le3,(c3,true,()),rfl,le2.trans le3,c3,x3,f3,rfl,R3,O3.pre le2,hx⟩
end Go.Proofs.YtmppmpceccpdlaaGreatDoor
namespace Go.Proofs.YtmppmpceccpdlaaGreatDoor
open Sx
set_option maxRecDepth 100000
theorem gcd_cross {N D N' D' p q:Int} (hN:0≤N) (hD:0<D) (hN':0≤N') (hD':0<D') (h:N*D'=N'*D) (hp:p*(Int.gcd N D:Int)=N) (hq:q*(Int.gcd N D:Int)=D) :
  p*(Int.gcd N' D':Int)=N'∧q*(Int.gcd N' D':Int)=D':=by
 have hg0:Int.gcd N D≠0:=fun e=>by
  have:=(Int.gcd_eq_zero_iff.1 e).2
  omega
 have hg:0<(Int.gcd N D:Int):=by omega
 generalize hgg:(Int.gcd N D:Int)=g at *
 have p0:0≤p:=by
  refine Int.le_of_not_gt fun k=>?_
  have:p*g<0:=Int.mul_neg_of_neg_of_pos k hg
  omega
 have q0:0≤q:=by
  refine Int.le_of_not_gt fun k=>?_
  have:q*g<0:=Int.mul_neg_of_neg_of_pos k hg
  omega
 have e1:p*D'=q*N':=by
  have:(p*D')*g=(q*N')*g:=by
   calc (p*D')*g=(p*g)*D':=by ac_rfl
    _=N'*(q*g):=by rw [hp,hq,h]
    _=(q*N')*g:=by ac_rfl
  exact Int.eq_of_mul_eq_mul_right (by omega) this
 have co:Int.gcd p q=1:=by
  have e:Int.gcd (p*g) (q*g)=Int.gcd p q*Int.natAbs g:=Int.gcd_mul_right _ _ _
  rw [hp,hq] at e
  have:Int.natAbs g=Int.gcd N D:=by omega
  rw [this] at e
  have:1*Int.gcd N D=Int.gcd p q*Int.gcd N D:=by omega
  exact(Nat.eq_of_mul_eq_mul_right (by omega) this).symm
 constructor
 ·have e:Int.gcd (p*N') (p*D')=Int.natAbs p*Int.gcd N' D':=Int.gcd_mul_left _ _ _
  rw [e1] at e
  have e2:Int.gcd (p*N') (q*N')=Int.gcd p q*Int.natAbs N':=Int.gcd_mul_right _ _ _
  rw [co,Nat.one_mul] at e2
  rw [e2] at e
  have:(Int.natAbs N':Int)=(Int.natAbs p:Int)*(Int.gcd N' D':Int):=by rw [e]; exact Int.natCast_mul _ _
  rw [Int.natAbs_of_nonneg p0,Int.natAbs_of_nonneg hN'] at this
  exact this.symm
 ·have e:Int.gcd (q*N') (q*D')=Int.natAbs q*Int.gcd N' D':=Int.gcd_mul_left _ _ _
  rw [← e1] at e
  have e2:Int.gcd (p*D') (q*D')=Int.gcd p q*Int.natAbs D':=Int.gcd_mul_right _ _ _
  rw [co,Nat.one_mul] at e2
  rw [e2] at e
  have:(Int.natAbs D':Int)=(Int.natAbs q:Int)*(Int.gcd N' D':Int):=by rw [e]; exact Int.natCast_mul _ _
  rw [Int.natAbs_of_nonneg q0,Int.natAbs_of_nonneg (by omega)] at this
  exact this.symm
theorem redS_cross {S D S' D':Int} {x:DRat} {e:Bool} (hD:0<D) (hD':0<D') (h:S*D'=S'*D) (hx:RedS S D x e):RedS S' D' x e:=by
 obtain⟨p,q,⟨c1,c2,h1,h2⟩,h3⟩:=hx
 have hs:((S.natAbs:Int))*D'=(S'.natAbs:Int)*D:=by
  have:=congrArg Int.natAbs h
  rw [Int.natAbs_mul,Int.natAbs_mul] at this
  have h3:=congrArg (Nat.cast (R:=Int)) this
  rw [Int.natCast_mul,Int.natCast_mul,Int.natAbs_of_nonneg (by omega:0≤D'),Int.natAbs_of_nonneg (by omega:0≤D)] at h3
  exact h3
 obtain⟨k1,k2⟩:=gcd_cross (by omega) hD (by omega) hD' hs h1 h2
 have hneg:decide (S<0)=decide (S'<0):=by
  refine decide_eq_decide.2 ⟨fun k=>?_,fun k=>?_⟩
  ·refine Int.lt_of_not_ge fun k'=>?_
   have a1:S*D'<0:=Int.mul_neg_of_neg_of_pos k hD'
   have a2:0≤S'*D:=Int.mul_nonneg k' (by omega)
   omega
  ·refine Int.lt_of_not_ge fun k'=>?_
   have a1:S'*D<0:=Int.mul_neg_of_neg_of_pos k hD
   have a2:0≤S*D':=Int.mul_nonneg k' (by omega)
   omega
 refine⟨p,q,⟨c1,c2,k1,k2⟩,?_⟩
 rw [← hneg]
 exact h3
theorem redS_len {S D:Int} {x:DRat} {e:Bool} (hD:0<D) (h:RedS S D x e) (k:Nat) (hk:0<k) (hS:(S.natAbs:Int)<1000000000 ^ k) (hDb:D<1000000000 ^ k) (hk18:k≤18):e=true∧x.2.1.length≤k∧x.2.2.1.length≤k:=by
 obtain⟨p,q,h1,h2⟩:=h
 have hg:=gcd_pos (N:=(S.natAbs:Int)) hD
 have p0:=valN_nonneg h1.1.1
 have q0:=valN_nonneg h1.2.1.1
 have bd:∀ {l:List Lim},Can l→∀ {N:Int},valN l*(Int.gcd (S.natAbs:Int) D:Int)=N→N<1000000000 ^ k→l.length≤k:=by
  intro l hl N hv hN
  by_cases kk:l.length≤k
  ·exact kk
  ·have g1:=can_ge hl (by omega)
   have g2:=pw_mono (show k≤l.length-1 by omega)
   have g3:valN l*1≤valN l*(Int.gcd (S.natAbs:Int) D:Int):=Int.mul_le_mul_of_nonneg_left (by omega) (valN_nonneg hl.1)
   omega
 have lp:=bd h1.1 h1.2.2.1 hS
 have lq:=bd h1.2.1 h1.2.2.2 hDb
 rcases h2 with ⟨_,_,c,rfl⟩ | ⟨hl,_,_⟩
 ·exact⟨c,lp,lq⟩
 ·exact absurd ⟨by omega,by omega⟩ hl
theorem redS_fits {S D:Int} {x:DRat} {e:Bool} (hD:0<D) (h:RedS S D x e) (hS:(S.natAbs:Int)<1000000000 ^ 18) (hDb:D<1000000000 ^ 18):e=true:=(redS_len hD h 18 (by omega) hS hDb (by omega)).1
theorem redS_val {S D:Int} {x:DRat} (hD:0<D) (h:RedS S D x true):sval x.1 x.2.1*D=S*valN x.2.2.1∧0<valN x.2.2.1∧(0<S→x.1=false∧0<valN x.2.1):=by
 obtain⟨p,q,h1,h2⟩:=h
 rcases h2 with ⟨_,_,_,rfl⟩ | ⟨_,c,_⟩
 ·have q0:=red_pos hD h1
  obtain⟨c1,c2,v1,v2⟩:=id h1
  refine⟨?_,q0,fun hS=>⟨decide_eq_false (by omega),(red_num hD h1).2 (by omega)⟩⟩
  show sval (decide (S<0)) p*D=S*valN q
  have e1:sval (decide (S<0)) p*(Int.gcd (S.natAbs:Int) D:Int)=S:=by
   unfold sval
   by_cases k:S<0
   ·simp only [k,decide_true,if_true]
    rw [Int.neg_mul,v1]; omega
   ·simp only [k,decide_false,Bool.false_eq_true,if_false]
    rw [v1]; omega
  calc sval (decide (S<0)) p*D=sval (decide (S<0)) p*(valN q*(Int.gcd (S.natAbs:Int) D:Int)):=by rw [v2]
   _=(sval (decide (S<0)) p*(Int.gcd (S.natAbs:Int) D:Int))*valN q:=by ac_rfl
   _=S*valN q:=by rw [e1]
 ·cases c
theorem redS_mul {S1 D1 S2 D2:Int} {x y z:DRat} {e:Bool} (h1:0<D1) (h2:0<D2) (hx:RedS S1 D1 x true) (hy:RedS S2 D2 y true) (hz:RedS (sval x.1 x.2.1*sval y.1 y.2.1) (valN x.2.2.1*valN y.2.2.1) z e):RedS (S1*S2) (D1*D2) z e:=by
 obtain⟨v1,p1,_⟩:=redS_val h1 hx
 obtain⟨v2,p2,_⟩:=redS_val h2 hy
 refine redS_cross (Int.mul_pos p1 p2) (Int.mul_pos h1 h2) ?_ hz
 calc sval x.1 x.2.1*sval y.1 y.2.1*(D1*D2)=(sval x.1 x.2.1*D1)*(sval y.1 y.2.1*D2):=by ac_rfl
  _=(S1*valN x.2.2.1)*(S2*valN y.2.2.1):=by rw [v1,v2]
  _=S1*S2*(valN x.2.2.1*valN y.2.2.1):=by ac_rfl
theorem redS_div {S1 D1 S2 D2:Int} {x y z:DRat} {e:Bool} (h1:0<D1) (h2:0<D2) (hS2:0<S2) (hx:RedS S1 D1 x true) (hy:RedS S2 D2 y true) (hz:RedS (sv (x.1 != y.1) (valN x.2.1*valN y.2.2.1)) (valN x.2.2.1*valN y.2.1) z e):RedS (S1*D2) (D1*S2) z e:=by
 obtain⟨v1,p1,_⟩:=redS_val h1 hx
 obtain⟨v2,p2,k2⟩:=redS_val h2 hy
 obtain⟨hy1,hy2⟩:=k2 hS2
 rw [hy1] at hz v2
 have e1:sv (x.1 != false) (valN x.2.1*valN y.2.2.1)=sval x.1 x.2.1*valN y.2.2.1:=by
  unfold sv sval
  cases x.1 <;> simp [Int.neg_mul]
 have e2:sval false y.2.1=valN y.2.1:=by unfold sval; simp
 rw [e1] at hz
 rw [e2] at v2
 refine redS_cross (Int.mul_pos p1 hy2) (Int.mul_pos h1 hS2) ?_ hz
 calc sval x.1 x.2.1*valN y.2.2.1*(D1*S2)=(sval x.1 x.2.1*D1)*(S2*valN y.2.2.1):=by ac_rfl
  _=(S1*valN x.2.2.1)*(valN y.2.1*D2):=by rw [v1,v2]
  _=S1*D2*(valN x.2.2.1*valN y.2.1):=by ac_rfl
def lkR (l:List DRate) (a b:ByteArray):Option DRate:=l.find? fun r=>decide (rkey r=(a,b))
theorem lkR_at {l:List DRate} {a b:ByteArray} {i:Nat} (hi:i<l.length) (hk:rkey l[i]=(a,b)) (hno:∀ (j:Nat) (hj:j<l.length),j<i→rkey l[j]≠(a,b)):lkR l a b=some l[i]:=by
 unfold lkR
 rw [List.find?_eq_some_iff_getElem]
 exact⟨by simpa using hk,i,hi,rfl,fun j hj=>by simpa using hno j (by omega) hj⟩
theorem lkR_none {l:List DRate} {a b:ByteArray} (h:∀ (j:Nat) (hj:j<l.length),rkey l[j]≠(a,b)):lkR l a b=none:=by
 unfold lkR
 rw [List.find?_eq_none]
 intro x hx
 obtain⟨j,hj,rfl⟩:=List.mem_iff_getElem.1 hx
 simpa using h j hj
theorem lkR_mem {l:List DRate} {a b:ByteArray} {r:DRate} (h:lkR l a b=some r):∃ i,∃ hi:i<l.length,l[i]=r :=
 List.mem_iff_getElem.1 (List.mem_of_find?_eq_some h)
def leg (l:List DRate) (a b:ByteArray):Int:=match lkR l a b with
 | some _=>2
 | none=>match lkR l b a with
  | some _=>3
  | none=>0
theorem leg_cases (l:List DRate) (a b:ByteArray):leg l a b=0∨leg l a b=2∨leg l a b=3:=by
 unfold leg
 cases lkR l a b <;> cases lkR l b a <;> simp
noncomputable def howR (p:ByteArray) (l:List DRate) (a b:ByteArray):Int :=
 if a=b then 1 else if leg l a b=0 then (if a≠p∧b≠p∧leg l a p≠0∧leg l p b≠0 then 4 else 0) else leg l a b
def stepS (l:List DRate) (a b:ByteArray):Int:=match lkR l a b with
 | some r=>sval r.2.2.1 r.2.2.2.1
 | none=>match lkR l b a with
  | some r=>ten r.2.2.2.2.1.toNat
  | none=>1
def stepD (l:List DRate) (a b:ByteArray):Int:=match lkR l a b with
 | some r=>ten r.2.2.2.2.1.toNat
 | none=>match lkR l b a with
  | some r=>sval r.2.2.1 r.2.2.2.1
  | none=>1
def RatesG (l:List DRate):Prop:=∀ i,i<l.length→∃ h:i<l.length,RateOkP l[i]
theorem ratesG {p:ByteArray} {l:List DRate} (h:RatesOkP p l):RatesG l:=fun i hi=>⟨hi,(h.2.2 i hi).2.1⟩
theorem rate_num {r:DRate} (h:RateOkP r):r.2.2.1=false∧0<valN r.2.2.2.1∧valN r.2.2.2.1<1000000000 ^ 2∧0<r.2.2.2.1.length:=by
 obtain⟨_,_,_,hd,hs,hl⟩:=h
 have h0:=valN_nonneg hd.1.1.1.1
 have hn:r.2.2.1=false:=by
  cases e:r.2.2.1 with
  | false=>rfl
  | true =>
   rw [e] at hs
   unfold sval at hs
   simp at hs
   omega
 rw [hn] at hs
 have hs':0<valN r.2.2.2.1:=by unfold sval at hs; simpa using hs
 have hb:=(valTo_bd hd.1.1.1.1 r.2.2.2.1.length).2
 have hm:=pw_mono hl
 have e:valTo r.2.2.2.1 r.2.2.2.1.length=valN r.2.2.2.1:=rfl
 exact⟨hn,hs',by omega,(can_pos hd.1.1.1).2 hs'⟩
theorem step_bd {l:List DRate} (h:RatesG l) (a b:ByteArray):0<stepS l a b∧stepS l a b≤1000000000000000000000000000000∧0<stepD l a b∧stepD l a b≤1000000000000000000000000000000:=by
 have key:∀ r:DRate,(∃ i,∃ hi:i<l.length,l[i]=r)→0<sval r.2.2.1 r.2.2.2.1∧sval r.2.2.1 r.2.2.2.1≤1000000000000000000000000000000∧0<ten r.2.2.2.2.1.toNat∧ten r.2.2.2.2.1.toNat≤1000000000000000000000000000000:=by
  rintro r ⟨i,hi,rfl⟩
  obtain⟨_,hr⟩:=h i hi
  obtain⟨n1,n2,n3,_⟩:=rate_num hr
  have hd:=hr.2.2.2.1.2
  have ht:=ten_mono (show l[i].2.2.2.2.1.toNat≤30 by omega)
  have e30:ten 30=1000000000000000000000000000000:=by decide
  have e2:sval l[i].2.2.1 l[i].2.2.2.1=valN l[i].2.2.2.1:=by rw [n1]; unfold sval; simp
  rw [e2]
  exact⟨n2,by omega,ten_pos _,by omega⟩
 unfold stepS stepD
 cases h1:lkR l a b with
 | some r=>exact key r (lkR_mem h1)
 | none =>
  cases h2:lkR l b a with
  | some r =>
   have:=key r (lkR_mem h2)
   exact⟨this.2.2.1,this.2.2.2,this.1,this.2.1⟩
  | none=>exact⟨by decide,by decide,by decide,by decide⟩
noncomputable def rateS (p:ByteArray) (l:List DRate) (a b:ByteArray):Int:=if a=b then 1 else if leg l a b=0 then stepS l a p*stepS l p b else stepS l a b
noncomputable def rateD (p:ByteArray) (l:List DRate) (a b:ByteArray):Int:=if a=b then 1 else if leg l a b=0 then stepD l a p*stepD l p b else stepD l a b
theorem mulP_bd {a b A B:Int} (h1:0<a∧a≤A) (h2:0<b∧b≤B):0<a*b∧a*b≤A*B :=
 ⟨Int.mul_pos h1.1 h2.1,Int.mul_le_mul h1.2 h2.2 (by omega) (by omega)⟩
theorem rate_bd {l:List DRate} (h:RatesG l) (p a b:ByteArray):(0<rateS p l a b∧rateS p l a b≤1000000000000000000000000000000000000000000000000000000000000)∧0<rateD p l a b∧rateD p l a b≤1000000000000000000000000000000000000000000000000000000000000:=by
 unfold rateS rateD
 obtain⟨a1,a2,a3,a4⟩:=step_bd h a b
 obtain⟨b1,b2,b3,b4⟩:=step_bd h a p
 obtain⟨c1,c2,c3,c4⟩:=step_bd h p b
 have m1:=mulP_bd ⟨b1,b2⟩ ⟨c1,c2⟩
 have m2:=mulP_bd ⟨b3,b4⟩ ⟨c3,c4⟩
 split
 ·exact⟨⟨by decide,by decide⟩,by decide,by decide⟩
 ·split
  ·exact⟨⟨m1.1,by omega⟩,m2.1,by omega⟩
  ·exact⟨⟨a1,by omega⟩,a3,by omega⟩
def places (x:ByteArray):Int:=(curRowOf x).2.2.1
theorem places_bd (x:ByteArray):0≤places x∧places x≤4:=by
 unfold places curRowOf
 cases h:curFrom curI x 0 with
 | none=>exact⟨by decide,by decide⟩
 | some r =>
  have hm:r∈curI:=List.mem_of_find?_eq_some h
  have:∀ r∈curI,0≤r.2.2.1∧r.2.2.1≤4:=by decide +kernel
  exact this r hm
theorem unit_bd (x:ByteArray):0<ten (places x).toNat∧ten (places x).toNat≤10000:=by
 have h:=places_bd x
 have ht:=ten_mono (show(places x).toNat≤4 by omega)
 have e4:ten 4=10000:=by decide
 exact⟨ten_pos _,by omega⟩
noncomputable def unitS (p:ByteArray) (l:List DRate) (a b:ByteArray):Int:=rateS p l a b*ten (places b).toNat
noncomputable def unitD (p:ByteArray) (l:List DRate) (a b:ByteArray):Int:=rateD p l a b*ten (places a).toNat
theorem unitS_bd {l:List DRate} (h:RatesG l) (p a b:ByteArray):0<unitS p l a b∧unitS p l a b≤10000000000000000000000000000000000000000000000000000000000000000:=by
 have:=mulP_bd (rate_bd h p a b).1 (unit_bd b)
 unfold unitS
 exact⟨this.1,by omega⟩
theorem unitD_bd {l:List DRate} (h:RatesG l) (p a b:ByteArray):0<unitD p l a b∧unitD p l a b≤10000000000000000000000000000000000000000000000000000000000000000:=by
 have:=mulP_bd (rate_bd h p a b).2 (unit_bd a)
 unfold unitD
 exact⟨this.1,by omega⟩
noncomputable def exS (p:ByteArray) (l:List DRate) (m:DMoney) (to:ByteArray):Int:=sval m.2.1 m.2.2.1*unitS p l m.1 to
noncomputable def exD (p:ByteArray) (l:List DRate) (m:DMoney) (to:ByteArray):Int:=unitD p l m.1 to
theorem ex_bd {l:List DRate} (h:RatesG l) (p to:ByteArray) (m:DMoney) (hm:MoneyOkP m.1 m.2.1 m.2.2.1):((exS p l m to).natAbs:Int)<1000000000 ^ 18∧0<exD p l m to∧exD p l m to<1000000000 ^ 18:=by
 have h1:=unitS_bd h p m.1 to
 have h2:=unitD_bd h p m.1 to
 have e:(1000000000:Int) ^ 18=1000000000000000000000000000000000000000000000000000000000000000000000000000000000000000000000000000000000000000000000000000000000000000000000000000000000000000000:=by decide
 have hs:=sval_abs (c0:=m.2.1) hm.2.1.1.1.1
 have hb:=(valTo_bd hm.2.1.1.1.1 m.2.2.1.length).2
 have e2:valTo m.2.2.1 m.2.2.1.length=valN m.2.2.1:=rfl
 have hp:=pw_mono hm.2.2
 have e4:(1000000000:Int) ^ 4=1000000000000000000000000000000000000:=by decide
 have hv:((sval m.2.1 m.2.2.1).natAbs:Int)≤1000000000000000000000000000000000000:=by omega
 have hm1:((exS p l m to).natAbs:Int)≤1000000000000000000000000000000000000*10000000000000000000000000000000000000000000000000000000000000000:=by
  unfold exS
  rw [Int.natAbs_mul,Int.natCast_mul,Int.natAbs_of_nonneg (by omega:0≤unitS p l m.1 to)]
  exact Int.mul_le_mul hv h1.2 (by omega) (by omega)
 refine⟨by omega,h2.1,?_⟩
 show unitD p l m.1 to<_
 omega
def awayB (m:Int) (neg:Bool) (c:Int) (odd:Bool):Bool :=
 if m=0 then false else if m=1 then true else if m=2 then neg else if m=3 then !neg else if m=4 then decide (c > 0) else if m=5 then decide (c≥0) else decide (c > 0) || (decide (c=0) && odd)
def upN (m:Int) (neg:Bool) (n d:Int):Prop:=0<n % d∧awayB m neg (sgn (n % d+n % d-d)) (decide (n / d % 2=1))=true
noncomputable def rndN (m:Int) (neg:Bool) (n d:Int):Int:=by
 classical
 exact if upN m neg n d then n / d+1 else n / d
theorem rnd_up {m:Int} {neg:Bool} {n d:Int} (h:upN m neg n d):rndN m neg n d=n / d+1:=by
 unfold rndN; exact if_pos h
theorem rnd_down {m:Int} {neg:Bool} {n d:Int} (h:¬ upN m neg n d):rndN m neg n d=n / d:=by
 unfold rndN; exact if_neg h
theorem rnd_cases (m:Int) (neg:Bool) (n d:Int):(rndN m neg n d=n / d+1∧0<n % d)∨rndN m neg n d=n / d:=by
 by_cases h:upN m neg n d
 ·exact .inl ⟨rnd_up h,h.1⟩
 ·exact .inr (rnd_down h)
theorem quot_mod {n d q r:Int} (h:n=q*d+r) (h0:0≤r) (h1:r<d):q=n / d∧r=n % d:=by
 have e:=Int.mul_ediv_add_emod n d
 refine quot_unique h (q':=n / d) (r':=n % d) (by rw [Int.mul_comm]; exact e.symm) ⟨h0,h1⟩ ⟨Int.emod_nonneg _ (by omega),Int.emod_lt_of_pos _ (by omega)⟩
theorem rnd_diff {m:Int} {neg:Bool} {n d:Int} (hd:0<d):-d≤n-rndN m neg n d*d∧n-rndN m neg n d*d≤d:=by
 have e:=Int.mul_ediv_add_emod n d
 have h0:=Int.emod_nonneg n (show d≠0 by omega)
 have h1:=Int.emod_lt_of_pos n hd
 have e2:n / d*d=d*(n / d):=Int.mul_comm _ _
 rcases rnd_cases m neg n d with ⟨q,_⟩ | q
 ·rw [q,Int.add_mul,Int.one_mul,e2]; omega
 ·rw [q,e2]; omega
theorem rnd_le {m:Int} {neg:Bool} {n d:Int} (hn:0≤n) (hd:0<d):rndN m neg n d≤n:=by
 have e:=Int.mul_ediv_add_emod n d
 have h0:=Int.emod_nonneg n (show d≠0 by omega)
 have hq:=Int.ediv_nonneg hn (show 0≤d by omega)
 have h2:1*(n / d)≤d*(n / d):=Int.mul_le_mul_of_nonneg_right (by omega) hq
 rcases rnd_cases m neg n d with ⟨q,hr⟩ | q <;> omega
theorem val_par {l:List Lim} (h:0<l.length):valN l % 2=limb l 0 % 2:=by
 have key:∀ i,0<i→valTo l i % 2=limb l 0 % 2:=by
  intro i
  induction i with
  | zero=>intro h; omega
  | succ k ih =>
   intro _
   show(valTo l k+limb l k*1000000000 ^ k) % 2=_
   cases k with
   | zero=>simp [valTo]
   | succ j =>
    have:=ih (by omega)
    have e:limb l (j+1)*1000000000 ^ (j+1)=2*(limb l (j+1)*(500000000*1000000000 ^ j)):=by
     rw [pw_succ]
     have:(1000000000:Int)=2*500000000:=by decide
     rw [show(1000000000:Int)*1000000000 ^ j=2*(500000000*1000000000 ^ j) by omega]
     ac_rfl
    omega
 exact key _ h
def RndP (m:Int) (x:DRat) (e:Bool) (q:List Lim):Prop:=Can q∧valN q=rndN m x.1 (valN x.2.1) (valN x.2.2.1)∧e=(x.1 && decide (0<q.length))
def LeftP (x:DRat) (e:Bool) (q:List Lim) (y:DRat):Prop:=RedS (sval x.1 x.2.1-sval e q*valN x.2.2.1) (valN x.2.2.1) y true
theorem rnd_len {m:Int} {x:DRat} {e:Bool} {q:List Lim} (hx:RatOkP x.1 x.2.1 x.2.2.1) (h:RndP m x e q):q.length≤18∧IntOkP e q∧sval e q=sval x.1 q:=by
 have hn:=valN_nonneg hx.1.1.1.1
 have hd:=(can_pos hx.2.1.1).1 hx.2.2.1
 have h1:=rnd_le (m:=m) (neg:=x.1) hn hd
 have h2:=can_len hx.1.1.1 h.1 (by rw [h.2.1]; exact h1)
 have h3:=hx.2.2.2.2.1
 obtain⟨k1,k2⟩:=made_ok (q:=x.1) h.1 (by omega)
 rw [h.2.2]
 exact⟨by omega,k1,k2⟩
theorem left_bd {m:Int} {x:DRat} {e:Bool} {q:List Lim} (hx:RatOkP x.1 x.2.1 x.2.2.1) (h:RndP m x e q):((sval x.1 x.2.1-sval e q*valN x.2.2.1).natAbs:Int)<1000000000 ^ 18∧0<valN x.2.2.1∧valN x.2.2.1<1000000000 ^ 18:=by
 have hd:=(can_pos hx.2.1.1).1 hx.2.2.1
 have hb:=(valTo_bd hx.2.1.1.1 x.2.2.1.length).2
 have e2:valTo x.2.2.1 x.2.2.1.length=valN x.2.2.1:=rfl
 have hp:=pw_mono hx.2.2.2.1
 have h1:=rnd_diff (m:=m) (neg:=x.1) (n:=valN x.2.1) hd
 rw [← h.2.1] at h1
 rw [(rnd_len hx h).2.2]
 refine⟨?_,hd,by omega⟩
 unfold sval
 split
 ·rw [Int.neg_mul]; omega
 ·omega
def OutP (to:ByteArray) (m:Int) (x:DRat) (mo:DMoney) (ra:DRat) (ok:Bool):Prop :=
 ∃ e q,RndP m x e q∧((q.length≤4∧ok=true∧mo=(to,e,q,())∧LeftP x e q ra)∨(¬ q.length≤4∧ok=false∧mo=(ByteArray.empty,false,[],())∧ra=(false,[],[],())))
end Go.Proofs.YtmppmpceccpdlaaGreatDoor
