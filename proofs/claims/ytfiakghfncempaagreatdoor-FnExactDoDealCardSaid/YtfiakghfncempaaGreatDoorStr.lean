/-
  Contracts of the laws' helpers, by type: sizes, copies, comparisons.
-/
import Derived.Test.YtfiakghfncempaaGreatDoorMath
import Derived.Test.YtfiakghfncempaaGreatDoorCur
import Derived.Test.YtfiakghfncempaaGreatDoorLoopT
namespace Go.Proofs.YtfiakghfncempaaGreatDoor
open Sx
set_option maxRecDepth 100000
theorem rNil.mk {V:Know}:rNil.R V () () []:=rfl
theorem rInt.mk {sh:List Sc} {α:Type} {r:Rp sh α} {V:Know} {c:Scs sh} {x:α} {fp:List Nat} {n:Int} (h:r.R V c x fp):(rInt r).R V (n,c) (n,x) fp:=⟨rfl,h⟩
theorem rBool.mk {sh:List Sc} {α:Type} {r:Rp sh α} {V:Know} {c:Scs sh} {x:α} {fp:List Nat} {n:Bool} (h:r.R V c x fp):(rBool r).R V (n,c) (n,x) fp:=⟨rfl,h⟩
theorem rStr.mk {sh:List Sc} {α:Type} {r:Rp sh α} {V:Know} {c:Scs sh} {x:α} {fp:List Nat} {n:ByteArray} (z:n.size≤9223372036854775807) (h:r.R V c x fp):(rStr r).R V (n,c) (n,x) fp:=⟨⟨rfl,z⟩,h⟩
theorem rSl.mk {se sh:List Sc} {α β:Type} {e:Rp se α} {r:Rp sh β} {V:Know} {s:SlV} {l:List α} {c:Scs sh} {x:β} {f g:List Nat} (hs:LR e V s l f) (h:r.R V c x g):(rSl e r).R V (s,c) (l,x) (f++g):=⟨f,g,rfl,hs,h⟩
theorem szr_no {t:Nat} {left:Int} (h:¬ (t:Int)≤left):szr t left=-1:=if_neg h
abbrev DSigned:Type:=Bool × List (Int × Unit) × Unit
abbrev rSigned:Rp [.b,.l] DSigned:=rBool (rSl rI (rNil))
abbrev DMoney:Type:=ByteArray × Bool × List (Int × Unit) × Unit
abbrev rMoney:Rp [.s,.b,.l] DMoney:=rStr (rBool (rSl rI (rNil)))
abbrev DAcct:Type:=ByteArray × ByteArray × Bool × List (Int × Unit) × Unit
abbrev rAcct:Rp [.s,.s,.b,.l] DAcct:=rStr (rStr (rBool (rSl rI (rNil))))
abbrev DBook:Type:=List DAcct × Unit
abbrev rBook:Rp [.l] DBook:=rSl rAcct (rNil)
abbrev DRat:Type:=Bool × List (Int × Unit) × List (Int × Unit) × Unit
abbrev rRat:Rp [.b,.l,.l] DRat:=rBool (rSl rI (rSl rI (rNil)))
abbrev DRest:Type:=ByteArray × Bool × List (Int × Unit) × List (Int × Unit) × Unit
abbrev rRest:Rp [.s,.b,.l,.l] DRest:=rStr (rBool (rSl rI (rSl rI (rNil))))
abbrev DDec:Type:=Bool × List (Int × Unit) × Int × Unit
abbrev rDec:Rp [.b,.l,.i .i64] DDec:=rBool (rSl rI (rInt (rNil)))
abbrev DRate:Type:=ByteArray × ByteArray × Bool × List (Int × Unit) × Int × Unit
abbrev rRate:Rp [.s,.s,.b,.l,.i .i64] DRate:=rStr (rStr (rBool (rSl rI (rInt (rNil)))))
abbrev DRates:Type:=ByteArray × List DRate × Unit
abbrev rRates:Rp [.s,.l] DRates:=rStr (rSl rRate (rNil))
abbrev DLedger:Type:=List DAcct × List DRest × ByteArray × List DRate × Unit
abbrev rLedger:Rp [.l,.l,.s,.l] DLedger:=rSl rAcct (rSl rRest (rStr (rSl rRate (rNil))))
theorem cL_eqIntS:EqSC Tryz.prog 33 rI:=fun _ s s' _ _ _ _ h h'=>CallX.of_fits Tryz.mix (fL_eqIntS s s') fun _=>tEqI_wp h h'
theorem totE_rI:∀ l:List (Int × Unit),totE rI l=0
 | []=>rfl
 | _ :: l=>by rw [totE,totE_rI l]; rfl
theorem cL_szIntS:SzSC Tryz.prog 123 rI:=by
 intro V s l f left h h0 h1
 refine CallX.of_fits Tryz.mix (fL_szIntS _ _) fun _=>?_
 simp only [tL_szIntS,T.wp]
 have hn:=h.1
 have hb:=h.2.2.1
 have hw:IntKind.i64.wrap (left-(s.n:Int))=left-(s.n:Int):=wrap_i64 (by omega)
 rw [hw,totE_rI]
 refine⟨fun h=>⟨by trivial,?_⟩,fun h=>⟨by trivial,?_⟩⟩
 ·have hh:left-(s.n:Int)<0:=by simpa using h
  rw [szr_no (by omega)]; rfl
 ·have hh:¬ left-(s.n:Int)<0:=by simpa using h
  rw [szr_ge (by omega),hn]; rfl
theorem cL_toIntS:ToSC Tryz.prog 28 rI:=fun _ s _ _ h ht=>CallX.of_fits Tryz.mix (fL_toIntS s) fun _=>tToI_wp h ht
theorem cL_eqStringS:EqSC Tryz.prog 32 rString:=fun _ s s' _ _ _ _ h h'=>CallX.of_fits Tryz.mix (fL_eqStringS s s') fun _=>tEqT_wp h h'
theorem cL_szStringS:SzSC Tryz.prog 23 rString:=fun _ s _ _ left h h0 h1=>CallX.of_fits Tryz.mix (fL_szStringS s left) fun _=>tSzT_wp h h0 h1
theorem cL_toStringS:ToSC Tryz.prog 27 rString:=fun _ s _ _ h ht=>CallX.of_fits Tryz.mix (fL_toStringS s) fun _=>tToT_wp h ht
theorem cL_szSigned:SzC Tryz.prog 70 rSigned:=by
 rintro V ⟨c0,c1,cu⟩ ⟨x0,x1,xu⟩ f left hx h0 h1
 obtain⟨ec0,hx⟩:=hx
 replace ec0:c0=x0:=ec0
 subst ec0
 obtain⟨f1,fr1,ec1,sc1,hx⟩:=hx
 subst ec1
 replace sc1:LR rI _ c1 x1 f1:=sc1
 replace hx:_=[]:=hx
 subst hx
 refine CallX.of_fits Tryz.mix (fL_szSigned _ _) fun _=>?_
 simp only [tL_szSigned,T.wp]
 refine(cL_szIntS _ _ _ _ left sc1 (by omega) (by omega)).mono ?_
 rintro V1 r ⟨rfl,rfl⟩
 have t1:(x1.length+totE rI x1)=(x1.length+totE rI x1):=rfl
 refine⟨nofun,szr ((x1.length+totE rI x1)) left,rfl,fun h=>?_,fun h1=>?_⟩
 ·have hh:=szr_lt.1 (of_decide_eq_true h)
  exact⟨by trivial,by show Value.int .i64 (-1)=Value.int .i64 (szr ((x1.length+totE rI x1+0)) left); rw [szr_no (by omega)]⟩
 have hp1:(((x1.length+totE rI x1):Nat):Int)≤left:=Decidable.not_not.1 fun k=>(of_decide_eq_false h1) (szr_lt.2 k)
 rw [szr_ge hp1]
 refine⟨by trivial,?_⟩
 show Value.int .i64 (left-(((x1.length+totE rI x1):Nat):Int))=Value.int .i64 (szr ((x1.length+totE rI x1+0)) left)
 rw [szr_ge (by omega)]
 congr 1 <;> omega
theorem cL_toSigned:ToC Tryz.prog 82 rSigned:=by
 rintro V ⟨c0,c1,cu⟩ ⟨x0,x1,xu⟩ f hx ht
 obtain⟨ec0,hx⟩:=hx
 replace ec0:c0=x0:=ec0
 subst ec0
 obtain⟨f1,fr1,ec1,sc1,hx⟩:=hx
 subst ec1
 replace sc1:LR rI _ c1 x1 f1:=sc1
 replace hx:_=[]:=hx
 subst hx
 replace ht:(x1.length+totE rI x1+0)≤1048576:=ht
 refine CallX.of_fits Tryz.mix (fL_toSigned _) fun _=>?_
 simp only [tL_toSigned,T.wp]
 refine(cL_toIntS _ _ x1 _ sc1 (by omega)).mono ?_
 rintro V1 r ⟨hle1,d1,k1,rfl,sd1,ho1⟩
 refine⟨nofun,d1,rfl,?_⟩
 exact⟨hle1,(c0,d1,()),_,rfl,(rBool.mk (rSl.mk sd1 rNil.mk)),by simpa using ho1⟩
theorem cL_eqSigned:EqC Tryz.prog 86 rSigned:=by
 rintro V ⟨c0,c1,cu⟩ ⟨d0,d1,du⟩ ⟨x0,x1,xu⟩ ⟨y0,y1,yu⟩ f f' hx hy
 obtain⟨ec0,hx⟩:=hx
 replace ec0:c0=x0:=ec0
 subst ec0
 obtain⟨f1,fr1,ec1,sc1,hx⟩:=hx
 subst ec1
 replace sc1:LR rI _ c1 x1 f1:=sc1
 replace hx:_=[]:=hx
 subst hx
 obtain⟨ed0,hy⟩:=hy
 replace ed0:d0=y0:=ed0
 subst ed0
 obtain⟨g1,gr1,ed1,sd1,hy⟩:=hy
 subst ed1
 replace sd1:LR rI _ d1 y1 g1:=sd1
 replace hy:_=[]:=hy
 subst hy
 refine CallX.of_fits Tryz.mix (fL_eqSigned _ _) fun _=>?_
 simp only [tL_eqSigned,T.wp]
 refine⟨fun h=>⟨by trivial,false,rfl,⟨(fun h=>by cases h),(fun e=>by cases e; simp at h)⟩⟩,fun h0=>?_⟩
 refine(cL_eqIntS _ _ _ _ _ _ _ sc1 sd1).mono ?_
 rintro V1 r ⟨rfl,b1,rfl,hb1⟩
 refine⟨nofun,b1,rfl,fun h=>⟨by trivial,false,rfl,⟨(fun h=>by cases h),(fun e=>by cases e; simp [hb1.2 rfl] at h)⟩⟩,fun h1=>?_⟩
 refine⟨by trivial,true,rfl,⟨fun _=>?_,fun _=>rfl⟩⟩
 have q0:c0=d0:=by simpa using h0
 subst q0
 have q1:x1=y1:=hb1.1 (by simpa using h1)
 cases q1
 rfl
theorem cL_szMoney:SzC Tryz.prog 24 rMoney:=by
 rintro V ⟨c0,c1,c2,cu⟩ ⟨x0,x1,x2,xu⟩ f left hx h0 h1
 obtain⟨⟨ec0,zc0⟩,hx⟩:=hx
 replace ec0:c0=x0:=ec0
 subst ec0
 replace zc0:c0.size≤9223372036854775807:=zc0
 obtain⟨ec1,hx⟩:=hx
 replace ec1:c1=x1:=ec1
 subst ec1
 obtain⟨f2,fr2,ec2,sc2,hx⟩:=hx
 subst ec2
 replace sc2:LR rI _ c2 x2 f2:=sc2
 replace hx:_=[]:=hx
 subst hx
 refine CallX.of_fits Tryz.mix (fL_szMoney _ _) fun _=>?_
 simp only [tL_szMoney,T.wp]
 have w0:IntKind.i64.wrap (left-(c0.size:Int))=left-(c0.size:Int):=wrap_i64 (by omega)
 rw [w0]
 refine⟨fun h=>?_,fun h0=>?_⟩
 ·have hh:(left-(c0.size:Int))<0:=by simpa using h
  exact⟨by trivial,by show Value.int .i64 (-1)=Value.int .i64 (szr ((c0.size+(x2.length+totE rI x2+0))) left); rw [szr_no (by omega)]⟩
 have hh0:0≤(left-(c0.size:Int)):=by
  have:¬ (left-(c0.size:Int))<0:=by simpa using h0
  omega
 refine(cL_szSigned _ _ (c1,x2,()) _ (left-(c0.size:Int)) (rBool.mk (rSl.mk sc2 rNil.mk)) (by omega) (by omega)).mono ?_
 rintro V1 r ⟨rfl,rfl⟩
 have t1:rSigned.tot (c1,x2,())=(x2.length+totE rI x2+0):=rfl
 refine⟨nofun,szr (rSigned.tot (c1,x2,())) (left-(c0.size:Int)),rfl,fun h=>?_,fun h1=>?_⟩
 ·have hh:=szr_lt.1 (of_decide_eq_true h)
  exact⟨by trivial,by show Value.int .i64 (-1)=Value.int .i64 (szr ((c0.size+(x2.length+totE rI x2+0))) left); rw [szr_no (by omega)]⟩
 have hp1:((rSigned.tot (c1,x2,()):Nat):Int)≤(left-(c0.size:Int)):=Decidable.not_not.1 fun k=>(of_decide_eq_false h1) (szr_lt.2 k)
 rw [szr_ge hp1]
 refine⟨by trivial,?_⟩
 show Value.int .i64 ((left-(c0.size:Int))-((rSigned.tot (c1,x2,()):Nat):Int))=Value.int .i64 (szr ((c0.size+(x2.length+totE rI x2+0))) left)
 rw [szr_ge (by omega)]
 congr 1 <;> omega
theorem cL_toMoney:ToC Tryz.prog 29 rMoney:=by
 rintro V ⟨c0,c1,c2,cu⟩ ⟨x0,x1,x2,xu⟩ f hx ht
 obtain⟨⟨ec0,zc0⟩,hx⟩:=hx
 replace ec0:c0=x0:=ec0
 subst ec0
 replace zc0:c0.size≤9223372036854775807:=zc0
 obtain⟨ec1,hx⟩:=hx
 replace ec1:c1=x1:=ec1
 subst ec1
 obtain⟨f2,fr2,ec2,sc2,hx⟩:=hx
 subst ec2
 replace sc2:LR rI _ c2 x2 f2:=sc2
 replace hx:_=[]:=hx
 subst hx
 replace ht:(c0.size+(x2.length+totE rI x2+0))≤1048576:=ht
 refine CallX.of_fits Tryz.mix (fL_toMoney _) fun _=>?_
 simp only [tL_toMoney,T.wp]
 refine(cL_toSigned _ _ (c1,x2,()) _ (rBool.mk (rSl.mk sc2 rNil.mk)) (by show(x2.length+totE rI x2+0)≤1048576; omega)).mono ?_
 rintro V1 r ⟨hle1,⟨d1,d2,du1⟩,k1,rfl,hr1,ho1⟩
 obtain⟨ed1,hr1⟩:=hr1
 replace ed1:d1=c1:=ed1
 subst ed1
 obtain⟨k1f2,k1r2,ed2,sd2,hr1⟩:=hr1
 subst ed2
 replace sd2:LR rI _ d2 x2 k1f2:=sd2
 replace hr1:_=[]:=hr1
 subst hr1
 refine⟨nofun,(d1,d2,()),rfl,?_⟩
 exact⟨hle1,(c0,d1,d2,()),_,rfl,(rStr.mk zc0 (rBool.mk (rSl.mk sd2 rNil.mk))),by simpa using ho1⟩
theorem cL_eqMoney:EqC Tryz.prog 34 rMoney:=by
 rintro V ⟨c0,c1,c2,cu⟩ ⟨d0,d1,d2,du⟩ ⟨x0,x1,x2,xu⟩ ⟨y0,y1,y2,yu⟩ f f' hx hy
 obtain⟨⟨ec0,zc0⟩,hx⟩:=hx
 replace ec0:c0=x0:=ec0
 subst ec0
 replace zc0:c0.size≤9223372036854775807:=zc0
 obtain⟨ec1,hx⟩:=hx
 replace ec1:c1=x1:=ec1
 subst ec1
 obtain⟨f2,fr2,ec2,sc2,hx⟩:=hx
 subst ec2
 replace sc2:LR rI _ c2 x2 f2:=sc2
 replace hx:_=[]:=hx
 subst hx
 obtain⟨⟨ed0,zd0⟩,hy⟩:=hy
 replace ed0:d0=y0:=ed0
 subst ed0
 replace zd0:d0.size≤9223372036854775807:=zd0
 obtain⟨ed1,hy⟩:=hy
 replace ed1:d1=y1:=ed1
 subst ed1
 obtain⟨g2,gr2,ed2,sd2,hy⟩:=hy
 subst ed2
 replace sd2:LR rI _ d2 y2 g2:=sd2
 replace hy:_=[]:=hy
 subst hy
 refine CallX.of_fits Tryz.mix (fL_eqMoney _ _) fun _=>?_
 simp only [tL_eqMoney,T.wp]
 refine⟨fun h=>⟨by trivial,false,rfl,⟨(fun h=>by cases h),(fun e=>by cases e; simp at h)⟩⟩,fun h0=>?_⟩
 refine(cL_eqSigned _ _ _ _ _ _ _ (rBool.mk (rSl.mk sc2 rNil.mk)) (rBool.mk (rSl.mk sd2 rNil.mk))).mono ?_
 rintro V1 r ⟨rfl,b1,rfl,hb1⟩
 refine⟨nofun,b1,rfl,fun h=>⟨by trivial,false,rfl,⟨(fun h=>by cases h),(fun e=>by cases e; simp [hb1.2 rfl] at h)⟩⟩,fun h1=>?_⟩
 refine⟨by trivial,true,rfl,⟨fun _=>?_,fun _=>rfl⟩⟩
 have q0:c0=d0:=text_eq.1 (by simpa using h0)
 subst q0
 have q1:(c1,x2,())=(d1,y2,()):=hb1.1 (by simpa using h1)
 cases q1
 rfl
theorem cL_szAcct:SzC Tryz.prog 171 rAcct:=by
 rintro V ⟨c0,c1,c2,c3,cu⟩ ⟨x0,x1,x2,x3,xu⟩ f left hx h0 h1
 obtain⟨⟨ec0,zc0⟩,hx⟩:=hx
 replace ec0:c0=x0:=ec0
 subst ec0
 replace zc0:c0.size≤9223372036854775807:=zc0
 obtain⟨⟨ec1,zc1⟩,hx⟩:=hx
 replace ec1:c1=x1:=ec1
 subst ec1
 replace zc1:c1.size≤9223372036854775807:=zc1
 obtain⟨ec2,hx⟩:=hx
 replace ec2:c2=x2:=ec2
 subst ec2
 obtain⟨f3,fr3,ec3,sc3,hx⟩:=hx
 subst ec3
 replace sc3:LR rI _ c3 x3 f3:=sc3
 replace hx:_=[]:=hx
 subst hx
 refine CallX.of_fits Tryz.mix (fL_szAcct _ _) fun _=>?_
 simp only [tL_szAcct,T.wp]
 have w0:IntKind.i64.wrap (left-(c0.size:Int))=left-(c0.size:Int):=wrap_i64 (by omega)
 rw [w0]
 refine⟨fun h=>?_,fun h0=>?_⟩
 ·have hh:(left-(c0.size:Int))<0:=by simpa using h
  exact⟨by trivial,by show Value.int .i64 (-1)=Value.int .i64 (szr ((c0.size+(c1.size+(x3.length+totE rI x3+0)))) left); rw [szr_no (by omega)]⟩
 have hh0:0≤(left-(c0.size:Int)):=by
  have:¬ (left-(c0.size:Int))<0:=by simpa using h0
  omega
 refine(cL_szMoney _ _ (c1,c2,x3,()) _ (left-(c0.size:Int)) (rStr.mk zc1 (rBool.mk (rSl.mk sc3 rNil.mk))) (by omega) (by omega)).mono ?_
 rintro V1 r ⟨rfl,rfl⟩
 have t1:rMoney.tot (c1,c2,x3,())=(c1.size+(x3.length+totE rI x3+0)):=rfl
 refine⟨nofun,szr (rMoney.tot (c1,c2,x3,())) (left-(c0.size:Int)),rfl,fun h=>?_,fun h1=>?_⟩
 ·have hh:=szr_lt.1 (of_decide_eq_true h)
  exact⟨by trivial,by show Value.int .i64 (-1)=Value.int .i64 (szr ((c0.size+(c1.size+(x3.length+totE rI x3+0)))) left); rw [szr_no (by omega)]⟩
 have hp1:((rMoney.tot (c1,c2,x3,()):Nat):Int)≤(left-(c0.size:Int)):=Decidable.not_not.1 fun k=>(of_decide_eq_false h1) (szr_lt.2 k)
 rw [szr_ge hp1]
 refine⟨by trivial,?_⟩
 show Value.int .i64 ((left-(c0.size:Int))-((rMoney.tot (c1,c2,x3,()):Nat):Int))=Value.int .i64 (szr ((c0.size+(c1.size+(x3.length+totE rI x3+0)))) left)
 rw [szr_ge (by omega)]
 congr 1 <;> omega
theorem cL_toAcct:ToC Tryz.prog 191 rAcct:=by
 rintro V ⟨c0,c1,c2,c3,cu⟩ ⟨x0,x1,x2,x3,xu⟩ f hx ht
 obtain⟨⟨ec0,zc0⟩,hx⟩:=hx
 replace ec0:c0=x0:=ec0
 subst ec0
 replace zc0:c0.size≤9223372036854775807:=zc0
 obtain⟨⟨ec1,zc1⟩,hx⟩:=hx
 replace ec1:c1=x1:=ec1
 subst ec1
 replace zc1:c1.size≤9223372036854775807:=zc1
 obtain⟨ec2,hx⟩:=hx
 replace ec2:c2=x2:=ec2
 subst ec2
 obtain⟨f3,fr3,ec3,sc3,hx⟩:=hx
 subst ec3
 replace sc3:LR rI _ c3 x3 f3:=sc3
 replace hx:_=[]:=hx
 subst hx
 replace ht:(c0.size+(c1.size+(x3.length+totE rI x3+0)))≤1048576:=ht
 refine CallX.of_fits Tryz.mix (fL_toAcct _) fun _=>?_
 simp only [tL_toAcct,T.wp]
 refine(cL_toMoney _ _ (c1,c2,x3,()) _ (rStr.mk zc1 (rBool.mk (rSl.mk sc3 rNil.mk))) (by show(c1.size+(x3.length+totE rI x3+0))≤1048576; omega)).mono ?_
 rintro V1 r ⟨hle1,⟨d1,d2,d3,du1⟩,k1,rfl,hr1,ho1⟩
 obtain⟨⟨ed1,zd1⟩,hr1⟩:=hr1
 replace ed1:d1=c1:=ed1
 subst ed1
 replace zd1:d1.size≤9223372036854775807:=zd1
 obtain⟨ed2,hr1⟩:=hr1
 replace ed2:d2=c2:=ed2
 subst ed2
 obtain⟨k1f3,k1r3,ed3,sd3,hr1⟩:=hr1
 subst ed3
 replace sd3:LR rI _ d3 x3 k1f3:=sd3
 replace hr1:_=[]:=hr1
 subst hr1
 refine⟨nofun,(d1,d2,d3,()),rfl,?_⟩
 exact⟨hle1,(c0,d1,d2,d3,()),_,rfl,(rStr.mk zc0 (rStr.mk zd1 (rBool.mk (rSl.mk sd3 rNil.mk)))),by simpa using ho1⟩
theorem cL_eqAcct:EqC Tryz.prog 194 rAcct:=by
 rintro V ⟨c0,c1,c2,c3,cu⟩ ⟨d0,d1,d2,d3,du⟩ ⟨x0,x1,x2,x3,xu⟩ ⟨y0,y1,y2,y3,yu⟩ f f' hx hy
 obtain⟨⟨ec0,zc0⟩,hx⟩:=hx
 replace ec0:c0=x0:=ec0
 subst ec0
 replace zc0:c0.size≤9223372036854775807:=zc0
 obtain⟨⟨ec1,zc1⟩,hx⟩:=hx
 replace ec1:c1=x1:=ec1
 subst ec1
 replace zc1:c1.size≤9223372036854775807:=zc1
 obtain⟨ec2,hx⟩:=hx
 replace ec2:c2=x2:=ec2
 subst ec2
 obtain⟨f3,fr3,ec3,sc3,hx⟩:=hx
 subst ec3
 replace sc3:LR rI _ c3 x3 f3:=sc3
 replace hx:_=[]:=hx
 subst hx
 obtain⟨⟨ed0,zd0⟩,hy⟩:=hy
 replace ed0:d0=y0:=ed0
 subst ed0
 replace zd0:d0.size≤9223372036854775807:=zd0
 obtain⟨⟨ed1,zd1⟩,hy⟩:=hy
 replace ed1:d1=y1:=ed1
 subst ed1
 replace zd1:d1.size≤9223372036854775807:=zd1
 obtain⟨ed2,hy⟩:=hy
 replace ed2:d2=y2:=ed2
 subst ed2
 obtain⟨g3,gr3,ed3,sd3,hy⟩:=hy
 subst ed3
 replace sd3:LR rI _ d3 y3 g3:=sd3
 replace hy:_=[]:=hy
 subst hy
 refine CallX.of_fits Tryz.mix (fL_eqAcct _ _) fun _=>?_
 simp only [tL_eqAcct,T.wp]
 refine⟨fun h=>⟨by trivial,false,rfl,⟨(fun h=>by cases h),(fun e=>by cases e; simp at h)⟩⟩,fun h0=>?_⟩
 refine(cL_eqMoney _ _ _ _ _ _ _ (rStr.mk zc1 (rBool.mk (rSl.mk sc3 rNil.mk))) (rStr.mk zd1 (rBool.mk (rSl.mk sd3 rNil.mk)))).mono ?_
 rintro V1 r ⟨rfl,b1,rfl,hb1⟩
 refine⟨nofun,b1,rfl,fun h=>⟨by trivial,false,rfl,⟨(fun h=>by cases h),(fun e=>by cases e; simp [hb1.2 rfl] at h)⟩⟩,fun h1=>?_⟩
 refine⟨by trivial,true,rfl,⟨fun _=>?_,fun _=>rfl⟩⟩
 have q0:c0=d0:=text_eq.1 (by simpa using h0)
 subst q0
 have q1:(c1,c2,x3,())=(d1,d2,y3,()):=hb1.1 (by simpa using h1)
 cases q1
 rfl
theorem cL_eqAcctS:EqSC Tryz.prog 139 rAcct:=fun _ s s' _ _ _ _ h h'=>CallX.of_fits Tryz.mix (fL_eqAcctS s s') fun _=>tEqS_wp (g:=194) rfl cL_eqAcct h h'
theorem cL_szAcctS:SzSC Tryz.prog 120 rAcct:=fun _ s _ _ left h h0 h1=>CallX.of_fits Tryz.mix (fL_szAcctS s left) fun _=>tSzS_wp (g:=171) rfl cL_szAcct h h0 h1
theorem cL_toAcctS:ToSC Tryz.prog 136 rAcct:=fun _ s _ _ h ht=>CallX.of_fits Tryz.mix (fL_toAcctS s) fun _=>tToS_wp (g:=191) rfl (by omega) cL_toAcct h ht
theorem cL_szBook:SzC Tryz.prog 67 rBook:=by
 rintro V ⟨c0,cu⟩ ⟨x0,xu⟩ f left hx h0 h1
 obtain⟨f0,fr0,ec0,sc0,hx⟩:=hx
 subst ec0
 replace sc0:LR rAcct _ c0 x0 f0:=sc0
 replace hx:_=[]:=hx
 subst hx
 refine CallX.of_fits Tryz.mix (fL_szBook _ _) fun _=>?_
 simp only [tL_szBook,T.wp]
 refine(cL_szAcctS _ _ _ _ left sc0 (by omega) (by omega)).mono ?_
 rintro V0 r ⟨rfl,rfl⟩
 have t0:(x0.length+totE rAcct x0)=(x0.length+totE rAcct x0):=rfl
 refine⟨nofun,szr ((x0.length+totE rAcct x0)) left,rfl,fun h=>?_,fun h0=>?_⟩
 ·have hh:=szr_lt.1 (of_decide_eq_true h)
  exact⟨by trivial,by show Value.int .i64 (-1)=Value.int .i64 (szr ((x0.length+totE rAcct x0+0)) left); rw [szr_no (by omega)]⟩
 have hp0:(((x0.length+totE rAcct x0):Nat):Int)≤left:=Decidable.not_not.1 fun k=>(of_decide_eq_false h0) (szr_lt.2 k)
 rw [szr_ge hp0]
 refine⟨by trivial,?_⟩
 show Value.int .i64 (left-(((x0.length+totE rAcct x0):Nat):Int))=Value.int .i64 (szr ((x0.length+totE rAcct x0+0)) left)
 rw [szr_ge (by omega)]
 congr 1 <;> omega
theorem cL_toBook:ToC Tryz.prog 79 rBook:=by
 rintro V ⟨c0,cu⟩ ⟨x0,xu⟩ f hx ht
 obtain⟨f0,fr0,ec0,sc0,hx⟩:=hx
 subst ec0
 replace sc0:LR rAcct _ c0 x0 f0:=sc0
 replace hx:_=[]:=hx
 subst hx
 replace ht:(x0.length+totE rAcct x0+0)≤1048576:=ht
 refine CallX.of_fits Tryz.mix (fL_toBook _) fun _=>?_
 simp only [tL_toBook,T.wp]
 refine(cL_toAcctS _ _ x0 _ sc0 (by omega)).mono ?_
 rintro V0 r ⟨hle0,d0,k0,rfl,sd0,ho0⟩
 refine⟨nofun,d0,rfl,?_⟩
 exact⟨hle0,(d0,()),_,rfl,(rSl.mk sd0 rNil.mk),by simpa using ho0⟩
theorem cL_eqBook:EqC Tryz.prog 83 rBook:=by
 rintro V ⟨c0,cu⟩ ⟨d0,du⟩ ⟨x0,xu⟩ ⟨y0,yu⟩ f f' hx hy
 obtain⟨f0,fr0,ec0,sc0,hx⟩:=hx
 subst ec0
 replace sc0:LR rAcct _ c0 x0 f0:=sc0
 replace hx:_=[]:=hx
 subst hx
 obtain⟨g0,gr0,ed0,sd0,hy⟩:=hy
 subst ed0
 replace sd0:LR rAcct _ d0 y0 g0:=sd0
 replace hy:_=[]:=hy
 subst hy
 refine CallX.of_fits Tryz.mix (fL_eqBook _ _) fun _=>?_
 simp only [tL_eqBook,T.wp]
 refine(cL_eqAcctS _ _ _ _ _ _ _ sc0 sd0).mono ?_
 rintro V0 r ⟨rfl,b0,rfl,hb0⟩
 refine⟨nofun,b0,rfl,fun h=>⟨by trivial,false,rfl,⟨(fun h=>by cases h),(fun e=>by cases e; simp [hb0.2 rfl] at h)⟩⟩,fun h0=>?_⟩
 refine⟨by trivial,true,rfl,⟨fun _=>?_,fun _=>rfl⟩⟩
 have q0:x0=y0:=hb0.1 (by simpa using h0)
 cases q0
 rfl
theorem cL_szRat:SzC Tryz.prog 172 rRat:=by
 rintro V ⟨c0,c1,c2,cu⟩ ⟨x0,x1,x2,xu⟩ f left hx h0 h1
 obtain⟨ec0,hx⟩:=hx
 replace ec0:c0=x0:=ec0
 subst ec0
 obtain⟨f1,fr1,ec1,sc1,hx⟩:=hx
 subst ec1
 replace sc1:LR rI _ c1 x1 f1:=sc1
 obtain⟨f2,fr2,ec2,sc2,hx⟩:=hx
 subst ec2
 replace sc2:LR rI _ c2 x2 f2:=sc2
 replace hx:_=[]:=hx
 subst hx
 refine CallX.of_fits Tryz.mix (fL_szRat _ _) fun _=>?_
 simp only [tL_szRat,T.wp]
 refine(cL_szSigned _ _ (c0,x1,()) _ left (rBool.mk (rSl.mk sc1 rNil.mk)) (by omega) (by omega)).mono ?_
 rintro V0 r ⟨rfl,rfl⟩
 have t0:rSigned.tot (c0,x1,())=(x1.length+totE rI x1+0):=rfl
 refine⟨nofun,szr (rSigned.tot (c0,x1,())) left,rfl,fun h=>?_,fun h0=>?_⟩
 ·have hh:=szr_lt.1 (of_decide_eq_true h)
  exact⟨by trivial,by show Value.int .i64 (-1)=Value.int .i64 (szr ((x1.length+totE rI x1+(x2.length+totE rI x2+0))) left); rw [szr_no (by omega)]⟩
 have hp0:((rSigned.tot (c0,x1,()):Nat):Int)≤left:=Decidable.not_not.1 fun k=>(of_decide_eq_false h0) (szr_lt.2 k)
 rw [szr_ge hp0]
 refine(cL_szIntS _ _ _ _ (left-((rSigned.tot (c0,x1,()):Nat):Int)) sc2 (by omega) (by omega)).mono ?_
 rintro V2 r ⟨rfl,rfl⟩
 have t2:(x2.length+totE rI x2)=(x2.length+totE rI x2):=rfl
 refine⟨nofun,szr ((x2.length+totE rI x2)) (left-((rSigned.tot (c0,x1,()):Nat):Int)),rfl,fun h=>?_,fun h2=>?_⟩
 ·have hh:=szr_lt.1 (of_decide_eq_true h)
  exact⟨by trivial,by show Value.int .i64 (-1)=Value.int .i64 (szr ((x1.length+totE rI x1+(x2.length+totE rI x2+0))) left); rw [szr_no (by omega)]⟩
 have hp2:(((x2.length+totE rI x2):Nat):Int)≤(left-((rSigned.tot (c0,x1,()):Nat):Int)):=Decidable.not_not.1 fun k=>(of_decide_eq_false h2) (szr_lt.2 k)
 rw [szr_ge hp2]
 refine⟨by trivial,?_⟩
 show Value.int .i64 ((left-((rSigned.tot (c0,x1,()):Nat):Int))-(((x2.length+totE rI x2):Nat):Int))=Value.int .i64 (szr ((x1.length+totE rI x1+(x2.length+totE rI x2+0))) left)
 rw [szr_ge (by omega)]
 congr 1 <;> omega
theorem cL_toRat:ToC Tryz.prog 192 rRat:=by
 rintro V ⟨c0,c1,c2,cu⟩ ⟨x0,x1,x2,xu⟩ f hx ht
 obtain⟨ec0,hx⟩:=hx
 replace ec0:c0=x0:=ec0
 subst ec0
 obtain⟨f1,fr1,ec1,sc1,hx⟩:=hx
 subst ec1
 replace sc1:LR rI _ c1 x1 f1:=sc1
 obtain⟨f2,fr2,ec2,sc2,hx⟩:=hx
 subst ec2
 replace sc2:LR rI _ c2 x2 f2:=sc2
 replace hx:_=[]:=hx
 subst hx
 replace ht:(x1.length+totE rI x1+(x2.length+totE rI x2+0))≤1048576:=ht
 refine CallX.of_fits Tryz.mix (fL_toRat _) fun _=>?_
 simp only [tL_toRat,T.wp]
 refine(cL_toSigned _ _ (c0,x1,()) _ (rBool.mk (rSl.mk sc1 rNil.mk)) (by show(x1.length+totE rI x1+0)≤1048576; omega)).mono ?_
 rintro V0 r ⟨hle0,⟨d0,d1,du0⟩,k0,rfl,hr0,ho0⟩
 obtain⟨ed0,hr0⟩:=hr0
 replace ed0:d0=c0:=ed0
 subst ed0
 obtain⟨k0f1,k0r1,ed1,sd1,hr0⟩:=hr0
 subst ed1
 replace sd1:LR rI _ d1 x1 k0f1:=sd1
 replace hr0:_=[]:=hr0
 subst hr0
 refine⟨nofun,(d0,d1,()),rfl,?_⟩
 refine(cL_toIntS _ _ x2 _ (sc2.le hle0) (by omega)).mono ?_
 rintro V2 r ⟨hle2,d2,k2,rfl,sd2,ho2⟩
 refine⟨nofun,d2,rfl,?_⟩
 have hA2:=ho0.append ho2 hle0 hle2
 have hL2:=hle0.trans hle2
 replace sd1:=sd1.le hle2
 exact⟨hL2,(d0,d1,d2,()),_,rfl,(rBool.mk (rSl.mk sd1 (rSl.mk sd2 rNil.mk))),by simpa using hA2⟩
theorem cL_eqRat:EqC Tryz.prog 195 rRat:=by
 rintro V ⟨c0,c1,c2,cu⟩ ⟨d0,d1,d2,du⟩ ⟨x0,x1,x2,xu⟩ ⟨y0,y1,y2,yu⟩ f f' hx hy
 obtain⟨ec0,hx⟩:=hx
 replace ec0:c0=x0:=ec0
 subst ec0
 obtain⟨f1,fr1,ec1,sc1,hx⟩:=hx
 subst ec1
 replace sc1:LR rI _ c1 x1 f1:=sc1
 obtain⟨f2,fr2,ec2,sc2,hx⟩:=hx
 subst ec2
 replace sc2:LR rI _ c2 x2 f2:=sc2
 replace hx:_=[]:=hx
 subst hx
 obtain⟨ed0,hy⟩:=hy
 replace ed0:d0=y0:=ed0
 subst ed0
 obtain⟨g1,gr1,ed1,sd1,hy⟩:=hy
 subst ed1
 replace sd1:LR rI _ d1 y1 g1:=sd1
 obtain⟨g2,gr2,ed2,sd2,hy⟩:=hy
 subst ed2
 replace sd2:LR rI _ d2 y2 g2:=sd2
 replace hy:_=[]:=hy
 subst hy
 refine CallX.of_fits Tryz.mix (fL_eqRat _ _) fun _=>?_
 simp only [tL_eqRat,T.wp]
 refine(cL_eqSigned _ _ _ _ _ _ _ (rBool.mk (rSl.mk sc1 rNil.mk)) (rBool.mk (rSl.mk sd1 rNil.mk))).mono ?_
 rintro V0 r ⟨rfl,b0,rfl,hb0⟩
 refine⟨nofun,b0,rfl,fun h=>⟨by trivial,false,rfl,⟨(fun h=>by cases h),(fun e=>by cases e; simp [hb0.2 rfl] at h)⟩⟩,fun h0=>?_⟩
 refine(cL_eqIntS _ _ _ _ _ _ _ sc2 sd2).mono ?_
 rintro V2 r ⟨rfl,b2,rfl,hb2⟩
 refine⟨nofun,b2,rfl,fun h=>⟨by trivial,false,rfl,⟨(fun h=>by cases h),(fun e=>by cases e; simp [hb2.2 rfl] at h)⟩⟩,fun h2=>?_⟩
 refine⟨by trivial,true,rfl,⟨fun _=>?_,fun _=>rfl⟩⟩
 have q0:(c0,x1,())=(d0,y1,()):=hb0.1 (by simpa using h0)
 cases q0
 have q2:x2=y2:=hb2.1 (by simpa using h2)
 cases q2
 rfl
theorem cL_szRest:SzC Tryz.prog 121 rRest:=by
 rintro V ⟨c0,c1,c2,c3,cu⟩ ⟨x0,x1,x2,x3,xu⟩ f left hx h0 h1
 obtain⟨⟨ec0,zc0⟩,hx⟩:=hx
 replace ec0:c0=x0:=ec0
 subst ec0
 replace zc0:c0.size≤9223372036854775807:=zc0
 obtain⟨ec1,hx⟩:=hx
 replace ec1:c1=x1:=ec1
 subst ec1
 obtain⟨f2,fr2,ec2,sc2,hx⟩:=hx
 subst ec2
 replace sc2:LR rI _ c2 x2 f2:=sc2
 obtain⟨f3,fr3,ec3,sc3,hx⟩:=hx
 subst ec3
 replace sc3:LR rI _ c3 x3 f3:=sc3
 replace hx:_=[]:=hx
 subst hx
 refine CallX.of_fits Tryz.mix (fL_szRest _ _) fun _=>?_
 simp only [tL_szRest,T.wp]
 have w0:IntKind.i64.wrap (left-(c0.size:Int))=left-(c0.size:Int):=wrap_i64 (by omega)
 rw [w0]
 refine⟨fun h=>?_,fun h0=>?_⟩
 ·have hh:(left-(c0.size:Int))<0:=by simpa using h
  exact⟨by trivial,by show Value.int .i64 (-1)=Value.int .i64 (szr ((c0.size+(x2.length+totE rI x2+(x3.length+totE rI x3+0)))) left); rw [szr_no (by omega)]⟩
 have hh0:0≤(left-(c0.size:Int)):=by
  have:¬ (left-(c0.size:Int))<0:=by simpa using h0
  omega
 refine(cL_szRat _ _ (c1,x2,x3,()) _ (left-(c0.size:Int)) (rBool.mk (rSl.mk sc2 (rSl.mk sc3 rNil.mk))) (by omega) (by omega)).mono ?_
 rintro V1 r ⟨rfl,rfl⟩
 have t1:rRat.tot (c1,x2,x3,())=(x2.length+totE rI x2+(x3.length+totE rI x3+0)):=rfl
 refine⟨nofun,szr (rRat.tot (c1,x2,x3,())) (left-(c0.size:Int)),rfl,fun h=>?_,fun h1=>?_⟩
 ·have hh:=szr_lt.1 (of_decide_eq_true h)
  exact⟨by trivial,by show Value.int .i64 (-1)=Value.int .i64 (szr ((c0.size+(x2.length+totE rI x2+(x3.length+totE rI x3+0)))) left); rw [szr_no (by omega)]⟩
 have hp1:((rRat.tot (c1,x2,x3,()):Nat):Int)≤(left-(c0.size:Int)):=Decidable.not_not.1 fun k=>(of_decide_eq_false h1) (szr_lt.2 k)
 rw [szr_ge hp1]
 refine⟨by trivial,?_⟩
 show Value.int .i64 ((left-(c0.size:Int))-((rRat.tot (c1,x2,x3,()):Nat):Int))=Value.int .i64 (szr ((c0.size+(x2.length+totE rI x2+(x3.length+totE rI x3+0)))) left)
 rw [szr_ge (by omega)]
 congr 1 <;> omega
theorem cL_toRest:ToC Tryz.prog 137 rRest:=by
 rintro V ⟨c0,c1,c2,c3,cu⟩ ⟨x0,x1,x2,x3,xu⟩ f hx ht
 obtain⟨⟨ec0,zc0⟩,hx⟩:=hx
 replace ec0:c0=x0:=ec0
 subst ec0
 replace zc0:c0.size≤9223372036854775807:=zc0
 obtain⟨ec1,hx⟩:=hx
 replace ec1:c1=x1:=ec1
 subst ec1
 obtain⟨f2,fr2,ec2,sc2,hx⟩:=hx
 subst ec2
 replace sc2:LR rI _ c2 x2 f2:=sc2
 obtain⟨f3,fr3,ec3,sc3,hx⟩:=hx
 subst ec3
 replace sc3:LR rI _ c3 x3 f3:=sc3
 replace hx:_=[]:=hx
 subst hx
 replace ht:(c0.size+(x2.length+totE rI x2+(x3.length+totE rI x3+0)))≤1048576:=ht
 refine CallX.of_fits Tryz.mix (fL_toRest _) fun _=>?_
 simp only [tL_toRest,T.wp]
 refine(cL_toRat _ _ (c1,x2,x3,()) _ (rBool.mk (rSl.mk sc2 (rSl.mk sc3 rNil.mk))) (by show(x2.length+totE rI x2+(x3.length+totE rI x3+0))≤1048576; omega)).mono ?_
 rintro V1 r ⟨hle1,⟨d1,d2,d3,du1⟩,k1,rfl,hr1,ho1⟩
 obtain⟨ed1,hr1⟩:=hr1
 replace ed1:d1=c1:=ed1
 subst ed1
 obtain⟨k1f2,k1r2,ed2,sd2,hr1⟩:=hr1
 subst ed2
 replace sd2:LR rI _ d2 x2 k1f2:=sd2
 obtain⟨k1f3,k1r3,ed3,sd3,hr1⟩:=hr1
 subst ed3
 replace sd3:LR rI _ d3 x3 k1f3:=sd3
 replace hr1:_=[]:=hr1
 subst hr1
 refine⟨nofun,(d1,d2,d3,()),rfl,?_⟩
 exact⟨hle1,(c0,d1,d2,d3,()),_,rfl,(rStr.mk zc0 (rBool.mk (rSl.mk sd2 (rSl.mk sd3 rNil.mk)))),by simpa using ho1⟩
theorem cL_eqRest:EqC Tryz.prog 140 rRest:=by
 rintro V ⟨c0,c1,c2,c3,cu⟩ ⟨d0,d1,d2,d3,du⟩ ⟨x0,x1,x2,x3,xu⟩ ⟨y0,y1,y2,y3,yu⟩ f f' hx hy
 obtain⟨⟨ec0,zc0⟩,hx⟩:=hx
 replace ec0:c0=x0:=ec0
 subst ec0
 replace zc0:c0.size≤9223372036854775807:=zc0
 obtain⟨ec1,hx⟩:=hx
 replace ec1:c1=x1:=ec1
 subst ec1
 obtain⟨f2,fr2,ec2,sc2,hx⟩:=hx
 subst ec2
 replace sc2:LR rI _ c2 x2 f2:=sc2
 obtain⟨f3,fr3,ec3,sc3,hx⟩:=hx
 subst ec3
 replace sc3:LR rI _ c3 x3 f3:=sc3
 replace hx:_=[]:=hx
 subst hx
 obtain⟨⟨ed0,zd0⟩,hy⟩:=hy
 replace ed0:d0=y0:=ed0
 subst ed0
 replace zd0:d0.size≤9223372036854775807:=zd0
 obtain⟨ed1,hy⟩:=hy
 replace ed1:d1=y1:=ed1
 subst ed1
 obtain⟨g2,gr2,ed2,sd2,hy⟩:=hy
 subst ed2
 replace sd2:LR rI _ d2 y2 g2:=sd2
 obtain⟨g3,gr3,ed3,sd3,hy⟩:=hy
 subst ed3
 replace sd3:LR rI _ d3 y3 g3:=sd3
 replace hy:_=[]:=hy
 subst hy
 refine CallX.of_fits Tryz.mix (fL_eqRest _ _) fun _=>?_
 simp only [tL_eqRest,T.wp]
 refine⟨fun h=>⟨by trivial,false,rfl,⟨(fun h=>by cases h),(fun e=>by cases e; simp at h)⟩⟩,fun h0=>?_⟩
 refine(cL_eqRat _ _ _ _ _ _ _ (rBool.mk (rSl.mk sc2 (rSl.mk sc3 rNil.mk))) (rBool.mk (rSl.mk sd2 (rSl.mk sd3 rNil.mk)))).mono ?_
 rintro V1 r ⟨rfl,b1,rfl,hb1⟩
 refine⟨nofun,b1,rfl,fun h=>⟨by trivial,false,rfl,⟨(fun h=>by cases h),(fun e=>by cases e; simp [hb1.2 rfl] at h)⟩⟩,fun h1=>?_⟩
 refine⟨by trivial,true,rfl,⟨fun _=>?_,fun _=>rfl⟩⟩
 have q0:c0=d0:=text_eq.1 (by simpa using h0)
 subst q0
 have q1:(c1,x2,x3,())=(d1,y2,y3,()):=hb1.1 (by simpa using h1)
 cases q1
 rfl
theorem cL_eqRestS:EqSC Tryz.prog 84 rRest:=fun _ s s' _ _ _ _ h h'=>CallX.of_fits Tryz.mix (fL_eqRestS s s') fun _=>tEqS_wp (g:=140) rfl cL_eqRest h h'
theorem cL_szRestS:SzSC Tryz.prog 68 rRest:=fun _ s _ _ left h h0 h1=>CallX.of_fits Tryz.mix (fL_szRestS s left) fun _=>tSzS_wp (g:=121) rfl cL_szRest h h0 h1
theorem cL_toRestS:ToSC Tryz.prog 80 rRest:=fun _ s _ _ h ht=>CallX.of_fits Tryz.mix (fL_toRestS s) fun _=>tToS_wp (g:=137) rfl (by omega) cL_toRest h ht
theorem cL_szDec:SzC Tryz.prog 210 rDec:=by
 rintro V ⟨c0,c1,c2,cu⟩ ⟨x0,x1,x2,xu⟩ f left hx h0 h1
 obtain⟨ec0,hx⟩:=hx
 replace ec0:c0=x0:=ec0
 subst ec0
 obtain⟨f1,fr1,ec1,sc1,hx⟩:=hx
 subst ec1
 replace sc1:LR rI _ c1 x1 f1:=sc1
 obtain⟨ec2,hx⟩:=hx
 replace ec2:c2=x2:=ec2
 subst ec2
 replace hx:_=[]:=hx
 subst hx
 refine CallX.of_fits Tryz.mix (fL_szDec _ _) fun _=>?_
 simp only [tL_szDec,T.wp]
 refine(cL_szSigned _ _ (c0,x1,()) _ left (rBool.mk (rSl.mk sc1 rNil.mk)) (by omega) (by omega)).mono ?_
 rintro V0 r ⟨rfl,rfl⟩
 have t0:rSigned.tot (c0,x1,())=(x1.length+totE rI x1+0):=rfl
 refine⟨nofun,szr (rSigned.tot (c0,x1,())) left,rfl,fun h=>?_,fun h0=>?_⟩
 ·have hh:=szr_lt.1 (of_decide_eq_true h)
  exact⟨by trivial,by show Value.int .i64 (-1)=Value.int .i64 (szr ((x1.length+totE rI x1+0)) left); rw [szr_no (by omega)]⟩
 have hp0:((rSigned.tot (c0,x1,()):Nat):Int)≤left:=Decidable.not_not.1 fun k=>(of_decide_eq_false h0) (szr_lt.2 k)
 rw [szr_ge hp0]
 refine⟨by trivial,?_⟩
 show Value.int .i64 (left-((rSigned.tot (c0,x1,()):Nat):Int))=Value.int .i64 (szr ((x1.length+totE rI x1+0)) left)
 rw [szr_ge (by omega)]
 congr 1 <;> omega
theorem cL_toDec:ToC Tryz.prog 226 rDec:=by
 rintro V ⟨c0,c1,c2,cu⟩ ⟨x0,x1,x2,xu⟩ f hx ht
 obtain⟨ec0,hx⟩:=hx
 replace ec0:c0=x0:=ec0
 subst ec0
 obtain⟨f1,fr1,ec1,sc1,hx⟩:=hx
 subst ec1
 replace sc1:LR rI _ c1 x1 f1:=sc1
 obtain⟨ec2,hx⟩:=hx
 replace ec2:c2=x2:=ec2
 subst ec2
 replace hx:_=[]:=hx
 subst hx
 replace ht:(x1.length+totE rI x1+0)≤1048576:=ht
 refine CallX.of_fits Tryz.mix (fL_toDec _) fun _=>?_
 simp only [tL_toDec,T.wp]
 refine(cL_toSigned _ _ (c0,x1,()) _ (rBool.mk (rSl.mk sc1 rNil.mk)) (by show(x1.length+totE rI x1+0)≤1048576; omega)).mono ?_
 rintro V0 r ⟨hle0,⟨d0,d1,du0⟩,k0,rfl,hr0,ho0⟩
 obtain⟨ed0,hr0⟩:=hr0
 replace ed0:d0=c0:=ed0
 subst ed0
 obtain⟨k0f1,k0r1,ed1,sd1,hr0⟩:=hr0
 subst ed1
 replace sd1:LR rI _ d1 x1 k0f1:=sd1
 replace hr0:_=[]:=hr0
 subst hr0
 refine⟨nofun,(d0,d1,()),rfl,?_⟩
 exact⟨hle0,(d0,d1,c2,()),_,rfl,(rBool.mk (rSl.mk sd1 (rInt.mk rNil.mk))),by simpa using ho0⟩
theorem cL_eqDec:EqC Tryz.prog 227 rDec:=by
 rintro V ⟨c0,c1,c2,cu⟩ ⟨d0,d1,d2,du⟩ ⟨x0,x1,x2,xu⟩ ⟨y0,y1,y2,yu⟩ f f' hx hy
 obtain⟨ec0,hx⟩:=hx
 replace ec0:c0=x0:=ec0
 subst ec0
 obtain⟨f1,fr1,ec1,sc1,hx⟩:=hx
 subst ec1
 replace sc1:LR rI _ c1 x1 f1:=sc1
 obtain⟨ec2,hx⟩:=hx
 replace ec2:c2=x2:=ec2
 subst ec2
 replace hx:_=[]:=hx
 subst hx
 obtain⟨ed0,hy⟩:=hy
 replace ed0:d0=y0:=ed0
 subst ed0
 obtain⟨g1,gr1,ed1,sd1,hy⟩:=hy
 subst ed1
 replace sd1:LR rI _ d1 y1 g1:=sd1
 obtain⟨ed2,hy⟩:=hy
 replace ed2:d2=y2:=ed2
 subst ed2
 replace hy:_=[]:=hy
 subst hy
 refine CallX.of_fits Tryz.mix (fL_eqDec _ _) fun _=>?_
 simp only [tL_eqDec,T.wp]
 refine(cL_eqSigned _ _ _ _ _ _ _ (rBool.mk (rSl.mk sc1 rNil.mk)) (rBool.mk (rSl.mk sd1 rNil.mk))).mono ?_
 rintro V0 r ⟨rfl,b0,rfl,hb0⟩
 refine⟨nofun,b0,rfl,fun h=>⟨by trivial,false,rfl,⟨(fun h=>by cases h),(fun e=>by cases e; simp [hb0.2 rfl] at h)⟩⟩,fun h0=>?_⟩
 refine⟨fun h=>⟨by trivial,false,rfl,⟨(fun h=>by cases h),(fun e=>by cases e; simp at h)⟩⟩,fun h2=>?_⟩
 refine⟨by trivial,true,rfl,⟨fun _=>?_,fun _=>rfl⟩⟩
 have q0:(c0,x1,())=(d0,y1,()):=hb0.1 (by simpa using h0)
 cases q0
 have q2:c2=d2:=by simpa using h2
 subst q2
 rfl
theorem cL_szRate:SzC Tryz.prog 173 rRate:=by
 rintro V ⟨c0,c1,c2,c3,c4,cu⟩ ⟨x0,x1,x2,x3,x4,xu⟩ f left hx h0 h1
 obtain⟨⟨ec0,zc0⟩,hx⟩:=hx
 replace ec0:c0=x0:=ec0
 subst ec0
 replace zc0:c0.size≤9223372036854775807:=zc0
 obtain⟨⟨ec1,zc1⟩,hx⟩:=hx
 replace ec1:c1=x1:=ec1
 subst ec1
 replace zc1:c1.size≤9223372036854775807:=zc1
 obtain⟨ec2,hx⟩:=hx
 replace ec2:c2=x2:=ec2
 subst ec2
 obtain⟨f3,fr3,ec3,sc3,hx⟩:=hx
 subst ec3
 replace sc3:LR rI _ c3 x3 f3:=sc3
 obtain⟨ec4,hx⟩:=hx
 replace ec4:c4=x4:=ec4
 subst ec4
 replace hx:_=[]:=hx
 subst hx
 refine CallX.of_fits Tryz.mix (fL_szRate _ _) fun _=>?_
 simp only [tL_szRate,T.wp]
 have w0:IntKind.i64.wrap (left-(c0.size:Int))=left-(c0.size:Int):=wrap_i64 (by omega)
 rw [w0]
 refine⟨fun h=>?_,fun h0=>?_⟩
 ·have hh:(left-(c0.size:Int))<0:=by simpa using h
  exact⟨by trivial,by show Value.int .i64 (-1)=Value.int .i64 (szr ((c0.size+(c1.size+(x3.length+totE rI x3+0)))) left); rw [szr_no (by omega)]⟩
 have hh0:0≤(left-(c0.size:Int)):=by
  have:¬ (left-(c0.size:Int))<0:=by simpa using h0
  omega
 have w1:IntKind.i64.wrap ((left-(c0.size:Int))-(c1.size:Int))=(left-(c0.size:Int))-(c1.size:Int):=wrap_i64 (by omega)
 rw [w1]
 refine⟨fun h=>?_,fun h1=>?_⟩
 ·have hh:((left-(c0.size:Int))-(c1.size:Int))<0:=by simpa using h
  exact⟨by trivial,by show Value.int .i64 (-1)=Value.int .i64 (szr ((c0.size+(c1.size+(x3.length+totE rI x3+0)))) left); rw [szr_no (by omega)]⟩
 have hh1:0≤((left-(c0.size:Int))-(c1.size:Int)):=by
  have:¬ ((left-(c0.size:Int))-(c1.size:Int))<0:=by simpa using h1
  omega
 refine(cL_szDec _ _ (c2,x3,c4,()) _ ((left-(c0.size:Int))-(c1.size:Int)) (rBool.mk (rSl.mk sc3 (rInt.mk rNil.mk))) (by omega) (by omega)).mono ?_
 rintro V2 r ⟨rfl,rfl⟩
 have t2:rDec.tot (c2,x3,c4,())=(x3.length+totE rI x3+0):=rfl
 refine⟨nofun,szr (rDec.tot (c2,x3,c4,())) ((left-(c0.size:Int))-(c1.size:Int)),rfl,fun h=>?_,fun h2=>?_⟩
 ·have hh:=szr_lt.1 (of_decide_eq_true h)
  exact⟨by trivial,by show Value.int .i64 (-1)=Value.int .i64 (szr ((c0.size+(c1.size+(x3.length+totE rI x3+0)))) left); rw [szr_no (by omega)]⟩
 have hp2:((rDec.tot (c2,x3,c4,()):Nat):Int)≤((left-(c0.size:Int))-(c1.size:Int)):=Decidable.not_not.1 fun k=>(of_decide_eq_false h2) (szr_lt.2 k)
 rw [szr_ge hp2]
 refine⟨by trivial,?_⟩
 show Value.int .i64 (((left-(c0.size:Int))-(c1.size:Int))-((rDec.tot (c2,x3,c4,()):Nat):Int))=Value.int .i64 (szr ((c0.size+(c1.size+(x3.length+totE rI x3+0)))) left)
 rw [szr_ge (by omega)]
 congr 1 <;> omega
theorem cL_toRate:ToC Tryz.prog 193 rRate:=by
 rintro V ⟨c0,c1,c2,c3,c4,cu⟩ ⟨x0,x1,x2,x3,x4,xu⟩ f hx ht
 obtain⟨⟨ec0,zc0⟩,hx⟩:=hx
 replace ec0:c0=x0:=ec0
 subst ec0
 replace zc0:c0.size≤9223372036854775807:=zc0
 obtain⟨⟨ec1,zc1⟩,hx⟩:=hx
 replace ec1:c1=x1:=ec1
 subst ec1
 replace zc1:c1.size≤9223372036854775807:=zc1
 obtain⟨ec2,hx⟩:=hx
 replace ec2:c2=x2:=ec2
 subst ec2
 obtain⟨f3,fr3,ec3,sc3,hx⟩:=hx
 subst ec3
 replace sc3:LR rI _ c3 x3 f3:=sc3
 obtain⟨ec4,hx⟩:=hx
 replace ec4:c4=x4:=ec4
 subst ec4
 replace hx:_=[]:=hx
 subst hx
 replace ht:(c0.size+(c1.size+(x3.length+totE rI x3+0)))≤1048576:=ht
 refine CallX.of_fits Tryz.mix (fL_toRate _) fun _=>?_
 simp only [tL_toRate,T.wp]
 refine(cL_toDec _ _ (c2,x3,c4,()) _ (rBool.mk (rSl.mk sc3 (rInt.mk rNil.mk))) (by show(x3.length+totE rI x3+0)≤1048576; omega)).mono ?_
 rintro V2 r ⟨hle2,⟨d2,d3,d4,du2⟩,k2,rfl,hr2,ho2⟩
 obtain⟨ed2,hr2⟩:=hr2
 replace ed2:d2=c2:=ed2
 subst ed2
 obtain⟨k2f3,k2r3,ed3,sd3,hr2⟩:=hr2
 subst ed3
 replace sd3:LR rI _ d3 x3 k2f3:=sd3
 obtain⟨ed4,hr2⟩:=hr2
 replace ed4:d4=c4:=ed4
 subst ed4
 replace hr2:_=[]:=hr2
 subst hr2
 refine⟨nofun,(d2,d3,d4,()),rfl,?_⟩
 exact⟨hle2,(c0,c1,d2,d3,d4,()),_,rfl,(rStr.mk zc0 (rStr.mk zc1 (rBool.mk (rSl.mk sd3 (rInt.mk rNil.mk))))),by simpa using ho2⟩
theorem cL_eqRate:EqC Tryz.prog 196 rRate:=by
 rintro V ⟨c0,c1,c2,c3,c4,cu⟩ ⟨d0,d1,d2,d3,d4,du⟩ ⟨x0,x1,x2,x3,x4,xu⟩ ⟨y0,y1,y2,y3,y4,yu⟩ f f' hx hy
 obtain⟨⟨ec0,zc0⟩,hx⟩:=hx
 replace ec0:c0=x0:=ec0
 subst ec0
 replace zc0:c0.size≤9223372036854775807:=zc0
 obtain⟨⟨ec1,zc1⟩,hx⟩:=hx
 replace ec1:c1=x1:=ec1
 subst ec1
 replace zc1:c1.size≤9223372036854775807:=zc1
 obtain⟨ec2,hx⟩:=hx
 replace ec2:c2=x2:=ec2
 subst ec2
 obtain⟨f3,fr3,ec3,sc3,hx⟩:=hx
 subst ec3
 replace sc3:LR rI _ c3 x3 f3:=sc3
 obtain⟨ec4,hx⟩:=hx
 replace ec4:c4=x4:=ec4
 subst ec4
 replace hx:_=[]:=hx
 subst hx
 obtain⟨⟨ed0,zd0⟩,hy⟩:=hy
 replace ed0:d0=y0:=ed0
 subst ed0
 replace zd0:d0.size≤9223372036854775807:=zd0
 obtain⟨⟨ed1,zd1⟩,hy⟩:=hy
 replace ed1:d1=y1:=ed1
 subst ed1
 replace zd1:d1.size≤9223372036854775807:=zd1
 obtain⟨ed2,hy⟩:=hy
 replace ed2:d2=y2:=ed2
 subst ed2
 obtain⟨g3,gr3,ed3,sd3,hy⟩:=hy
 subst ed3
 replace sd3:LR rI _ d3 y3 g3:=sd3
 obtain⟨ed4,hy⟩:=hy
 replace ed4:d4=y4:=ed4
 subst ed4
 replace hy:_=[]:=hy
 subst hy
 refine CallX.of_fits Tryz.mix (fL_eqRate _ _) fun _=>?_
 simp only [tL_eqRate,T.wp]
 refine⟨fun h=>⟨by trivial,false,rfl,⟨(fun h=>by cases h),(fun e=>by cases e; simp at h)⟩⟩,fun h0=>?_⟩
 refine⟨fun h=>⟨by trivial,false,rfl,⟨(fun h=>by cases h),(fun e=>by cases e; simp at h)⟩⟩,fun h1=>?_⟩
 refine(cL_eqDec _ _ _ _ _ _ _ (rBool.mk (rSl.mk sc3 (rInt.mk rNil.mk))) (rBool.mk (rSl.mk sd3 (rInt.mk rNil.mk)))).mono ?_
 rintro V2 r ⟨rfl,b2,rfl,hb2⟩
 refine⟨nofun,b2,rfl,fun h=>⟨by trivial,false,rfl,⟨(fun h=>by cases h),(fun e=>by cases e; simp [hb2.2 rfl] at h)⟩⟩,fun h2=>?_⟩
 refine⟨by trivial,true,rfl,⟨fun _=>?_,fun _=>rfl⟩⟩
 have q0:c0=d0:=text_eq.1 (by simpa using h0)
 subst q0
 have q1:c1=d1:=text_eq.1 (by simpa using h1)
 subst q1
 have q2:(c2,x3,c4,())=(d2,y3,d4,()):=hb2.1 (by simpa using h2)
 cases q2
 rfl
theorem cL_eqRateS:EqSC Tryz.prog 141 rRate:=fun _ s s' _ _ _ _ h h'=>CallX.of_fits Tryz.mix (fL_eqRateS s s') fun _=>tEqS_wp (g:=196) rfl cL_eqRate h h'
theorem cL_szRateS:SzSC Tryz.prog 122 rRate:=fun _ s _ _ left h h0 h1=>CallX.of_fits Tryz.mix (fL_szRateS s left) fun _=>tSzS_wp (g:=173) rfl cL_szRate h h0 h1
theorem cL_toRateS:ToSC Tryz.prog 138 rRate:=fun _ s _ _ h ht=>CallX.of_fits Tryz.mix (fL_toRateS s) fun _=>tToS_wp (g:=193) rfl (by omega) cL_toRate h ht
theorem cL_szRates:SzC Tryz.prog 69 rRates:=by
 rintro V ⟨c0,c1,cu⟩ ⟨x0,x1,xu⟩ f left hx h0 h1
 obtain⟨⟨ec0,zc0⟩,hx⟩:=hx
 replace ec0:c0=x0:=ec0
 subst ec0
 replace zc0:c0.size≤9223372036854775807:=zc0
 obtain⟨f1,fr1,ec1,sc1,hx⟩:=hx
 subst ec1
 replace sc1:LR rRate _ c1 x1 f1:=sc1
 replace hx:_=[]:=hx
 subst hx
 refine CallX.of_fits Tryz.mix (fL_szRates _ _) fun _=>?_
 simp only [tL_szRates,T.wp]
 have w0:IntKind.i64.wrap (left-(c0.size:Int))=left-(c0.size:Int):=wrap_i64 (by omega)
 rw [w0]
 refine⟨fun h=>?_,fun h0=>?_⟩
 ·have hh:(left-(c0.size:Int))<0:=by simpa using h
  exact⟨by trivial,by show Value.int .i64 (-1)=Value.int .i64 (szr ((c0.size+(x1.length+totE rRate x1+0))) left); rw [szr_no (by omega)]⟩
 have hh0:0≤(left-(c0.size:Int)):=by
  have:¬ (left-(c0.size:Int))<0:=by simpa using h0
  omega
 refine(cL_szRateS _ _ _ _ (left-(c0.size:Int)) sc1 (by omega) (by omega)).mono ?_
 rintro V1 r ⟨rfl,rfl⟩
 have t1:(x1.length+totE rRate x1)=(x1.length+totE rRate x1):=rfl
 refine⟨nofun,szr ((x1.length+totE rRate x1)) (left-(c0.size:Int)),rfl,fun h=>?_,fun h1=>?_⟩
 ·have hh:=szr_lt.1 (of_decide_eq_true h)
  exact⟨by trivial,by show Value.int .i64 (-1)=Value.int .i64 (szr ((c0.size+(x1.length+totE rRate x1+0))) left); rw [szr_no (by omega)]⟩
 have hp1:(((x1.length+totE rRate x1):Nat):Int)≤(left-(c0.size:Int)):=Decidable.not_not.1 fun k=>(of_decide_eq_false h1) (szr_lt.2 k)
 rw [szr_ge hp1]
 refine⟨by trivial,?_⟩
 show Value.int .i64 ((left-(c0.size:Int))-(((x1.length+totE rRate x1):Nat):Int))=Value.int .i64 (szr ((c0.size+(x1.length+totE rRate x1+0))) left)
 rw [szr_ge (by omega)]
 congr 1 <;> omega
theorem cL_toRates:ToC Tryz.prog 81 rRates:=by
 rintro V ⟨c0,c1,cu⟩ ⟨x0,x1,xu⟩ f hx ht
 obtain⟨⟨ec0,zc0⟩,hx⟩:=hx
 replace ec0:c0=x0:=ec0
 subst ec0
 replace zc0:c0.size≤9223372036854775807:=zc0
 obtain⟨f1,fr1,ec1,sc1,hx⟩:=hx
 subst ec1
 replace sc1:LR rRate _ c1 x1 f1:=sc1
 replace hx:_=[]:=hx
 subst hx
 replace ht:(c0.size+(x1.length+totE rRate x1+0))≤1048576:=ht
 refine CallX.of_fits Tryz.mix (fL_toRates _) fun _=>?_
 simp only [tL_toRates,T.wp]
 refine(cL_toRateS _ _ x1 _ sc1 (by omega)).mono ?_
 rintro V1 r ⟨hle1,d1,k1,rfl,sd1,ho1⟩
 refine⟨nofun,d1,rfl,?_⟩
 exact⟨hle1,(c0,d1,()),_,rfl,(rStr.mk zc0 (rSl.mk sd1 rNil.mk)),by simpa using ho1⟩
theorem cL_eqRates:EqC Tryz.prog 85 rRates:=by
 rintro V ⟨c0,c1,cu⟩ ⟨d0,d1,du⟩ ⟨x0,x1,xu⟩ ⟨y0,y1,yu⟩ f f' hx hy
 obtain⟨⟨ec0,zc0⟩,hx⟩:=hx
 replace ec0:c0=x0:=ec0
 subst ec0
 replace zc0:c0.size≤9223372036854775807:=zc0
 obtain⟨f1,fr1,ec1,sc1,hx⟩:=hx
 subst ec1
 replace sc1:LR rRate _ c1 x1 f1:=sc1
 replace hx:_=[]:=hx
 subst hx
 obtain⟨⟨ed0,zd0⟩,hy⟩:=hy
 replace ed0:d0=y0:=ed0
 subst ed0
 replace zd0:d0.size≤9223372036854775807:=zd0
 obtain⟨g1,gr1,ed1,sd1,hy⟩:=hy
 subst ed1
 replace sd1:LR rRate _ d1 y1 g1:=sd1
 replace hy:_=[]:=hy
 subst hy
 refine CallX.of_fits Tryz.mix (fL_eqRates _ _) fun _=>?_
 simp only [tL_eqRates,T.wp]
 refine⟨fun h=>⟨by trivial,false,rfl,⟨(fun h=>by cases h),(fun e=>by cases e; simp at h)⟩⟩,fun h0=>?_⟩
 refine(cL_eqRateS _ _ _ _ _ _ _ sc1 sd1).mono ?_
 rintro V1 r ⟨rfl,b1,rfl,hb1⟩
 refine⟨nofun,b1,rfl,fun h=>⟨by trivial,false,rfl,⟨(fun h=>by cases h),(fun e=>by cases e; simp [hb1.2 rfl] at h)⟩⟩,fun h1=>?_⟩
 refine⟨by trivial,true,rfl,⟨fun _=>?_,fun _=>rfl⟩⟩
 have q0:c0=d0:=text_eq.1 (by simpa using h0)
 subst q0
 have q1:x1=y1:=hb1.1 (by simpa using h1)
 cases q1
 rfl
theorem cL_szLedger:SzC Tryz.prog 22 rLedger:=by
 rintro V ⟨c0,c1,c2,c3,cu⟩ ⟨x0,x1,x2,x3,xu⟩ f left hx h0 h1
 obtain⟨f0,fr0,ec0,sc0,hx⟩:=hx
 subst ec0
 replace sc0:LR rAcct _ c0 x0 f0:=sc0
 obtain⟨f1,fr1,ec1,sc1,hx⟩:=hx
 subst ec1
 replace sc1:LR rRest _ c1 x1 f1:=sc1
 obtain⟨⟨ec2,zc2⟩,hx⟩:=hx
 replace ec2:c2=x2:=ec2
 subst ec2
 replace zc2:c2.size≤9223372036854775807:=zc2
 obtain⟨f3,fr3,ec3,sc3,hx⟩:=hx
 subst ec3
 replace sc3:LR rRate _ c3 x3 f3:=sc3
 replace hx:_=[]:=hx
 subst hx
 refine CallX.of_fits Tryz.mix (fL_szLedger _ _) fun _=>?_
 simp only [tL_szLedger,T.wp]
 refine(cL_szBook _ _ (x0,()) _ left (rSl.mk sc0 rNil.mk) (by omega) (by omega)).mono ?_
 rintro V0 r ⟨rfl,rfl⟩
 have t0:rBook.tot (x0,())=(x0.length+totE rAcct x0+0):=rfl
 refine⟨nofun,szr (rBook.tot (x0,())) left,rfl,fun h=>?_,fun h0=>?_⟩
 ·have hh:=szr_lt.1 (of_decide_eq_true h)
  exact⟨by trivial,by show Value.int .i64 (-1)=Value.int .i64 (szr ((x0.length+totE rAcct x0+(x1.length+totE rRest x1+(c2.size+(x3.length+totE rRate x3+0))))) left); rw [szr_no (by omega)]⟩
 have hp0:((rBook.tot (x0,()):Nat):Int)≤left:=Decidable.not_not.1 fun k=>(of_decide_eq_false h0) (szr_lt.2 k)
 rw [szr_ge hp0]
 refine(cL_szRestS _ _ _ _ (left-((rBook.tot (x0,()):Nat):Int)) sc1 (by omega) (by omega)).mono ?_
 rintro V1 r ⟨rfl,rfl⟩
 have t1:(x1.length+totE rRest x1)=(x1.length+totE rRest x1):=rfl
 refine⟨nofun,szr ((x1.length+totE rRest x1)) (left-((rBook.tot (x0,()):Nat):Int)),rfl,fun h=>?_,fun h1=>?_⟩
 ·have hh:=szr_lt.1 (of_decide_eq_true h)
  exact⟨by trivial,by show Value.int .i64 (-1)=Value.int .i64 (szr ((x0.length+totE rAcct x0+(x1.length+totE rRest x1+(c2.size+(x3.length+totE rRate x3+0))))) left); rw [szr_no (by omega)]⟩
 have hp1:(((x1.length+totE rRest x1):Nat):Int)≤(left-((rBook.tot (x0,()):Nat):Int)):=Decidable.not_not.1 fun k=>(of_decide_eq_false h1) (szr_lt.2 k)
 rw [szr_ge hp1]
 refine(cL_szRates _ _ (c2,x3,()) _ ((left-((rBook.tot (x0,()):Nat):Int))-(((x1.length+totE rRest x1):Nat):Int)) (rStr.mk zc2 (rSl.mk sc3 rNil.mk)) (by omega) (by omega)).mono ?_
 rintro V2 r ⟨rfl,rfl⟩
 have t2:rRates.tot (c2,x3,())=(c2.size+(x3.length+totE rRate x3+0)):=rfl
 refine⟨nofun,szr (rRates.tot (c2,x3,())) ((left-((rBook.tot (x0,()):Nat):Int))-(((x1.length+totE rRest x1):Nat):Int)),rfl,fun h=>?_,fun h2=>?_⟩
 ·have hh:=szr_lt.1 (of_decide_eq_true h)
  exact⟨by trivial,by show Value.int .i64 (-1)=Value.int .i64 (szr ((x0.length+totE rAcct x0+(x1.length+totE rRest x1+(c2.size+(x3.length+totE rRate x3+0))))) left); rw [szr_no (by omega)]⟩
 have hp2:((rRates.tot (c2,x3,()):Nat):Int)≤((left-((rBook.tot (x0,()):Nat):Int))-(((x1.length+totE rRest x1):Nat):Int)):=Decidable.not_not.1 fun k=>(of_decide_eq_false h2) (szr_lt.2 k)
 rw [szr_ge hp2]
 refine⟨by trivial,?_⟩
 show Value.int .i64 (((left-((rBook.tot (x0,()):Nat):Int))-(((x1.length+totE rRest x1):Nat):Int))-((rRates.tot (c2,x3,()):Nat):Int))=Value.int .i64 (szr ((x0.length+totE rAcct x0+(x1.length+totE rRest x1+(c2.size+(x3.length+totE rRate x3+0))))) left)
 rw [szr_ge (by omega)]
 congr 1 <;> omega
theorem cL_toLedger:ToC Tryz.prog 26 rLedger:=by
 rintro V ⟨c0,c1,c2,c3,cu⟩ ⟨x0,x1,x2,x3,xu⟩ f hx ht
 obtain⟨f0,fr0,ec0,sc0,hx⟩:=hx
 subst ec0
 replace sc0:LR rAcct _ c0 x0 f0:=sc0
 obtain⟨f1,fr1,ec1,sc1,hx⟩:=hx
 subst ec1
 replace sc1:LR rRest _ c1 x1 f1:=sc1
 obtain⟨⟨ec2,zc2⟩,hx⟩:=hx
 replace ec2:c2=x2:=ec2
 subst ec2
 replace zc2:c2.size≤9223372036854775807:=zc2
 obtain⟨f3,fr3,ec3,sc3,hx⟩:=hx
 subst ec3
 replace sc3:LR rRate _ c3 x3 f3:=sc3
 replace hx:_=[]:=hx
 subst hx
 replace ht:(x0.length+totE rAcct x0+(x1.length+totE rRest x1+(c2.size+(x3.length+totE rRate x3+0))))≤1048576:=ht
 refine CallX.of_fits Tryz.mix (fL_toLedger _) fun _=>?_
 simp only [tL_toLedger,T.wp]
 refine(cL_toBook _ _ (x0,()) _ (rSl.mk sc0 rNil.mk) (by show(x0.length+totE rAcct x0+0)≤1048576; omega)).mono ?_
 rintro V0 r ⟨hle0,⟨d0,du0⟩,k0,rfl,hr0,ho0⟩
 obtain⟨k0f0,k0r0,ed0,sd0,hr0⟩:=hr0
 subst ed0
 replace sd0:LR rAcct _ d0 x0 k0f0:=sd0
 replace hr0:_=[]:=hr0
 subst hr0
 refine⟨nofun,(d0,()),rfl,?_⟩
 refine(cL_toRestS _ _ x1 _ (sc1.le hle0) (by omega)).mono ?_
 rintro V1 r ⟨hle1,d1,k1,rfl,sd1,ho1⟩
 refine⟨nofun,d1,rfl,?_⟩
 have hA1:=ho0.append ho1 hle0 hle1
 have hL1:=hle0.trans hle1
 replace sd0:=sd0.le hle1
 refine(cL_toRates _ _ (c2,x3,()) _ (rStr.mk zc2 (rSl.mk (sc3.le hL1) rNil.mk)) (by show(c2.size+(x3.length+totE rRate x3+0))≤1048576; omega)).mono ?_
 rintro V2 r ⟨hle2,⟨d2,d3,du2⟩,k2,rfl,hr2,ho2⟩
 obtain⟨⟨ed2,zd2⟩,hr2⟩:=hr2
 replace ed2:d2=c2:=ed2
 subst ed2
 replace zd2:d2.size≤9223372036854775807:=zd2
 obtain⟨k2f3,k2r3,ed3,sd3,hr2⟩:=hr2
 subst ed3
 replace sd3:LR rRate _ d3 x3 k2f3:=sd3
 replace hr2:_=[]:=hr2
 subst hr2
 refine⟨nofun,(d2,d3,()),rfl,?_⟩
 have hA2:=hA1.append ho2 hL1 hle2
 have hL2:=hL1.trans hle2
 replace sd0:=sd0.le hle2
 replace sd1:=sd1.le hle2
 exact⟨hL2,(d0,d1,d2,d3,()),_,rfl,(rSl.mk sd0 (rSl.mk sd1 (rStr.mk zd2 (rSl.mk sd3 rNil.mk)))),by simpa using hA2⟩
theorem cL_eqLedger:EqC Tryz.prog 31 rLedger:=by
 rintro V ⟨c0,c1,c2,c3,cu⟩ ⟨d0,d1,d2,d3,du⟩ ⟨x0,x1,x2,x3,xu⟩ ⟨y0,y1,y2,y3,yu⟩ f f' hx hy
 obtain⟨f0,fr0,ec0,sc0,hx⟩:=hx
 subst ec0
 replace sc0:LR rAcct _ c0 x0 f0:=sc0
 obtain⟨f1,fr1,ec1,sc1,hx⟩:=hx
 subst ec1
 replace sc1:LR rRest _ c1 x1 f1:=sc1
 obtain⟨⟨ec2,zc2⟩,hx⟩:=hx
 replace ec2:c2=x2:=ec2
 subst ec2
 replace zc2:c2.size≤9223372036854775807:=zc2
 obtain⟨f3,fr3,ec3,sc3,hx⟩:=hx
 subst ec3
 replace sc3:LR rRate _ c3 x3 f3:=sc3
 replace hx:_=[]:=hx
 subst hx
 obtain⟨g0,gr0,ed0,sd0,hy⟩:=hy
 subst ed0
 replace sd0:LR rAcct _ d0 y0 g0:=sd0
 obtain⟨g1,gr1,ed1,sd1,hy⟩:=hy
 subst ed1
 replace sd1:LR rRest _ d1 y1 g1:=sd1
 obtain⟨⟨ed2,zd2⟩,hy⟩:=hy
 replace ed2:d2=y2:=ed2
 subst ed2
 replace zd2:d2.size≤9223372036854775807:=zd2
 obtain⟨g3,gr3,ed3,sd3,hy⟩:=hy
 subst ed3
 replace sd3:LR rRate _ d3 y3 g3:=sd3
 replace hy:_=[]:=hy
 subst hy
 refine CallX.of_fits Tryz.mix (fL_eqLedger _ _) fun _=>?_
 simp only [tL_eqLedger,T.wp]
 refine(cL_eqBook _ _ _ _ _ _ _ (rSl.mk sc0 rNil.mk) (rSl.mk sd0 rNil.mk)).mono ?_
 rintro V0 r ⟨rfl,b0,rfl,hb0⟩
 refine⟨nofun,b0,rfl,fun h=>⟨by trivial,false,rfl,⟨(fun h=>by cases h),(fun e=>by cases e; simp [hb0.2 rfl] at h)⟩⟩,fun h0=>?_⟩
 refine(cL_eqRestS _ _ _ _ _ _ _ sc1 sd1).mono ?_
 rintro V1 r ⟨rfl,b1,rfl,hb1⟩
 refine⟨nofun,b1,rfl,fun h=>⟨by trivial,false,rfl,⟨(fun h=>by cases h),(fun e=>by cases e; simp [hb1.2 rfl] at h)⟩⟩,fun h1=>?_⟩
 refine(cL_eqRates _ _ _ _ _ _ _ (rStr.mk zc2 (rSl.mk sc3 rNil.mk)) (rStr.mk zd2 (rSl.mk sd3 rNil.mk))).mono ?_
 rintro V2 r ⟨rfl,b2,rfl,hb2⟩
 refine⟨nofun,b2,rfl,fun h=>⟨by trivial,false,rfl,⟨(fun h=>by cases h),(fun e=>by cases e; simp [hb2.2 rfl] at h)⟩⟩,fun h2=>?_⟩
 refine⟨by trivial,true,rfl,⟨fun _=>?_,fun _=>rfl⟩⟩
 have q0:(x0,())=(y0,()):=hb0.1 (by simpa using h0)
 cases q0
 have q1:x1=y1:=hb1.1 (by simpa using h1)
 cases q1
 have q2:(c2,x3,())=(d2,y3,()):=hb2.1 (by simpa using h2)
 cases q2
 rfl
end Go.Proofs.YtfiakghfncempaaGreatDoor
