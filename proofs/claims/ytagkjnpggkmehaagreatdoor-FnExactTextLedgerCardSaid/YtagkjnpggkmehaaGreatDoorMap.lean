/-
  Operations on maps that are known: made, asked, laid into.
-/
import Derived.Test.YtagkjnpggkmehaaGreatDoorMath
import Derived.Test.YtagkjnpggkmehaaGreatDoorNum
import Derived.ChangeKeysEq
import Derived.Carry
namespace Go.Proofs.YtagkjnpggkmehaaGreatDoor
open Sx
set_option maxRecDepth 100000
theorem rNil.mk {V:Know}:rNil.R V () () []:=rfl
theorem rInt.mk {sh:List Sc} {α:Type} {r:Rp sh α} {V:Know} {c:Scs sh} {x:α} {fp:List Nat} {n:Int} (h:r.R V c x fp):(rInt r).R V (n,c) (n,x) fp:=⟨rfl,h⟩
theorem rBool.mk {sh:List Sc} {α:Type} {r:Rp sh α} {V:Know} {c:Scs sh} {x:α} {fp:List Nat} {n:Bool} (h:r.R V c x fp):(rBool r).R V (n,c) (n,x) fp:=⟨rfl,h⟩
theorem rStr.mk {sh:List Sc} {α:Type} {r:Rp sh α} {V:Know} {c:Scs sh} {x:α} {fp:List Nat} {n:ByteArray} (z:n.size≤9223372036854775807) (h:r.R V c x fp):(rStr r).R V (n,c) (n,x) fp:=⟨⟨rfl,z⟩,h⟩
theorem rSl.mk {se sh:List Sc} {α β:Type} {e:Rp se α} {r:Rp sh β} {V:Know} {s:SlV} {l:List α} {c:Scs sh} {x:β} {f g:List Nat} (hs:LR e V s l f) (h:r.R V c x g):(rSl e r).R V (s,c) (l,x) (f++g):=⟨f,g,rfl,hs,h⟩
abbrev DSigned:Type:=Bool × List (Int × Unit) × Unit
abbrev rSigned:Rp [.b,.l] DSigned:=rBool (rSl rI (rNil))
abbrev DMoney:Type:=ByteArray × Bool × List (Int × Unit) × Unit
abbrev rMoney:Rp [.s,.b,.l] DMoney:=rStr (rBool (rSl rI (rNil)))
abbrev DAcct:Type:=ByteArray × ByteArray × Bool × List (Int × Unit) × Unit
abbrev rAcct:Rp [.s,.s,.b,.l] DAcct:=rStr (rStr (rBool (rSl rI (rNil))))
abbrev DBook:Type:=List DAcct × Unit
abbrev rBook:Rp [.l] DBook:=rSl rAcct (rNil)
abbrev DRat:Type:=Bool × List (Int × Unit) × List (Int × Unit) × Unit
abbrev rRat:Rp [.b,.l,.l] DRat:=rBool (rSl rI (rSl rI (rNil)))
abbrev DRest:Type:=ByteArray × Bool × List (Int × Unit) × List (Int × Unit) × Unit
abbrev rRest:Rp [.s,.b,.l,.l] DRest:=rStr (rBool (rSl rI (rSl rI (rNil))))
abbrev DDec:Type:=Bool × List (Int × Unit) × Int × Unit
abbrev rDec:Rp [.b,.l,.i .i64] DDec:=rBool (rSl rI (rInt (rNil)))
abbrev DRate:Type:=ByteArray × ByteArray × Bool × List (Int × Unit) × Int × Unit
abbrev rRate:Rp [.s,.s,.b,.l,.i .i64] DRate:=rStr (rStr (rBool (rSl rI (rInt (rNil)))))
abbrev DRates:Type:=ByteArray × List DRate × Unit
abbrev rRates:Rp [.s,.l] DRates:=rStr (rSl rRate (rNil))
abbrev DLedger:Type:=List DAcct × List DRest × ByteArray × List DRate × Unit
abbrev rLedger:Rp [.l,.l,.s,.l] DLedger:=rSl rAcct (rSl rRest (rStr (rSl rRate (rNil))))
theorem cL_eqIntS:EqSC Tryz.prog 169 rI:=fun _ s s' _ _ _ _ h h'=>CallX.of_fits Tryz.mix (fL_eqIntS s s') fun _=>tEqI_wp h h'
theorem totE_rI:∀ l:List (Int × Unit),totE rI l=0
 | []=>rfl
 | _ :: l=>by rw [totE,totE_rI l]; rfl
theorem cL_eqSigned:EqC Tryz.prog 168 rSigned:=by
 rintro V ⟨c0,c1,cu⟩ ⟨d0,d1,du⟩ ⟨x0,x1,xu⟩ ⟨y0,y1,yu⟩ f f' hx hy
 obtain⟨ec0,hx⟩:=hx
 replace ec0:c0=x0:=ec0
 subst ec0
 obtain⟨f1,fr1,ec1,sc1,hx⟩:=hx
 subst ec1
 replace sc1:LR rI _ c1 x1 f1:=sc1
 replace hx:_=[]:=hx
 subst hx
 obtain⟨ed0,hy⟩:=hy
 replace ed0:d0=y0:=ed0
 subst ed0
 obtain⟨g1,gr1,ed1,sd1,hy⟩:=hy
 subst ed1
 replace sd1:LR rI _ d1 y1 g1:=sd1
 replace hy:_=[]:=hy
 subst hy
 refine CallX.of_fits Tryz.mix (fL_eqSigned _ _) fun _=>?_
 simp only [tL_eqSigned,T.wp]
 refine⟨fun h=>⟨by trivial,false,rfl,⟨(fun h=>by cases h),(fun e=>by cases e; simp at h)⟩⟩,fun h0=>?_⟩
 refine(cL_eqIntS _ _ _ _ _ _ _ sc1 sd1).mono ?_
 rintro V1 r ⟨rfl,b1,rfl,hb1⟩
 refine⟨nofun,b1,rfl,fun h=>⟨by trivial,false,rfl,⟨(fun h=>by cases h),(fun e=>by cases e; simp [hb1.2 rfl] at h)⟩⟩,fun h1=>?_⟩
 refine⟨by trivial,true,rfl,⟨fun _=>?_,fun _=>rfl⟩⟩
 have q0:c0=d0:=by simpa using h0
 subst q0
 have q1:x1=y1:=hb1.1 (by simpa using h1)
 cases q1
 rfl
theorem cL_eqMoney:EqC Tryz.prog 241 rMoney:=by
 rintro V ⟨c0,c1,c2,cu⟩ ⟨d0,d1,d2,du⟩ ⟨x0,x1,x2,xu⟩ ⟨y0,y1,y2,yu⟩ f f' hx hy
 obtain⟨⟨ec0,zc0⟩,hx⟩:=hx
 replace ec0:c0=x0:=ec0
 subst ec0
 replace zc0:c0.size≤9223372036854775807:=zc0
 obtain⟨ec1,hx⟩:=hx
 replace ec1:c1=x1:=ec1
 subst ec1
 obtain⟨f2,fr2,ec2,sc2,hx⟩:=hx
 subst ec2
 replace sc2:LR rI _ c2 x2 f2:=sc2
 replace hx:_=[]:=hx
 subst hx
 obtain⟨⟨ed0,zd0⟩,hy⟩:=hy
 replace ed0:d0=y0:=ed0
 subst ed0
 replace zd0:d0.size≤9223372036854775807:=zd0
 obtain⟨ed1,hy⟩:=hy
 replace ed1:d1=y1:=ed1
 subst ed1
 obtain⟨g2,gr2,ed2,sd2,hy⟩:=hy
 subst ed2
 replace sd2:LR rI _ d2 y2 g2:=sd2
 replace hy:_=[]:=hy
 subst hy
 refine CallX.of_fits Tryz.mix (fL_eqMoney _ _) fun _=>?_
 simp only [tL_eqMoney,T.wp]
 refine⟨fun h=>⟨by trivial,false,rfl,⟨(fun h=>by cases h),(fun e=>by cases e; simp at h)⟩⟩,fun h0=>?_⟩
 refine(cL_eqSigned _ _ _ _ _ _ _ (rBool.mk (rSl.mk sc2 rNil.mk)) (rBool.mk (rSl.mk sd2 rNil.mk))).mono ?_
 rintro V1 r ⟨rfl,b1,rfl,hb1⟩
 refine⟨nofun,b1,rfl,fun h=>⟨by trivial,false,rfl,⟨(fun h=>by cases h),(fun e=>by cases e; simp [hb1.2 rfl] at h)⟩⟩,fun h1=>?_⟩
 refine⟨by trivial,true,rfl,⟨fun _=>?_,fun _=>rfl⟩⟩
 have q0:c0=d0:=text_eq.1 (by simpa using h0)
 subst q0
 have q1:(c1,x2,())=(d1,y2,()):=hb1.1 (by simpa using h1)
 cases q1
 rfl
theorem cL_eqAcct:EqC Tryz.prog 201 rAcct:=by
 rintro V ⟨c0,c1,c2,c3,cu⟩ ⟨d0,d1,d2,d3,du⟩ ⟨x0,x1,x2,x3,xu⟩ ⟨y0,y1,y2,y3,yu⟩ f f' hx hy
 obtain⟨⟨ec0,zc0⟩,hx⟩:=hx
 replace ec0:c0=x0:=ec0
 subst ec0
 replace zc0:c0.size≤9223372036854775807:=zc0
 obtain⟨⟨ec1,zc1⟩,hx⟩:=hx
 replace ec1:c1=x1:=ec1
 subst ec1
 replace zc1:c1.size≤9223372036854775807:=zc1
 obtain⟨ec2,hx⟩:=hx
 replace ec2:c2=x2:=ec2
 subst ec2
 obtain⟨f3,fr3,ec3,sc3,hx⟩:=hx
 subst ec3
 replace sc3:LR rI _ c3 x3 f3:=sc3
 replace hx:_=[]:=hx
 subst hx
 obtain⟨⟨ed0,zd0⟩,hy⟩:=hy
 replace ed0:d0=y0:=ed0
 subst ed0
 replace zd0:d0.size≤9223372036854775807:=zd0
 obtain⟨⟨ed1,zd1⟩,hy⟩:=hy
 replace ed1:d1=y1:=ed1
 subst ed1
 replace zd1:d1.size≤9223372036854775807:=zd1
 obtain⟨ed2,hy⟩:=hy
 replace ed2:d2=y2:=ed2
 subst ed2
 obtain⟨g3,gr3,ed3,sd3,hy⟩:=hy
 subst ed3
 replace sd3:LR rI _ d3 y3 g3:=sd3
 replace hy:_=[]:=hy
 subst hy
 refine CallX.of_fits Tryz.mix (fL_eqAcct _ _) fun _=>?_
 simp only [tL_eqAcct,T.wp]
 refine⟨fun h=>⟨by trivial,false,rfl,⟨(fun h=>by cases h),(fun e=>by cases e; simp at h)⟩⟩,fun h0=>?_⟩
 refine(cL_eqMoney _ _ _ _ _ _ _ (rStr.mk zc1 (rBool.mk (rSl.mk sc3 rNil.mk))) (rStr.mk zd1 (rBool.mk (rSl.mk sd3 rNil.mk)))).mono ?_
 rintro V1 r ⟨rfl,b1,rfl,hb1⟩
 refine⟨nofun,b1,rfl,fun h=>⟨by trivial,false,rfl,⟨(fun h=>by cases h),(fun e=>by cases e; simp [hb1.2 rfl] at h)⟩⟩,fun h1=>?_⟩
 refine⟨by trivial,true,rfl,⟨fun _=>?_,fun _=>rfl⟩⟩
 have q0:c0=d0:=text_eq.1 (by simpa using h0)
 subst q0
 have q1:(c1,c2,x3,())=(d1,d2,y3,()):=hb1.1 (by simpa using h1)
 cases q1
 rfl
theorem cL_eqAcctS:EqSC Tryz.prog 134 rAcct:=fun _ s s' _ _ _ _ h h'=>CallX.of_fits Tryz.mix (fL_eqAcctS s s') fun _=>tEqS_wp (g:=201) rfl cL_eqAcct h h'
theorem cL_eqBook:EqC Tryz.prog 73 rBook:=by
 rintro V ⟨c0,cu⟩ ⟨d0,du⟩ ⟨x0,xu⟩ ⟨y0,yu⟩ f f' hx hy
 obtain⟨f0,fr0,ec0,sc0,hx⟩:=hx
 subst ec0
 replace sc0:LR rAcct _ c0 x0 f0:=sc0
 replace hx:_=[]:=hx
 subst hx
 obtain⟨g0,gr0,ed0,sd0,hy⟩:=hy
 subst ed0
 replace sd0:LR rAcct _ d0 y0 g0:=sd0
 replace hy:_=[]:=hy
 subst hy
 refine CallX.of_fits Tryz.mix (fL_eqBook _ _) fun _=>?_
 simp only [tL_eqBook,T.wp]
 refine(cL_eqAcctS _ _ _ _ _ _ _ sc0 sd0).mono ?_
 rintro V0 r ⟨rfl,b0,rfl,hb0⟩
 refine⟨nofun,b0,rfl,fun h=>⟨by trivial,false,rfl,⟨(fun h=>by cases h),(fun e=>by cases e; simp [hb0.2 rfl] at h)⟩⟩,fun h0=>?_⟩
 refine⟨by trivial,true,rfl,⟨fun _=>?_,fun _=>rfl⟩⟩
 have q0:x0=y0:=hb0.1 (by simpa using h0)
 cases q0
 rfl
theorem cL_eqRat:EqC Tryz.prog 96 rRat:=by
 rintro V ⟨c0,c1,c2,cu⟩ ⟨d0,d1,d2,du⟩ ⟨x0,x1,x2,xu⟩ ⟨y0,y1,y2,yu⟩ f f' hx hy
 obtain⟨ec0,hx⟩:=hx
 replace ec0:c0=x0:=ec0
 subst ec0
 obtain⟨f1,fr1,ec1,sc1,hx⟩:=hx
 subst ec1
 replace sc1:LR rI _ c1 x1 f1:=sc1
 obtain⟨f2,fr2,ec2,sc2,hx⟩:=hx
 subst ec2
 replace sc2:LR rI _ c2 x2 f2:=sc2
 replace hx:_=[]:=hx
 subst hx
 obtain⟨ed0,hy⟩:=hy
 replace ed0:d0=y0:=ed0
 subst ed0
 obtain⟨g1,gr1,ed1,sd1,hy⟩:=hy
 subst ed1
 replace sd1:LR rI _ d1 y1 g1:=sd1
 obtain⟨g2,gr2,ed2,sd2,hy⟩:=hy
 subst ed2
 replace sd2:LR rI _ d2 y2 g2:=sd2
 replace hy:_=[]:=hy
 subst hy
 refine CallX.of_fits Tryz.mix (fL_eqRat _ _) fun _=>?_
 simp only [tL_eqRat,T.wp]
 refine(cL_eqSigned _ _ _ _ _ _ _ (rBool.mk (rSl.mk sc1 rNil.mk)) (rBool.mk (rSl.mk sd1 rNil.mk))).mono ?_
 rintro V0 r ⟨rfl,b0,rfl,hb0⟩
 refine⟨nofun,b0,rfl,fun h=>⟨by trivial,false,rfl,⟨(fun h=>by cases h),(fun e=>by cases e; simp [hb0.2 rfl] at h)⟩⟩,fun h0=>?_⟩
 refine(cL_eqIntS _ _ _ _ _ _ _ sc2 sd2).mono ?_
 rintro V2 r ⟨rfl,b2,rfl,hb2⟩
 refine⟨nofun,b2,rfl,fun h=>⟨by trivial,false,rfl,⟨(fun h=>by cases h),(fun e=>by cases e; simp [hb2.2 rfl] at h)⟩⟩,fun h2=>?_⟩
 refine⟨by trivial,true,rfl,⟨fun _=>?_,fun _=>rfl⟩⟩
 have q0:(c0,x1,())=(d0,y1,()):=hb0.1 (by simpa using h0)
 cases q0
 have q2:x2=y2:=hb2.1 (by simpa using h2)
 cases q2
 rfl
theorem cL_eqRest:EqC Tryz.prog 39 rRest:=by
 rintro V ⟨c0,c1,c2,c3,cu⟩ ⟨d0,d1,d2,d3,du⟩ ⟨x0,x1,x2,x3,xu⟩ ⟨y0,y1,y2,y3,yu⟩ f f' hx hy
 obtain⟨⟨ec0,zc0⟩,hx⟩:=hx
 replace ec0:c0=x0:=ec0
 subst ec0
 replace zc0:c0.size≤9223372036854775807:=zc0
 obtain⟨ec1,hx⟩:=hx
 replace ec1:c1=x1:=ec1
 subst ec1
 obtain⟨f2,fr2,ec2,sc2,hx⟩:=hx
 subst ec2
 replace sc2:LR rI _ c2 x2 f2:=sc2
 obtain⟨f3,fr3,ec3,sc3,hx⟩:=hx
 subst ec3
 replace sc3:LR rI _ c3 x3 f3:=sc3
 replace hx:_=[]:=hx
 subst hx
 obtain⟨⟨ed0,zd0⟩,hy⟩:=hy
 replace ed0:d0=y0:=ed0
 subst ed0
 replace zd0:d0.size≤9223372036854775807:=zd0
 obtain⟨ed1,hy⟩:=hy
 replace ed1:d1=y1:=ed1
 subst ed1
 obtain⟨g2,gr2,ed2,sd2,hy⟩:=hy
 subst ed2
 replace sd2:LR rI _ d2 y2 g2:=sd2
 obtain⟨g3,gr3,ed3,sd3,hy⟩:=hy
 subst ed3
 replace sd3:LR rI _ d3 y3 g3:=sd3
 replace hy:_=[]:=hy
 subst hy
 refine CallX.of_fits Tryz.mix (fL_eqRest _ _) fun _=>?_
 simp only [tL_eqRest,T.wp]
 refine⟨fun h=>⟨by trivial,false,rfl,⟨(fun h=>by cases h),(fun e=>by cases e; simp at h)⟩⟩,fun h0=>?_⟩
 refine(cL_eqRat _ _ _ _ _ _ _ (rBool.mk (rSl.mk sc2 (rSl.mk sc3 rNil.mk))) (rBool.mk (rSl.mk sd2 (rSl.mk sd3 rNil.mk)))).mono ?_
 rintro V1 r ⟨rfl,b1,rfl,hb1⟩
 refine⟨nofun,b1,rfl,fun h=>⟨by trivial,false,rfl,⟨(fun h=>by cases h),(fun e=>by cases e; simp [hb1.2 rfl] at h)⟩⟩,fun h1=>?_⟩
 refine⟨by trivial,true,rfl,⟨fun _=>?_,fun _=>rfl⟩⟩
 have q0:c0=d0:=text_eq.1 (by simpa using h0)
 subst q0
 have q1:(c1,x2,x3,())=(d1,y2,y3,()):=hb1.1 (by simpa using h1)
 cases q1
 rfl
theorem cL_eqRestS:EqSC Tryz.prog 9 rRest:=fun _ s s' _ _ _ _ h h'=>CallX.of_fits Tryz.mix (fL_eqRestS s s') fun _=>tEqS_wp (g:=39) rfl cL_eqRest h h'
theorem cL_eqDec:EqC Tryz.prog 242 rDec:=by
 rintro V ⟨c0,c1,c2,cu⟩ ⟨d0,d1,d2,du⟩ ⟨x0,x1,x2,xu⟩ ⟨y0,y1,y2,yu⟩ f f' hx hy
 obtain⟨ec0,hx⟩:=hx
 replace ec0:c0=x0:=ec0
 subst ec0
 obtain⟨f1,fr1,ec1,sc1,hx⟩:=hx
 subst ec1
 replace sc1:LR rI _ c1 x1 f1:=sc1
 obtain⟨ec2,hx⟩:=hx
 replace ec2:c2=x2:=ec2
 subst ec2
 replace hx:_=[]:=hx
 subst hx
 obtain⟨ed0,hy⟩:=hy
 replace ed0:d0=y0:=ed0
 subst ed0
 obtain⟨g1,gr1,ed1,sd1,hy⟩:=hy
 subst ed1
 replace sd1:LR rI _ d1 y1 g1:=sd1
 obtain⟨ed2,hy⟩:=hy
 replace ed2:d2=y2:=ed2
 subst ed2
 replace hy:_=[]:=hy
 subst hy
 refine CallX.of_fits Tryz.mix (fL_eqDec _ _) fun _=>?_
 simp only [tL_eqDec,T.wp]
 refine(cL_eqSigned _ _ _ _ _ _ _ (rBool.mk (rSl.mk sc1 rNil.mk)) (rBool.mk (rSl.mk sd1 rNil.mk))).mono ?_
 rintro V0 r ⟨rfl,b0,rfl,hb0⟩
 refine⟨nofun,b0,rfl,fun h=>⟨by trivial,false,rfl,⟨(fun h=>by cases h),(fun e=>by cases e; simp [hb0.2 rfl] at h)⟩⟩,fun h0=>?_⟩
 refine⟨fun h=>⟨by trivial,false,rfl,⟨(fun h=>by cases h),(fun e=>by cases e; simp at h)⟩⟩,fun h2=>?_⟩
 refine⟨by trivial,true,rfl,⟨fun _=>?_,fun _=>rfl⟩⟩
 have q0:(c0,x1,())=(d0,y1,()):=hb0.1 (by simpa using h0)
 cases q0
 have q2:c2=d2:=by simpa using h2
 subst q2
 rfl
theorem cL_eqRate:EqC Tryz.prog 202 rRate:=by
 rintro V ⟨c0,c1,c2,c3,c4,cu⟩ ⟨d0,d1,d2,d3,d4,du⟩ ⟨x0,x1,x2,x3,x4,xu⟩ ⟨y0,y1,y2,y3,y4,yu⟩ f f' hx hy
 obtain⟨⟨ec0,zc0⟩,hx⟩:=hx
 replace ec0:c0=x0:=ec0
 subst ec0
 replace zc0:c0.size≤9223372036854775807:=zc0
 obtain⟨⟨ec1,zc1⟩,hx⟩:=hx
 replace ec1:c1=x1:=ec1
 subst ec1
 replace zc1:c1.size≤9223372036854775807:=zc1
 obtain⟨ec2,hx⟩:=hx
 replace ec2:c2=x2:=ec2
 subst ec2
 obtain⟨f3,fr3,ec3,sc3,hx⟩:=hx
 subst ec3
 replace sc3:LR rI _ c3 x3 f3:=sc3
 obtain⟨ec4,hx⟩:=hx
 replace ec4:c4=x4:=ec4
 subst ec4
 replace hx:_=[]:=hx
 subst hx
 obtain⟨⟨ed0,zd0⟩,hy⟩:=hy
 replace ed0:d0=y0:=ed0
 subst ed0
 replace zd0:d0.size≤9223372036854775807:=zd0
 obtain⟨⟨ed1,zd1⟩,hy⟩:=hy
 replace ed1:d1=y1:=ed1
 subst ed1
 replace zd1:d1.size≤9223372036854775807:=zd1
 obtain⟨ed2,hy⟩:=hy
 replace ed2:d2=y2:=ed2
 subst ed2
 obtain⟨g3,gr3,ed3,sd3,hy⟩:=hy
 subst ed3
 replace sd3:LR rI _ d3 y3 g3:=sd3
 obtain⟨ed4,hy⟩:=hy
 replace ed4:d4=y4:=ed4
 subst ed4
 replace hy:_=[]:=hy
 subst hy
 refine CallX.of_fits Tryz.mix (fL_eqRate _ _) fun _=>?_
 simp only [tL_eqRate,T.wp]
 refine⟨fun h=>⟨by trivial,false,rfl,⟨(fun h=>by cases h),(fun e=>by cases e; simp at h)⟩⟩,fun h0=>?_⟩
 refine⟨fun h=>⟨by trivial,false,rfl,⟨(fun h=>by cases h),(fun e=>by cases e; simp at h)⟩⟩,fun h1=>?_⟩
 refine(cL_eqDec _ _ _ _ _ _ _ (rBool.mk (rSl.mk sc3 (rInt.mk rNil.mk))) (rBool.mk (rSl.mk sd3 (rInt.mk rNil.mk)))).mono ?_
 rintro V2 r ⟨rfl,b2,rfl,hb2⟩
 refine⟨nofun,b2,rfl,fun h=>⟨by trivial,false,rfl,⟨(fun h=>by cases h),(fun e=>by cases e; simp [hb2.2 rfl] at h)⟩⟩,fun h2=>?_⟩
 refine⟨by trivial,true,rfl,⟨fun _=>?_,fun _=>rfl⟩⟩
 have q0:c0=d0:=text_eq.1 (by simpa using h0)
 subst q0
 have q1:c1=d1:=text_eq.1 (by simpa using h1)
 subst q1
 have q2:(c2,x3,c4,())=(d2,y3,d4,()):=hb2.1 (by simpa using h2)
 cases q2
 rfl
theorem cL_eqRateS:EqSC Tryz.prog 135 rRate:=fun _ s s' _ _ _ _ h h'=>CallX.of_fits Tryz.mix (fL_eqRateS s s') fun _=>tEqS_wp (g:=202) rfl cL_eqRate h h'
theorem cL_eqRates:EqC Tryz.prog 74 rRates:=by
 rintro V ⟨c0,c1,cu⟩ ⟨d0,d1,du⟩ ⟨x0,x1,xu⟩ ⟨y0,y1,yu⟩ f f' hx hy
 obtain⟨⟨ec0,zc0⟩,hx⟩:=hx
 replace ec0:c0=x0:=ec0
 subst ec0
 replace zc0:c0.size≤9223372036854775807:=zc0
 obtain⟨f1,fr1,ec1,sc1,hx⟩:=hx
 subst ec1
 replace sc1:LR rRate _ c1 x1 f1:=sc1
 replace hx:_=[]:=hx
 subst hx
 obtain⟨⟨ed0,zd0⟩,hy⟩:=hy
 replace ed0:d0=y0:=ed0
 subst ed0
 replace zd0:d0.size≤9223372036854775807:=zd0
 obtain⟨g1,gr1,ed1,sd1,hy⟩:=hy
 subst ed1
 replace sd1:LR rRate _ d1 y1 g1:=sd1
 replace hy:_=[]:=hy
 subst hy
 refine CallX.of_fits Tryz.mix (fL_eqRates _ _) fun _=>?_
 simp only [tL_eqRates,T.wp]
 refine⟨fun h=>⟨by trivial,false,rfl,⟨(fun h=>by cases h),(fun e=>by cases e; simp at h)⟩⟩,fun h0=>?_⟩
 refine(cL_eqRateS _ _ _ _ _ _ _ sc1 sd1).mono ?_
 rintro V1 r ⟨rfl,b1,rfl,hb1⟩
 refine⟨nofun,b1,rfl,fun h=>⟨by trivial,false,rfl,⟨(fun h=>by cases h),(fun e=>by cases e; simp [hb1.2 rfl] at h)⟩⟩,fun h1=>?_⟩
 refine⟨by trivial,true,rfl,⟨fun _=>?_,fun _=>rfl⟩⟩
 have q0:c0=d0:=text_eq.1 (by simpa using h0)
 subst q0
 have q1:x1=y1:=hb1.1 (by simpa using h1)
 cases q1
 rfl
theorem cL_eqLedger:EqC Tryz.prog 26 rLedger:=by
 rintro V ⟨c0,c1,c2,c3,cu⟩ ⟨d0,d1,d2,d3,du⟩ ⟨x0,x1,x2,x3,xu⟩ ⟨y0,y1,y2,y3,yu⟩ f f' hx hy
 obtain⟨f0,fr0,ec0,sc0,hx⟩:=hx
 subst ec0
 replace sc0:LR rAcct _ c0 x0 f0:=sc0
 obtain⟨f1,fr1,ec1,sc1,hx⟩:=hx
 subst ec1
 replace sc1:LR rRest _ c1 x1 f1:=sc1
 obtain⟨⟨ec2,zc2⟩,hx⟩:=hx
 replace ec2:c2=x2:=ec2
 subst ec2
 replace zc2:c2.size≤9223372036854775807:=zc2
 obtain⟨f3,fr3,ec3,sc3,hx⟩:=hx
 subst ec3
 replace sc3:LR rRate _ c3 x3 f3:=sc3
 replace hx:_=[]:=hx
 subst hx
 obtain⟨g0,gr0,ed0,sd0,hy⟩:=hy
 subst ed0
 replace sd0:LR rAcct _ d0 y0 g0:=sd0
 obtain⟨g1,gr1,ed1,sd1,hy⟩:=hy
 subst ed1
 replace sd1:LR rRest _ d1 y1 g1:=sd1
 obtain⟨⟨ed2,zd2⟩,hy⟩:=hy
 replace ed2:d2=y2:=ed2
 subst ed2
 replace zd2:d2.size≤9223372036854775807:=zd2
 obtain⟨g3,gr3,ed3,sd3,hy⟩:=hy
 subst ed3
 replace sd3:LR rRate _ d3 y3 g3:=sd3
 replace hy:_=[]:=hy
 subst hy
 refine CallX.of_fits Tryz.mix (fL_eqLedger _ _) fun _=>?_
 simp only [tL_eqLedger,T.wp]
 refine(cL_eqBook _ _ _ _ _ _ _ (rSl.mk sc0 rNil.mk) (rSl.mk sd0 rNil.mk)).mono ?_
 rintro V0 r ⟨rfl,b0,rfl,hb0⟩
 refine⟨nofun,b0,rfl,fun h=>⟨by trivial,false,rfl,⟨(fun h=>by cases h),(fun e=>by cases e; simp [hb0.2 rfl] at h)⟩⟩,fun h0=>?_⟩
 refine(cL_eqRestS _ _ _ _ _ _ _ sc1 sd1).mono ?_
 rintro V1 r ⟨rfl,b1,rfl,hb1⟩
 refine⟨nofun,b1,rfl,fun h=>⟨by trivial,false,rfl,⟨(fun h=>by cases h),(fun e=>by cases e; simp [hb1.2 rfl] at h)⟩⟩,fun h1=>?_⟩
 refine(cL_eqRates _ _ _ _ _ _ _ (rStr.mk zc2 (rSl.mk sc3 rNil.mk)) (rStr.mk zd2 (rSl.mk sd3 rNil.mk))).mono ?_
 rintro V2 r ⟨rfl,b2,rfl,hb2⟩
 refine⟨nofun,b2,rfl,fun h=>⟨by trivial,false,rfl,⟨(fun h=>by cases h),(fun e=>by cases e; simp [hb2.2 rfl] at h)⟩⟩,fun h2=>?_⟩
 refine⟨by trivial,true,rfl,⟨fun _=>?_,fun _=>rfl⟩⟩
 have q0:(x0,())=(y0,()):=hb0.1 (by simpa using h0)
 cases q0
 have q1:x1=y1:=hb1.1 (by simpa using h1)
 cases q1
 have q2:(c2,x3,())=(d2,y3,()):=hb2.1 (by simpa using h2)
 cases q2
 rfl
end Go.Proofs.YtagkjnpggkmehaaGreatDoor
namespace Go.Proofs.YtagkjnpggkmehaaGreatDoor
open Sx
theorem semx_mk {P:Program} {V:Know} {t:TypeId}:SemX P V (MOp.mk t).sem (fun V' r=>∃ b,V b=none∧V'=kset V b (mapC [],(0,(1,0)))∧r=.map (some b)):=by
 intro w hw
 refine⟨_,_,_,(show(MOp.mk t).sem.run P w=.ok (.map (some w.heap.size)) (w.alloc (.map #[] 0)) from rfl),⟨rfl,rfl,rfl,by simp,fun b hb _=>heap_alloc_old w _ hb,fun b hb hn=>?_⟩,fun b c u hb=>?_,w.heap.size,hw.size_none,rfl,rfl⟩
 ·rw [kset_other (by omega)]; exact hn
 ·by_cases e:b=w.heap.size
  ·subst e
   rw [kset_same] at hb
   simp only [Option.some.injEq,Prod.mk.injEq] at hb
   obtain⟨rfl,rfl⟩:=hb
   rw [heap_alloc_new,objOf_map]
  ·rw [kset_other e] at hb
   have:=hw b c u hb
   rw [heap_alloc_old w _ (Array.getElem?_eq_some_iff.1 this).1]; exact this
theorem map_set {V:Know} {w:World} (hw:V.on w) {m k k':Nat} {es es':List MapEntry} (hV:V m=some (mapC es,(k,(1,0)))) :
  Fr V (kset V m (mapC es',(k',(1,0)))) w { w with heap:=w.heap.setIfInBounds m (.map es'.toArray k') }∧(kset V m (mapC es',(k',(1,0)))).on { w with heap:=w.heap.setIfInBounds m (.map es'.toArray k') }:=by
 have hm:=hw _ _ _ hV
 have hlt:=(Array.getElem?_eq_some_iff.1 hm).1
 have ho:∀ b,b≠m→(w.heap.setIfInBounds m (.map es'.toArray k'))[b]?=w.heap[b]?:=fun b hb=>Array.getElem?_setIfInBounds_ne (Ne.symm hb)
 refine⟨⟨rfl,rfl,rfl,by simp,fun b hb hn=>ho b (fun e=>by rw [e,hV] at hn; cases hn),fun b hb hn=>?_⟩,fun b c u hb=>?_⟩
 ·rw [kset_other (fun e=>by rw [e,hV] at hn; cases hn)]; exact hn
 ·by_cases e:b=m
  ·subst e
   rw [kset_same] at hb
   simp only [Option.some.injEq,Prod.mk.injEq] at hb
   obtain⟨rfl,rfl⟩:=hb
   rw [objOf_map]
   show(w.heap.setIfInBounds b _)[b]?=_
   rw [Array.getElem?_setIfInBounds_self_of_lt hlt]
  ·rw [kset_other e] at hb
   rw [← hw b c u hb]
   exact ho b e
structure PairTy (P:Program) (T S:TypeId):Prop where
 und:P.underlying T=some (.struct (P.fieldsOf T))
 held:P.stoodInHeld T=false
 fs:(P.fieldsOf T).toList=[(P.fieldsOf T)[0]!,(P.fieldsOf T)[1]!]
 nm : (P.fieldsOf T)[0]!.name ≠ "_" ∧ (P.fieldsOf T)[1]!.name ≠ "_"
 ty:(P.fieldsOf T)[0]!.type=S∧(P.fieldsOf T)[1]!.type=S
 off:(P.fieldsOf T)[0]!.offset=0∧(P.fieldsOf T)[1]!.offset=1
 str:P.underlying S=some .string
def pairK (p:ByteArray × ByteArray):Value:=.agg #[.string p.1,.string p.2]
theorem toL_eq (a b:ByteArray):(a.toList == b.toList)=decide (a=b):=by
 by_cases h:a=b
 ·rw [decide_eq_true h]; exact text_eq.2 h
 ·rw [decide_eq_false h]; exact text_ne.2 h
section
variable {P:Program} {T S:TypeId} (hT:PairTy P T S) (w:World)
include hT
theorem run_part0 (a b:ByteArray):(part S #[.string a,.string b] 0).run P w=.ok (.string a) w:=by
 simp [part,isAgg,run_underlying hT.str]
theorem run_part1 (a b:ByteArray):(part S #[.string a,.string b] 1).run P w=.ok (.string b) w:=by
 simp [part,isAgg,run_underlying hT.str]
theorem run_eqPair (p q:ByteArray × ByteArray):(Op.equal T (pairK p) (pairK q)).run P w=.ok (decide (p=q)) w:=by
 have h:=run_equalIn_struct w 9999 T #[.string p.1,.string p.2] #[.string q.1,.string q.2] hT.und hT.held
 show(Op.equalIn (9999+1) T _ _).run P w=_
 unfold pairK
 rw [h,hT.fs]
 have n0:=hT.nm.1
 have n1:=hT.nm.2
 have es:∀ (a b:ByteArray),(Op.equalIn 9999 S (.string a) (.string b)).run P w=.ok (decide (a=b)) w:=fun a b=>by
  rw [← toL_eq]; exact run_equalIn_string w 9998 S a b hT.str
 obtain⟨p1,p2⟩:=p
 obtain⟨q1,q2⟩:=q
 simp only [Op.eqFields,hT.ty.1,hT.ty.2,hT.off.1,hT.off.2,Sem.run_bind,run_part0 hT,Result.andThen_ok,es,ne_eq,n0,n1,not_false_eq_true,if_true]
 by_cases h1:p1=q1
 ·rw [decide_eq_true h1]
  simp only [Bool.not_true,Bool.false_eq_true,if_false,Sem.run_bind,run_part1 hT,Result.andThen_ok,es]
  by_cases h2:p2=q2
  ·rw [decide_eq_true h2]
   simp [h1,h2]
  ·rw [decide_eq_false h2]
   simp [h1,h2]
 ·rw [decide_eq_false h1]
  simp [h1]
theorem run_checkText (e:Bool) (n:Nat) (s:ByteArray):(Instr.checkKey e (n+1) S (.string s)).run P w=.ok () w:=by
 simp [Instr.checkKey,run_underlying hT.str]
theorem run_checkPairN (e:Bool) (n:Nat) (p:ByteArray × ByteArray):(Instr.checkKey e (n+1+1) T (pairK p)).run P w=.ok () w:=by
 have n0:=hT.nm.1
 have n1:=hT.nm.2
 unfold pairK
 rw [Instr.checkKey]
 simp only [Sem.run_bind,run_underlying hT.und,Result.andThen_ok]
 rw [← Array.forIn_toList,hT.fs]
 simp [hT.ty.1,hT.ty.2,hT.off.1,hT.off.2,n0,n1,run_part0 hT,run_part1 hT,run_checkText hT]
theorem run_checkPair (e:Bool) (p:ByteArray × ByteArray):(Instr.checkKey e 10000 T (pairK p)).run P w=.ok () w:=run_checkPairN hT w e 9998 p
end
def pairE (i:Nat) (p:ByteArray × ByteArray):MapEntry:=⟨pairK p,.bool true,i⟩
def pairEs:Nat→List (ByteArray × ByteArray)→List MapEntry
 | _,[]=>[]
 | i,p :: l=>pairE i p :: pairEs (i+1) l
theorem pairEs_app:∀ (l:List (ByteArray × ByteArray)) (i:Nat) (p:ByteArray × ByteArray),pairEs i (l++[p])=pairEs i l++[pairE (i+l.length) p]
 | [],i,p=>rfl
 | q :: l,i,p=>by
  show pairE i q :: pairEs (i+1) (l++[p])=_
  rw [pairEs_app l (i+1) p,List.length_cons,show i+1+l.length=i+(l.length+1) by omega]; rfl
theorem run_askPair {P:Program} {T S:TypeId} (hT:PairTy P T S) (w:World) (p:ByteArray × ByteArray):∀ (l:List (ByteArray × ByteArray)) (i j:Nat),
  ∃ o,(Instr.findAsking T (pairK p) (pairEs i l) j).run P w=.ok o w∧(p∈l→∃ k,o=some (k,.bool true))∧(p ∉ l→o=none)
 | [],i,j=>⟨none,by simp [Instr.findAsking,pairEs],(fun h=>by cases h),fun _=>rfl⟩
 | q :: l,i,j=>by
  obtain⟨o,h1,h2,h3⟩:=run_askPair hT w p l (i+1) (j+1)
  have e:=run_eqPair hT w p q
  by_cases hpq:p=q
  ·refine⟨some (j,.bool true),?_,fun _=>⟨j,rfl⟩,fun h=>absurd (by rw [hpq]; exact List.mem_cons_self) h⟩
   rw [decide_eq_true hpq] at e
   simp only [Instr.findAsking,pairEs,Sem.run_bind]
   show((Op.equal T (pairK p) (pairK q)).run P w).andThen _=_
   rw [e]
   simp [pairE]
  ·refine⟨o,?_,fun h=>h2 ((List.mem_cons.1 h).resolve_left hpq),fun h=>h3 (fun k=>h (List.mem_cons_of_mem _ k))⟩
   rw [decide_eq_false hpq] at e
   simp only [Instr.findAsking,pairEs,Sem.run_bind]
   show((Op.equal T (pairK p) (pairK q)).run P w).andThen _=_
   rw [e]
   simpa using h1
theorem run_findPair {P:Program} {T S:TypeId} (hT:PairTy P T S) (w:World) (p:ByteArray × ByteArray) (l:List (ByteArray × ByteArray)) :
  ∃ o,(Instr.findKey T (pairK p) (pairEs 0 l)).run P w=.ok o w∧(p∈l→∃ k,o=some (k,.bool true))∧(p ∉ l→o=none):=by
 obtain⟨o,h1,h2,h3⟩:=run_askPair hT w p l 0 0
 cases l with
 | nil =>
  refine⟨none,?_,(fun h=>by cases h),fun _=>rfl⟩
  simp [Instr.findKey,run_underlying hT.und,pairEs,Instr.findNow]
 | cons q l =>
  refine⟨o,?_,h2,h3⟩
  simp only [Instr.findKey,run_underlying hT.und,Sem.run_bind,Result.andThen_ok]
  have:Instr.findNow (.struct (P.fieldsOf T)) (pairK p) (pairEs 0 (q :: l)) 0=none:=rfl
  rw [this]
  exact h1
theorem semx_lkPair {P:Program} {V:Know} {M T S E m:Nat} {l:List (ByteArray × ByteArray)} (hM:P.underlying M=some (.map T E)) (hz:∀ w,(zeroValue E).run P w=.ok (.bool false) w) (hT:PairTy P T S)
  (hV:V m=some (mapC (pairEs 0 l),(l.length,(1,0)))) (p:ByteArray × ByteArray) :
  SemX P V (MOp.lk M (.map (some m)) (pairK p) false).sem (fun V' r=>V'=V∧∃ e,r=.bool e∧(e=true↔p∈l)):=by
 intro w hw
 have hm:=hw _ _ _ hV
 rw [objOf_map] at hm
 obtain⟨o,h1,h2,h3⟩:=run_findPair hT w p l
 have hg:(getObj m).run P w=.ok (.map (pairEs 0 l).toArray l.length) w:=by simp [getObj,Sem.run,hm]
 by_cases h:p∈l
 ·obtain⟨k,rfl⟩:=h2 h
  refine⟨.bool true,w,V,?_,Fr.refl V w,hw,rfl,true,rfl,⟨fun _=>h,fun _=>rfl⟩⟩
  simp [MOp.sem,Instr.lookup,run_underlying hM,hg,run_checkPair hT,h1]
 ·have:=h3 h
  subst this
  refine⟨.bool false,w,V,?_,Fr.refl V w,hw,rfl,false,rfl,⟨(fun e=>by cases e),fun e=>absurd e h⟩⟩
  simp [MOp.sem,Instr.lookup,run_underlying hM,hg,run_checkPair hT,h1,hz]
theorem semx_upPair {P:Program} {V:Know} {M T S E m:Nat} {l:List (ByteArray × ByteArray)} (hM:P.underlying M=some (.map T E)) (hT:PairTy P T S)
  (hV:V m=some (mapC (pairEs 0 l),(l.length,(1,0)))) (p:ByteArray × ByteArray) (h:p ∉ l) :
  SemX P V (MOp.up M (.map (some m)) (pairK p) (.bool true)).sem (fun V' r=>V'=kset V m (mapC (pairEs 0 (l++[p])),((l++[p]).length,(1,0)))∧r=.tuple #[]):=by
 intro w hw
 have hm:=hw _ _ _ hV
 rw [objOf_map] at hm
 have hlt:=(Array.getElem?_eq_some_iff.1 hm).1
 obtain⟨o,h1,h2,h3⟩:=run_findPair hT w p l
 have:=h3 h
 subst this
 have hg:(getObj m).run P w=.ok (.map (pairEs 0 l).toArray l.length) w:=by simp [getObj,Sem.run,hm]
 obtain⟨f1,f2⟩:=map_set (k':=(l++[p]).length) (es':=pairEs 0 (l++[p])) hw hV
 refine⟨_,_,_,?_,f1,f2,rfl,rfl⟩
 have hs:(setObj m (.map (pairEs 0 (l++[p])).toArray (l++[p]).length)).run P w=.ok () { w with heap:=w.heap.setIfInBounds m (.map (pairEs 0 (l++[p])).toArray (l++[p]).length) }:=by
  simp [setObj,Sem.run,hm]
 have e:(pairEs 0 l).toArray.push { key:=pairK p,val:=.bool true,born:=l.length }=(pairEs 0 (l++[p])).toArray:=by
  rw [pairEs_app]
  simp [pairE]
 have e2:l.length+1=(l++[p]).length:=by simp
 simp only [MOp.sem,Instr.mapUpdate,run_underlying hM,Sem.run_bind,Result.andThen_ok,hg,run_checkPair hT,h1,e,e2,hs]
 rfl
end Go.Proofs.YtagkjnpggkmehaaGreatDoor
