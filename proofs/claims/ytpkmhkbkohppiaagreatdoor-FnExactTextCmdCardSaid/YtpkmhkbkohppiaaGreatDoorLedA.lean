/-
  Valid fractions, decimals, rates, books and remainders, in the program and in the reference.
-/
import Derived.Test.YtpkmhkbkohppiaaGreatDoorMath
import Derived.Test.YtpkmhkbkohppiaaGreatDoorDivM
import Derived.ChangeKeysEq
import Derived.Carry
import Derived.Test.YtpkmhkbkohppiaaGreatDoorDivG
namespace Go.Proofs.YtpkmhkbkohppiaaGreatDoor
open Sx
abbrev rString:Rp [.s] (ByteArray × Unit):=rStr rNil
theorem LR.txt {V:Know} {s:SlV} {l:List (ByteArray × Unit)} {f:List Nat} (h:LR rString V s l f) {i:Nat} (hi:i<l.length) :
  (∃ b o,s.a=some ⟨b,o,none⟩∧loadV V ((⟨b,o,none⟩:Addr).add (i*1)) 1=some [.string l[i].1])∧l[i].1.size≤9223372036854775807:=by
 obtain⟨b1,o1,c1,f1,a1,l1,r1,_⟩:=h.at hi
 have e:c1.1=l[i].1:=r1.1.1
 refine⟨?_,r1.1.2⟩
 rw [← e]
 exact⟨b1,o1,a1,l1⟩
def tEqT (x0 x1:SlV):T:=tEq x0.n x1.n fun y1 =>
 .rg <| .el x0.a x0.n y1.fst fun y2=>.ld true (y2.add (Int.toNat y1.fst*(1:Nat))) (.o .s) fun y3 =>
 .el x1.a x1.n y1.fst fun y4=>.ld true (y4.add (Int.toNat y1.fst*(1:Nat))) (.o .s) fun y5 =>
 .br (!(y3.toList == y5.toList)) (.ret [.bool false]) <| .nx 0 [.v (.int .i64 (IntKind.i64.wrap (y1.fst+(1:Int))))]
theorem tEqT_wp {P:Program} {V V0:Know} {s s':SlV} {l l':List (ByteArray × Unit)} {f f':List Nat} (h:LR rString V s l f) (h':LR rString V s' l' f') :
  (tEqT s s').wp P (fun V' vs=>V'=V∧∃ b,packed vs=.bool b∧(b=true↔l=l')) V V0 []:=by
 refine tEq_wp h.1 h'.1 (h.2.2.1) fun i hi hi' K N hK hN=>?_
 obtain⟨⟨b1,o1,a1,l1⟩,_⟩:=h.txt hi
 obtain⟨⟨b2,o2,a2,l2⟩,_⟩:=h'.txt hi'
 have hn1:=h.1
 have hn2:=h'.1
 refine⟨_,a1,by omega,(by omega:(i:Int)<(s.n:Int)),l[i].1,l1,_,a2,by omega,(by omega:(i:Int)<(s'.n:Int)),l'[i].1,l2,fun h=>hK fun e=>?_,fun h=>⟨_,rfl,hN ?_⟩⟩
 ·rw [e] at h; simp at h
 ·have:l[i].1=l'[i].1:=text_eq.1 (by simpa using h)
  exact Prod.ext this rfl
end Go.Proofs.YtpkmhkbkohppiaaGreatDoor
namespace Go.Proofs.YtpkmhkbkohppiaaGreatDoor
open Sx
set_option maxRecDepth 100000
theorem rNil.mk {V:Know}:rNil.R V () () []:=rfl
theorem rInt.mk {sh:List Sc} {α:Type} {r:Rp sh α} {V:Know} {c:Scs sh} {x:α} {fp:List Nat} {n:Int} (h:r.R V c x fp):(rInt r).R V (n,c) (n,x) fp:=⟨rfl,h⟩
theorem rBool.mk {sh:List Sc} {α:Type} {r:Rp sh α} {V:Know} {c:Scs sh} {x:α} {fp:List Nat} {n:Bool} (h:r.R V c x fp):(rBool r).R V (n,c) (n,x) fp:=⟨rfl,h⟩
theorem rStr.mk {sh:List Sc} {α:Type} {r:Rp sh α} {V:Know} {c:Scs sh} {x:α} {fp:List Nat} {n:ByteArray} (z:n.size≤9223372036854775807) (h:r.R V c x fp):(rStr r).R V (n,c) (n,x) fp:=⟨⟨rfl,z⟩,h⟩
theorem rSl.mk {se sh:List Sc} {α β:Type} {e:Rp se α} {r:Rp sh β} {V:Know} {s:SlV} {l:List α} {c:Scs sh} {x:β} {f g:List Nat} (hs:LR e V s l f) (h:r.R V c x g):(rSl e r).R V (s,c) (l,x) (f++g):=⟨f,g,rfl,hs,h⟩
abbrev DSigned:Type:=Bool × List (Int × Unit) × Unit
abbrev rSigned:Rp [.b,.l] DSigned:=rBool (rSl rI (rNil))
abbrev DMoney:Type:=ByteArray × Bool × List (Int × Unit) × Unit
abbrev rMoney:Rp [.s,.b,.l] DMoney:=rStr (rBool (rSl rI (rNil)))
abbrev DDec:Type:=Bool × List (Int × Unit) × Int × Unit
abbrev rDec:Rp [.b,.l,.i .i64] DDec:=rBool (rSl rI (rInt (rNil)))
abbrev DRate:Type:=ByteArray × ByteArray × Bool × List (Int × Unit) × Int × Unit
abbrev rRate:Rp [.s,.s,.b,.l,.i .i64] DRate:=rStr (rStr (rBool (rSl rI (rInt (rNil)))))
abbrev DCmd:Type:=Int × ByteArray × ByteArray × ByteArray × ByteArray × ByteArray × Bool × List (Int × Unit) × Int × List (ByteArray × Unit) × List (Int × Unit) × Bool × List (Int × Unit) × Int × ByteArray × ByteArray × Bool × List (Int × Unit) × Int × Unit
abbrev rCmd:Rp [.i .i64,.s,.s,.s,.s,.s,.b,.l,.i .i64,.l,.l,.b,.l,.i .i64,.s,.s,.b,.l,.i .i64] DCmd:=rInt (rStr (rStr (rStr (rStr (rStr (rBool (rSl rI (rInt (rSl rString (rSl rI (rBool (rSl rI (rInt (rStr (rStr (rBool (rSl rI (rInt (rNil)))))))))))))))))))
theorem cL_eqIntS:EqSC Tryz.prog 31 rI:=fun _ s s' _ _ _ _ h h'=>CallX.of_fits Tryz.mix (fL_eqIntS s s') fun _=>tEqI_wp h h'
theorem totE_rI:∀ l:List (Int × Unit),totE rI l=0
 | []=>rfl
 | _ :: l=>by rw [totE,totE_rI l]; rfl
theorem cL_eqStringS:EqSC Tryz.prog 30 rString:=fun _ s s' _ _ _ _ h h'=>CallX.of_fits Tryz.mix (fL_eqStringS s s') fun _=>tEqT_wp h h'
theorem cL_eqSigned:EqC Tryz.prog 74 rSigned:=by
 rintro V ⟨c0,c1,cu⟩ ⟨d0,d1,du⟩ ⟨x0,x1,xu⟩ ⟨y0,y1,yu⟩ f f' hx hy
 obtain⟨ec0,hx⟩:=hx
 replace ec0:c0=x0:=ec0
 subst ec0
 obtain⟨f1,fr1,ec1,sc1,hx⟩:=hx
 subst ec1
 replace sc1:LR rI _ c1 x1 f1:=sc1
 replace hx:_=[]:=hx
 subst hx
 obtain⟨ed0,hy⟩:=hy
 replace ed0:d0=y0:=ed0
 subst ed0
 obtain⟨g1,gr1,ed1,sd1,hy⟩:=hy
 subst ed1
 replace sd1:LR rI _ d1 y1 g1:=sd1
 replace hy:_=[]:=hy
 subst hy
 refine CallX.of_fits Tryz.mix (fL_eqSigned _ _) fun _=>?_
 simp only [tL_eqSigned,T.wp]
 refine⟨fun h=>⟨by trivial,false,rfl,⟨(fun h=>by cases h),(fun e=>by cases e; simp at h)⟩⟩,fun h0=>?_⟩
 refine(cL_eqIntS _ _ _ _ _ _ _ sc1 sd1).mono ?_
 rintro V1 r ⟨rfl,b1,rfl,hb1⟩
 refine⟨nofun,b1,rfl,fun h=>⟨by trivial,false,rfl,⟨(fun h=>by cases h),(fun e=>by cases e; simp [hb1.2 rfl] at h)⟩⟩,fun h1=>?_⟩
 refine⟨by trivial,true,rfl,⟨fun _=>?_,fun _=>rfl⟩⟩
 have q0:c0=d0:=by simpa using h0
 subst q0
 have q1:x1=y1:=hb1.1 (by simpa using h1)
 cases q1
 rfl
theorem cL_eqMoney:EqC Tryz.prog 29 rMoney:=by
 rintro V ⟨c0,c1,c2,cu⟩ ⟨d0,d1,d2,du⟩ ⟨x0,x1,x2,xu⟩ ⟨y0,y1,y2,yu⟩ f f' hx hy
 obtain⟨⟨ec0,zc0⟩,hx⟩:=hx
 replace ec0:c0=x0:=ec0
 subst ec0
 replace zc0:c0.size≤9223372036854775807:=zc0
 obtain⟨ec1,hx⟩:=hx
 replace ec1:c1=x1:=ec1
 subst ec1
 obtain⟨f2,fr2,ec2,sc2,hx⟩:=hx
 subst ec2
 replace sc2:LR rI _ c2 x2 f2:=sc2
 replace hx:_=[]:=hx
 subst hx
 obtain⟨⟨ed0,zd0⟩,hy⟩:=hy
 replace ed0:d0=y0:=ed0
 subst ed0
 replace zd0:d0.size≤9223372036854775807:=zd0
 obtain⟨ed1,hy⟩:=hy
 replace ed1:d1=y1:=ed1
 subst ed1
 obtain⟨g2,gr2,ed2,sd2,hy⟩:=hy
 subst ed2
 replace sd2:LR rI _ d2 y2 g2:=sd2
 replace hy:_=[]:=hy
 subst hy
 refine CallX.of_fits Tryz.mix (fL_eqMoney _ _) fun _=>?_
 simp only [tL_eqMoney,T.wp]
 refine⟨fun h=>⟨by trivial,false,rfl,⟨(fun h=>by cases h),(fun e=>by cases e; simp at h)⟩⟩,fun h0=>?_⟩
 refine(cL_eqSigned _ _ _ _ _ _ _ (rBool.mk (rSl.mk sc2 rNil.mk)) (rBool.mk (rSl.mk sd2 rNil.mk))).mono ?_
 rintro V1 r ⟨rfl,b1,rfl,hb1⟩
 refine⟨nofun,b1,rfl,fun h=>⟨by trivial,false,rfl,⟨(fun h=>by cases h),(fun e=>by cases e; simp [hb1.2 rfl] at h)⟩⟩,fun h1=>?_⟩
 refine⟨by trivial,true,rfl,⟨fun _=>?_,fun _=>rfl⟩⟩
 have q0:c0=d0:=text_eq.1 (by simpa using h0)
 subst q0
 have q1:(c1,x2,())=(d1,y2,()):=hb1.1 (by simpa using h1)
 cases q1
 rfl
theorem cL_eqDec:EqC Tryz.prog 32 rDec:=by
 rintro V ⟨c0,c1,c2,cu⟩ ⟨d0,d1,d2,du⟩ ⟨x0,x1,x2,xu⟩ ⟨y0,y1,y2,yu⟩ f f' hx hy
 obtain⟨ec0,hx⟩:=hx
 replace ec0:c0=x0:=ec0
 subst ec0
 obtain⟨f1,fr1,ec1,sc1,hx⟩:=hx
 subst ec1
 replace sc1:LR rI _ c1 x1 f1:=sc1
 obtain⟨ec2,hx⟩:=hx
 replace ec2:c2=x2:=ec2
 subst ec2
 replace hx:_=[]:=hx
 subst hx
 obtain⟨ed0,hy⟩:=hy
 replace ed0:d0=y0:=ed0
 subst ed0
 obtain⟨g1,gr1,ed1,sd1,hy⟩:=hy
 subst ed1
 replace sd1:LR rI _ d1 y1 g1:=sd1
 obtain⟨ed2,hy⟩:=hy
 replace ed2:d2=y2:=ed2
 subst ed2
 replace hy:_=[]:=hy
 subst hy
 refine CallX.of_fits Tryz.mix (fL_eqDec _ _) fun _=>?_
 simp only [tL_eqDec,T.wp]
 refine(cL_eqSigned _ _ _ _ _ _ _ (rBool.mk (rSl.mk sc1 rNil.mk)) (rBool.mk (rSl.mk sd1 rNil.mk))).mono ?_
 rintro V0 r ⟨rfl,b0,rfl,hb0⟩
 refine⟨nofun,b0,rfl,fun h=>⟨by trivial,false,rfl,⟨(fun h=>by cases h),(fun e=>by cases e; simp [hb0.2 rfl] at h)⟩⟩,fun h0=>?_⟩
 refine⟨fun h=>⟨by trivial,false,rfl,⟨(fun h=>by cases h),(fun e=>by cases e; simp at h)⟩⟩,fun h2=>?_⟩
 refine⟨by trivial,true,rfl,⟨fun _=>?_,fun _=>rfl⟩⟩
 have q0:(c0,x1,())=(d0,y1,()):=hb0.1 (by simpa using h0)
 cases q0
 have q2:c2=d2:=by simpa using h2
 subst q2
 rfl
theorem cL_eqRate:EqC Tryz.prog 33 rRate:=by
 rintro V ⟨c0,c1,c2,c3,c4,cu⟩ ⟨d0,d1,d2,d3,d4,du⟩ ⟨x0,x1,x2,x3,x4,xu⟩ ⟨y0,y1,y2,y3,y4,yu⟩ f f' hx hy
 obtain⟨⟨ec0,zc0⟩,hx⟩:=hx
 replace ec0:c0=x0:=ec0
 subst ec0
 replace zc0:c0.size≤9223372036854775807:=zc0
 obtain⟨⟨ec1,zc1⟩,hx⟩:=hx
 replace ec1:c1=x1:=ec1
 subst ec1
 replace zc1:c1.size≤9223372036854775807:=zc1
 obtain⟨ec2,hx⟩:=hx
 replace ec2:c2=x2:=ec2
 subst ec2
 obtain⟨f3,fr3,ec3,sc3,hx⟩:=hx
 subst ec3
 replace sc3:LR rI _ c3 x3 f3:=sc3
 obtain⟨ec4,hx⟩:=hx
 replace ec4:c4=x4:=ec4
 subst ec4
 replace hx:_=[]:=hx
 subst hx
 obtain⟨⟨ed0,zd0⟩,hy⟩:=hy
 replace ed0:d0=y0:=ed0
 subst ed0
 replace zd0:d0.size≤9223372036854775807:=zd0
 obtain⟨⟨ed1,zd1⟩,hy⟩:=hy
 replace ed1:d1=y1:=ed1
 subst ed1
 replace zd1:d1.size≤9223372036854775807:=zd1
 obtain⟨ed2,hy⟩:=hy
 replace ed2:d2=y2:=ed2
 subst ed2
 obtain⟨g3,gr3,ed3,sd3,hy⟩:=hy
 subst ed3
 replace sd3:LR rI _ d3 y3 g3:=sd3
 obtain⟨ed4,hy⟩:=hy
 replace ed4:d4=y4:=ed4
 subst ed4
 replace hy:_=[]:=hy
 subst hy
 refine CallX.of_fits Tryz.mix (fL_eqRate _ _) fun _=>?_
 simp only [tL_eqRate,T.wp]
 refine⟨fun h=>⟨by trivial,false,rfl,⟨(fun h=>by cases h),(fun e=>by cases e; simp at h)⟩⟩,fun h0=>?_⟩
 refine⟨fun h=>⟨by trivial,false,rfl,⟨(fun h=>by cases h),(fun e=>by cases e; simp at h)⟩⟩,fun h1=>?_⟩
 refine(cL_eqDec _ _ _ _ _ _ _ (rBool.mk (rSl.mk sc3 (rInt.mk rNil.mk))) (rBool.mk (rSl.mk sd3 (rInt.mk rNil.mk)))).mono ?_
 rintro V2 r ⟨rfl,b2,rfl,hb2⟩
 refine⟨nofun,b2,rfl,fun h=>⟨by trivial,false,rfl,⟨(fun h=>by cases h),(fun e=>by cases e; simp [hb2.2 rfl] at h)⟩⟩,fun h2=>?_⟩
 refine⟨by trivial,true,rfl,⟨fun _=>?_,fun _=>rfl⟩⟩
 have q0:c0=d0:=text_eq.1 (by simpa using h0)
 subst q0
 have q1:c1=d1:=text_eq.1 (by simpa using h1)
 subst q1
 have q2:(c2,x3,c4,())=(d2,y3,d4,()):=hb2.1 (by simpa using h2)
 cases q2
 rfl
theorem cL_eqCmd:EqC Tryz.prog 6 rCmd:=by
 rintro V ⟨c0,c1,c2,c3,c4,c5,c6,c7,c8,c9,c10,c11,c12,c13,c14,c15,c16,c17,c18,cu⟩ ⟨d0,d1,d2,d3,d4,d5,d6,d7,d8,d9,d10,d11,d12,d13,d14,d15,d16,d17,d18,du⟩ ⟨x0,x1,x2,x3,x4,x5,x6,x7,x8,x9,x10,x11,x12,x13,x14,x15,x16,x17,x18,xu⟩ ⟨y0,y1,y2,y3,y4,y5,y6,y7,y8,y9,y10,y11,y12,y13,y14,y15,y16,y17,y18,yu⟩ f f' hx hy
 obtain⟨ec0,hx⟩:=hx
 replace ec0:c0=x0:=ec0
 subst ec0
 obtain⟨⟨ec1,zc1⟩,hx⟩:=hx
 replace ec1:c1=x1:=ec1
 subst ec1
 replace zc1:c1.size≤9223372036854775807:=zc1
 obtain⟨⟨ec2,zc2⟩,hx⟩:=hx
 replace ec2:c2=x2:=ec2
 subst ec2
 replace zc2:c2.size≤9223372036854775807:=zc2
 obtain⟨⟨ec3,zc3⟩,hx⟩:=hx
 replace ec3:c3=x3:=ec3
 subst ec3
 replace zc3:c3.size≤9223372036854775807:=zc3
 obtain⟨⟨ec4,zc4⟩,hx⟩:=hx
 replace ec4:c4=x4:=ec4
 subst ec4
 replace zc4:c4.size≤9223372036854775807:=zc4
 obtain⟨⟨ec5,zc5⟩,hx⟩:=hx
 replace ec5:c5=x5:=ec5
 subst ec5
 replace zc5:c5.size≤9223372036854775807:=zc5
 obtain⟨ec6,hx⟩:=hx
 replace ec6:c6=x6:=ec6
 subst ec6
 obtain⟨f7,fr7,ec7,sc7,hx⟩:=hx
 subst ec7
 replace sc7:LR rI _ c7 x7 f7:=sc7
 obtain⟨ec8,hx⟩:=hx
 replace ec8:c8=x8:=ec8
 subst ec8
 obtain⟨f9,fr9,ec9,sc9,hx⟩:=hx
 subst ec9
 replace sc9:LR rString _ c9 x9 f9:=sc9
 obtain⟨f10,fr10,ec10,sc10,hx⟩:=hx
 subst ec10
 replace sc10:LR rI _ c10 x10 f10:=sc10
 obtain⟨ec11,hx⟩:=hx
 replace ec11:c11=x11:=ec11
 subst ec11
 obtain⟨f12,fr12,ec12,sc12,hx⟩:=hx
 subst ec12
 replace sc12:LR rI _ c12 x12 f12:=sc12
 obtain⟨ec13,hx⟩:=hx
 replace ec13:c13=x13:=ec13
 subst ec13
 obtain⟨⟨ec14,zc14⟩,hx⟩:=hx
 replace ec14:c14=x14:=ec14
 subst ec14
 replace zc14:c14.size≤9223372036854775807:=zc14
 obtain⟨⟨ec15,zc15⟩,hx⟩:=hx
 replace ec15:c15=x15:=ec15
 subst ec15
 replace zc15:c15.size≤9223372036854775807:=zc15
 obtain⟨ec16,hx⟩:=hx
 replace ec16:c16=x16:=ec16
 subst ec16
 obtain⟨f17,fr17,ec17,sc17,hx⟩:=hx
 subst ec17
 replace sc17:LR rI _ c17 x17 f17:=sc17
 obtain⟨ec18,hx⟩:=hx
 replace ec18:c18=x18:=ec18
 subst ec18
 replace hx:_=[]:=hx
 subst hx
 obtain⟨ed0,hy⟩:=hy
 replace ed0:d0=y0:=ed0
 subst ed0
 obtain⟨⟨ed1,zd1⟩,hy⟩:=hy
 replace ed1:d1=y1:=ed1
 subst ed1
 replace zd1:d1.size≤9223372036854775807:=zd1
 obtain⟨⟨ed2,zd2⟩,hy⟩:=hy
 replace ed2:d2=y2:=ed2
 subst ed2
 replace zd2:d2.size≤9223372036854775807:=zd2
 obtain⟨⟨ed3,zd3⟩,hy⟩:=hy
 replace ed3:d3=y3:=ed3
 subst ed3
 replace zd3:d3.size≤9223372036854775807:=zd3
 obtain⟨⟨ed4,zd4⟩,hy⟩:=hy
 replace ed4:d4=y4:=ed4
 subst ed4
 replace zd4:d4.size≤9223372036854775807:=zd4
 obtain⟨⟨ed5,zd5⟩,hy⟩:=hy
 replace ed5:d5=y5:=ed5
 subst ed5
 replace zd5:d5.size≤9223372036854775807:=zd5
 obtain⟨ed6,hy⟩:=hy
 replace ed6:d6=y6:=ed6
 subst ed6
 obtain⟨g7,gr7,ed7,sd7,hy⟩:=hy
 subst ed7
 replace sd7:LR rI _ d7 y7 g7:=sd7
 obtain⟨ed8,hy⟩:=hy
 replace ed8:d8=y8:=ed8
 subst ed8
 obtain⟨g9,gr9,ed9,sd9,hy⟩:=hy
 subst ed9
 replace sd9:LR rString _ d9 y9 g9:=sd9
 obtain⟨g10,gr10,ed10,sd10,hy⟩:=hy
 subst ed10
 replace sd10:LR rI _ d10 y10 g10:=sd10
 obtain⟨ed11,hy⟩:=hy
 replace ed11:d11=y11:=ed11
 subst ed11
 obtain⟨g12,gr12,ed12,sd12,hy⟩:=hy
 subst ed12
 replace sd12:LR rI _ d12 y12 g12:=sd12
 obtain⟨ed13,hy⟩:=hy
 replace ed13:d13=y13:=ed13
 subst ed13
 obtain⟨⟨ed14,zd14⟩,hy⟩:=hy
 replace ed14:d14=y14:=ed14
 subst ed14
 replace zd14:d14.size≤9223372036854775807:=zd14
 obtain⟨⟨ed15,zd15⟩,hy⟩:=hy
 replace ed15:d15=y15:=ed15
 subst ed15
 replace zd15:d15.size≤9223372036854775807:=zd15
 obtain⟨ed16,hy⟩:=hy
 replace ed16:d16=y16:=ed16
 subst ed16
 obtain⟨g17,gr17,ed17,sd17,hy⟩:=hy
 subst ed17
 replace sd17:LR rI _ d17 y17 g17:=sd17
 obtain⟨ed18,hy⟩:=hy
 replace ed18:d18=y18:=ed18
 subst ed18
 replace hy:_=[]:=hy
 subst hy
 refine CallX.of_fits Tryz.mix (fL_eqCmd _ _) fun _=>?_
 simp only [tL_eqCmd,T.wp]
 refine⟨fun h=>⟨by trivial,false,rfl,⟨(fun h=>by cases h),(fun e=>by cases e; simp at h)⟩⟩,fun h0=>?_⟩
 refine⟨fun h=>⟨by trivial,false,rfl,⟨(fun h=>by cases h),(fun e=>by cases e; simp at h)⟩⟩,fun h1=>?_⟩
 refine⟨fun h=>⟨by trivial,false,rfl,⟨(fun h=>by cases h),(fun e=>by cases e; simp at h)⟩⟩,fun h2=>?_⟩
 refine⟨fun h=>⟨by trivial,false,rfl,⟨(fun h=>by cases h),(fun e=>by cases e; simp at h)⟩⟩,fun h3=>?_⟩
 refine⟨fun h=>⟨by trivial,false,rfl,⟨(fun h=>by cases h),(fun e=>by cases e; simp at h)⟩⟩,fun h4=>?_⟩
 refine(cL_eqMoney _ _ _ _ _ _ _ (rStr.mk zc5 (rBool.mk (rSl.mk sc7 rNil.mk))) (rStr.mk zd5 (rBool.mk (rSl.mk sd7 rNil.mk)))).mono ?_
 rintro V5 r ⟨rfl,b5,rfl,hb5⟩
 refine⟨nofun,b5,rfl,fun h=>⟨by trivial,false,rfl,⟨(fun h=>by cases h),(fun e=>by cases e; simp [hb5.2 rfl] at h)⟩⟩,fun h5=>?_⟩
 refine⟨fun h=>⟨by trivial,false,rfl,⟨(fun h=>by cases h),(fun e=>by cases e; simp at h)⟩⟩,fun h8=>?_⟩
 refine(cL_eqStringS _ _ _ _ _ _ _ sc9 sd9).mono ?_
 rintro V9 r ⟨rfl,b9,rfl,hb9⟩
 refine⟨nofun,b9,rfl,fun h=>⟨by trivial,false,rfl,⟨(fun h=>by cases h),(fun e=>by cases e; simp [hb9.2 rfl] at h)⟩⟩,fun h9=>?_⟩
 refine(cL_eqIntS _ _ _ _ _ _ _ sc10 sd10).mono ?_
 rintro V10 r ⟨rfl,b10,rfl,hb10⟩
 refine⟨nofun,b10,rfl,fun h=>⟨by trivial,false,rfl,⟨(fun h=>by cases h),(fun e=>by cases e; simp [hb10.2 rfl] at h)⟩⟩,fun h10=>?_⟩
 refine(cL_eqDec _ _ _ _ _ _ _ (rBool.mk (rSl.mk sc12 (rInt.mk rNil.mk))) (rBool.mk (rSl.mk sd12 (rInt.mk rNil.mk)))).mono ?_
 rintro V11 r ⟨rfl,b11,rfl,hb11⟩
 refine⟨nofun,b11,rfl,fun h=>⟨by trivial,false,rfl,⟨(fun h=>by cases h),(fun e=>by cases e; simp [hb11.2 rfl] at h)⟩⟩,fun h11=>?_⟩
 refine(cL_eqRate _ _ _ _ _ _ _ (rStr.mk zc14 (rStr.mk zc15 (rBool.mk (rSl.mk sc17 (rInt.mk rNil.mk))))) (rStr.mk zd14 (rStr.mk zd15 (rBool.mk (rSl.mk sd17 (rInt.mk rNil.mk)))))).mono ?_
 rintro V14 r ⟨rfl,b14,rfl,hb14⟩
 refine⟨nofun,b14,rfl,fun h=>⟨by trivial,false,rfl,⟨(fun h=>by cases h),(fun e=>by cases e; simp [hb14.2 rfl] at h)⟩⟩,fun h14=>?_⟩
 refine⟨by trivial,true,rfl,⟨fun _=>?_,fun _=>rfl⟩⟩
 have q0:c0=d0:=by simpa using h0
 subst q0
 have q1:c1=d1:=text_eq.1 (by simpa using h1)
 subst q1
 have q2:c2=d2:=text_eq.1 (by simpa using h2)
 subst q2
 have q3:c3=d3:=text_eq.1 (by simpa using h3)
 subst q3
 have q4:c4=d4:=text_eq.1 (by simpa using h4)
 subst q4
 have q5:(c5,c6,x7,())=(d5,d6,y7,()):=hb5.1 (by simpa using h5)
 cases q5
 have q8:c8=d8:=by simpa using h8
 subst q8
 have q9:x9=y9:=hb9.1 (by simpa using h9)
 cases q9
 have q10:x10=y10:=hb10.1 (by simpa using h10)
 cases q10
 have q11:(c11,x12,c13,())=(d11,y12,d13,()):=hb11.1 (by simpa using h11)
 cases q11
 have q14:(c14,c15,c16,x17,c18,())=(d14,d15,d16,y17,d18,()):=hb14.1 (by simpa using h14)
 cases q14
 rfl
end Go.Proofs.YtpkmhkbkohppiaaGreatDoor
namespace Go.Proofs.YtpkmhkbkohppiaaGreatDoor
open Sx
structure PairTy (P:Program) (T S:TypeId):Prop where
 und:P.underlying T=some (.struct (P.fieldsOf T))
 held:P.stoodInHeld T=false
 fs:(P.fieldsOf T).toList=[(P.fieldsOf T)[0]!,(P.fieldsOf T)[1]!]
 nm : (P.fieldsOf T)[0]!.name ≠ "_" ∧ (P.fieldsOf T)[1]!.name ≠ "_"
 ty:(P.fieldsOf T)[0]!.type=S∧(P.fieldsOf T)[1]!.type=S
 off:(P.fieldsOf T)[0]!.offset=0∧(P.fieldsOf T)[1]!.offset=1
 str:P.underlying S=some .string
section
variable {P:Program} {T S:TypeId} (hT:PairTy P T S) (w:World)
include hT
end
end Go.Proofs.YtpkmhkbkohppiaaGreatDoor
namespace Go.Proofs.YtpkmhkbkohppiaaGreatDoor
open Sx
set_option maxRecDepth 100000
def RatOkP (neg:Bool) (n d:List Lim):Prop:=IntOkP neg n∧NatOkP d∧0<d.length∧d.length≤18∧n.length≤18∧Int.gcd (valN n) (valN d)=1
def LowerP (x:Int):Prop:=97≤x∧x≤122
def DigitP (x:Int):Prop:=48≤x∧x≤57
def WordP (s:ByteArray):Prop:=1≤s.size∧s.size≤12∧LowerP (at0 s 0)∧∀ i,i<s.size→LowerP (at0 s i)∨DigitP (at0 s i)
def DecOkP (neg:Bool) (l:List Lim) (sc:Int):Prop:=IntOkP neg l∧l.length≤6∧0≤sc∧sc≤30
def RateOkP (r:DRate):Prop:=known r.1=true∧known r.2.1=true∧r.1≠r.2.1∧DecOkP r.2.2.1 r.2.2.2.1 r.2.2.2.2.1∧0<sval r.2.2.1 r.2.2.2.1∧r.2.2.2.1.length≤2
def LessP (a b:ByteArray):Prop:=Op.bytesLess a.toList b.toList=true
def HcS (_:Know):Prop:=True
def HcI (V:Know):Prop:=hasCur V
theorem HcS.le {V V':Know} (_:HcS V) (_:V.le V'):HcS V':=trivial
theorem HcI.le {V V':Know} (h:HcI V) (k:V.le V'):HcI V':=hasCur.le h k
theorem kS_CurKnown {V:Know} (_:HcS V) (x:ByteArray):CallX Tryz.prog V 80 [.string x] (fun V' r=>V.le V'∧r=.bool (known x)):=cS_CurKnown V x
theorem kI_CurKnown {V:Know} (h:HcI V) (x:ByteArray):CallX Tryz.prog V 147 [.string x] (fun V' r=>V.le V'∧r=.bool (known x)):=(cI_CurKnown h x).mono (by
 rintro V' r ⟨rfl,rfl⟩
 exact⟨Know.le.refl _,rfl⟩)
theorem kS_MoneyOk {V:Know} (_:HcS V) (c0:ByteArray) (c1:Bool) (c2:SlV) (l:List Lim) (f:List Nat) (h:LR rI V c2 l f):CallX Tryz.prog V 83 [qv2 (c0,c1,c2,())] (fun V' r=>V.le V'∧∃ e,r=.bool e∧(e=true↔MoneyOkP c0 c1 l)):=cS_MoneyOk c0 c1 c2 l f h
theorem kI_MoneyOk {V:Know} (hV:HcI V) (c0:ByteArray) (c1:Bool) (c2:SlV) (l:List Lim) (f:List Nat) (h:LR rI V c2 l f):CallX Tryz.prog V 139 [qv2 (c0,c1,c2,())] (fun V' r=>V.le V'∧∃ e,r=.bool e∧(e=true↔MoneyOkP c0 c1 l)):=cI_MoneyOk hV c0 c1 c2 l f h
theorem RatOkP.mk {neg:Bool} {n d g:List Lim} (h1:IntOkP neg n) (h2:NatOkP d) (h3:¬ d.length=0) (h4:¬ (d.length:Int) > 18) (h5:¬ (n.length:Int) > 18) (hg:valN g=(Int.gcd (valN n) (valN d):Int)):valN g=1↔RatOkP neg n d:=by
 rw [hg]
 constructor
 ·intro e
  exact⟨h1,h2,by omega,by omega,by omega,by omega⟩
 ·intro h
  have:=h.2.2.2.2.2
  omega
abbrev OkPost (V:Know) (p:Prop):Know→Value→Prop:=fun V' r=>V.le V'∧∃ e,r=.bool e∧(e=true↔p)
theorem not_ok {V:Know} {p:Prop} {V':Know} (h:V.le V') (k:¬ p):OkPost V p V' (.bool false):=⟨h,false,rfl,⟨(fun e=>by cases e),fun e=>absurd e k⟩⟩
theorem cS_l02Cap (V:Know) (s:SlV) (l:List Lim) (f:List Nat) (h:LR rI V s l f) (hl:l.length≤50):CallX Tryz.prog V 154 [Sc.val .l s] (fun V' r=>V'=V∧∃ s',r=Sc.val .l s'∧LR rI V s' (trimL l) f):=by
 refine CallX.of_fits Tryz.mix (fS_l02Cap _) fun _=>?_
 simp only [tS_l02Cap,T.wp]
 refine(cS_l02Trim V s l f h).mono ?_
 rintro V1 r ⟨rfl,s',rfl,-,hL⟩
 have hn:=hL.1
 have:(trimL l).length≤l.length:=by unfold trimL; rw [List.length_take]; exact Nat.min_le_right _ _
 refine⟨nofun,s',rfl,fun hbad=>?_,fun _=>⟨rfl,s',rfl,hL⟩⟩
 have:(s'.n:Int) > 50:=of_decide_eq_true hbad
 omega
theorem trim_id {l:List Lim} (h:Can l):trimL l=l:=can_inj (trim_can h.1).1 h (trim_can h.1).2
theorem cS_l04Make (V:Know) (c0:Bool) (s:SlV) (l:List Lim) (f:List Nat) (h:LR rI V s l f) (hc:Can l) (hl:l.length≤50) :
  CallX Tryz.prog V 122 [.bool c0,Sc.val .l s] (fun V' r=>V.le V'∧∃ s' f',r=qv1 (c0 && decide (0<l.length),s',())∧LR rI V' s' l f'∧Own V V' f'):=by
 refine CallX.of_fits Tryz.mix (fS_l04Make _ _) fun _=>?_
 simp only [tS_l04Make,T.wp]
 refine(cS_l02Cap V s l f h hl).mono ?_
 rintro V1 r ⟨rfl,s1,rfl,hL⟩
 rw [trim_id hc] at hL
 obtain⟨r1,r2⟩:=hL.rdI
 have hn:=hL.1
 have fin:∀ (q:Bool),q=(c0 && decide (0<l.length))→∀ b cap spare,V1 b=none→0+s1.n≤cap→V1.le (kset V1 b (([]++l.map cellI)++spare,(3,(0,0))))∧∃ s' f',packed [qv1 (q,(⟨some ⟨b,0,none⟩,0+s1.n,cap⟩:SlV),())]=qv1 (c0 && decide (0<l.length),s',())∧LR rI (kset V1 b (([]++l.map cellI)++spare,(3,(0,0)))) s' l f'∧Own V1 (kset V1 b (([]++l.map cellI)++spare,(3,(0,0)))) f':=by
  intro q hq b cap spare hb hcap
  have k:=newI (V:=V1) (b:=b) (cap:=cap) (o:=l) (spare:=spare) (t:=3) hb (by omega) (by omega)
  refine⟨kset_le hb,⟨some ⟨b,0,none⟩,0+s1.n,cap⟩,[b],by rw [hq]; rfl,?_,k.2⟩
  rw [Nat.zero_add,hn]
  exact k.1
 refine⟨nofun,s1,rfl,fun hneg=>⟨l.map cellI,r1,r2,⟨r2,(by omega:(0+s1.n)*8≤140737488355328),(by omega:0+s1.n≤9223372036854775807)⟩,fun b cap spare hb hcap _=>fin _ ?_ b cap spare hb hcap⟩,fun hpos=>⟨l.map cellI,r1,r2,⟨r2,(by omega:(0+s1.n)*8≤140737488355328),(by omega:0+s1.n≤9223372036854775807)⟩,fun b cap spare hb hcap _=>fin _ ?_ b cap spare hb hcap⟩⟩
 ·have:c0=true:=hneg
  subst this
  show decide ((s1.n:Int) > 0)=(true && decide (0<l.length))
  rw [Bool.true_and]
  exact decide_eq_decide.2 (by omega)
 ·have:c0=false:=hpos
  subst this
  rfl
theorem cS_IntSign (V:Know) (c0:Bool) (c1:SlV) (l:List Lim) (f:List Nat) (h:LR rI V c1 l f) (hi:IntOkP c0 l):CallX Tryz.prog V 82 [qv1 (c0,c1,())] (fun V' r=>V'=V∧r=.int .i64 (sgn (sval c0 l))):=by
 refine CallX.of_fits Tryz.mix (fS_IntSign _) fun _=>?_
 simp only [tS_IntSign,T.wp]
 refine(cS_IntCmp V c0 c1 false ⟨none,0,0⟩ l [] f [] h ⟨rfl,Nat.le_refl _,by simp,.inl ⟨rfl,fun _=>rfl,rfl⟩⟩ hi ⟨⟨⟨lims_nil,.inl rfl⟩,by simp⟩,fun h=>by cases h⟩).mono ?_
 rintro V1 r ⟨rfl,rfl⟩
 refine⟨nofun,_,rfl,by trivial,?_⟩
 have:sval false []=0:=by simp [sval,valN_nil]
 rw [this,Int.sub_zero]
 rfl
theorem cI_isScale (V:Know) (x:Int):CallX Tryz.prog V 177 [.int .i64 x] (fun V' r=>V'=V∧r=.bool (decide (0≤x∧x≤30))):=by
 refine CallX.of_fits Tryz.mix (fI_isScale _) fun _=>?_
 simp only [tI_isScale,T.wp]
 refine⟨fun h=>⟨by trivial,?_⟩,fun h=>⟨by trivial,?_⟩⟩
 ·have:x≥0:=of_decide_eq_true h
  show Value.bool (decide (x≤30))=_
  rw [decide_eq_decide.2 (show x≤30↔(0≤x∧x≤30) from⟨fun k=>⟨this,k⟩,fun k=>k.2⟩)]
 ·have:¬ x≥0:=of_decide_eq_false h
  rw [decide_eq_false (show ¬ (0≤x∧x≤30) from fun k=>this k.1)]
  rfl
theorem cS_DecOk (V:Know) (c0:Bool) (c1:SlV) (x:Int) (l:List Lim) (f:List Nat) (h:LR rI V c1 l f):CallX Tryz.prog V 81 [qv0 (c0,c1,x,())] (fun V' r=>V'=V∧∃ e,r=.bool e∧(e=true↔DecOkP c0 l x)):=by
 refine CallX.of_fits Tryz.mix (fS_DecOk _) fun _=>?_
 simp only [tS_DecOk,T.wp]
 have hn:=h.1
 refine(cS_IntOk V c0 c1 l f h).mono ?_
 rintro V1 r ⟨rfl,e,rfl,he⟩
 refine⟨nofun,e,rfl,fun ht=>⟨fun h6=>?_,fun h6=>⟨by trivial,false,rfl,⟨(fun h=>by cases h),fun k=>?_⟩⟩⟩,fun hf=>⟨by trivial,false,rfl,⟨(fun h=>by cases h),fun k=>by rw [he.2 k.1] at hf; cases hf⟩⟩⟩
 ·have q:(c1.n:Int)≤6:=of_decide_eq_true h6
  refine(cS_l01In V1 x 0 30).mono ?_
  rintro V2 r ⟨rfl,rfl⟩
  refine⟨nofun,_,rfl,by trivial,_,rfl,⟨fun hd=>⟨he.1 ht,by omega,(of_decide_eq_true hd).1,(of_decide_eq_true hd).2⟩,fun k=>decide_eq_true k.2.2⟩⟩
 ·have q:¬ (c1.n:Int)≤6:=of_decide_eq_false h6
  have:=k.2.1
  omega
theorem cI_DecOk (V:Know) (c0:Bool) (c1:SlV) (x:Int) (l:List Lim) (f:List Nat) (h:LR rI V c1 l f):CallX Tryz.prog V 143 [qv0 (c0,c1,x,())] (fun V' r=>V'=V∧∃ e,r=.bool e∧(e=true↔DecOkP c0 l x)):=by
 refine CallX.of_fits Tryz.mix (fI_DecOk _) fun _=>?_
 simp only [tI_DecOk,T.wp]
 have hn:=h.1
 refine(cI_IntOk V c0 c1 l f h).mono ?_
 rintro V1 r ⟨rfl,e,rfl,he⟩
 refine⟨nofun,e,rfl,fun ht=>⟨fun h6=>?_,fun h6=>⟨by trivial,false,rfl,⟨(fun h=>by cases h),fun k=>?_⟩⟩⟩,fun hf=>⟨by trivial,false,rfl,⟨(fun h=>by cases h),fun k=>by rw [he.2 k.1] at hf; cases hf⟩⟩⟩
 ·have q:(c1.n:Int)≤6:=of_decide_eq_true h6
  refine(cI_isScale V1 x).mono ?_
  rintro V2 r ⟨rfl,rfl⟩
  refine⟨nofun,_,rfl,by trivial,_,rfl,⟨fun hd=>⟨he.1 ht,by omega,(of_decide_eq_true hd).1,(of_decide_eq_true hd).2⟩,fun k=>decide_eq_true k.2.2⟩⟩
 ·have q:¬ (c1.n:Int)≤6:=of_decide_eq_false h6
  have:=k.2.1
  omega
theorem sgn_pos {z:Int}:sgn z > 0↔0<z:=by
 unfold sgn
 split
 ·omega
 ·split <;> omega
theorem word_iff {s:ByteArray}:WordP s↔(∀ i,i<s.size→LowerP (at0 s i)∨DigitP (at0 s i))∧0<s.size∧s.size≤12∧97≤at0 s 0:=by
 unfold WordP
 constructor
 ·rintro⟨h1,h2,h3,h4⟩
  exact⟨h4,h1,h2,h3.1⟩
 ·rintro⟨h1,h2,h3,h4⟩
  refine⟨h2,h3,?_,h1⟩
  rcases h1 0 h2 with h | h
  ·exact h
  ·have:=h.2
   omega
theorem cI_isLower (V:Know) (x:Int):CallX Tryz.prog V 137 [.int .u8 x] (fun V' r=>V'=V∧∃ e,r=.bool e∧(e=true↔LowerP x)):=by
 refine CallX.of_fits Tryz.mix (fI_isLower _) fun _=>?_
 simp only [tI_isLower,T.wp]
 refine⟨fun h=>⟨by trivial,_,rfl,?_⟩,fun h=>⟨by trivial,_,rfl,⟨(fun k=>by cases k),fun k=>?_⟩⟩⟩
 ·have:x≥97:=of_decide_eq_true h
  exact⟨fun k=>⟨this,of_decide_eq_true k⟩,fun k=>decide_eq_true k.2⟩
 ·have:¬ x≥97:=of_decide_eq_false h
  exact absurd k.1 this
theorem cI_isDigit (V:Know) (x:Int):CallX Tryz.prog V 138 [.int .u8 x] (fun V' r=>V'=V∧∃ e,r=.bool e∧(e=true↔DigitP x)):=by
 refine CallX.of_fits Tryz.mix (fI_isDigit _) fun _=>?_
 simp only [tI_isDigit,T.wp]
 refine⟨fun h=>⟨by trivial,_,rfl,?_⟩,fun h=>⟨by trivial,_,rfl,⟨(fun k=>by cases k),fun k=>?_⟩⟩⟩
 ·have:x≥48:=of_decide_eq_true h
  exact⟨fun k=>⟨this,of_decide_eq_true k⟩,fun k=>decide_eq_true k.2⟩
 ·have:¬ x≥48:=of_decide_eq_false h
  exact absurd k.1 this
theorem cI_IsWord (V:Know) (s:ByteArray) (hs:s.size≤9223372036854775807):CallX Tryz.prog V 106 [.string s] (fun V' r=>V'=V∧∃ e,r=.bool e∧(e=true↔WordP s)):=by
 refine CallX.of_fits Tryz.mix (fI_IsWord _) fun _=>?_
 simp only [tI_IsWord,T.wp]
 have no:∀ {V':Know},¬ WordP s→V'=V'∧∃ e,packed [Value.bool false]=.bool e∧(e=true↔WordP s):=fun h=>⟨rfl,false,rfl,⟨(fun k=>by cases k),fun k=>absurd k h⟩⟩
 refine⟨fun h=>⟨by trivial,false,rfl,⟨(fun k=>by cases k),fun k=>?_⟩⟩,fun h=>⟨fun h2=>⟨by trivial,false,rfl,⟨(fun k=>by cases k),fun k=>?_⟩⟩,fun h2=>?_⟩⟩
 ·have:(s.size:Int)<1:=of_decide_eq_true h
  have:=k.1
  omega
 ·have:(s.size:Int) > 12:=of_decide_eq_true h2
  have:=k.2.1
  omega
 have q1:¬ (s.size:Int)<1:=of_decide_eq_false h
 have q2:¬ (s.size:Int) > 12:=of_decide_eq_false h2
 refine⟨⟨by omega,by omega⟩,(cI_isLower V _).mono ?_⟩
 rintro V1 r ⟨rfl,e,rfl,he⟩
 refine⟨nofun,e,rfl,fun hf=>⟨by trivial,false,rfl,⟨(fun k=>by cases k),fun k=>?_⟩⟩,fun ht=>?_⟩
 ·rw [he.2 k.2.2.1] at hf
  cases hf
 have hlow:=he.1 (by simpa using ht)
 replace hlow:LowerP (at0 s 0):=hlow
 refine⟨fun y V'=>V'=V1∧∃ i:Nat,y.1=(i:Int)∧1≤i∧i≤s.size∧∀ j,1≤j→j<i→LowerP (at0 s j)∨DigitP (at0 s j),fun y=>((s.size:Int)-(y.1:Int)).toNat,⟨((1:Int),()),rfl,rfl,1,rfl,by omega,by omega,fun j h1 h2=>by omega⟩,?_⟩
 rintro⟨(i:Int),u⟩ V' ⟨rfl,k,hk,h1k,hkle,hall⟩
 replace hk:i=(k:Int):=hk
 subst hk
 refine⟨fun hlt=>?_,fun hge=>?_⟩
 ·have hks:k<s.size:=by
   have:(k:Int)<(s.size:Int):=of_decide_eq_true hlt
   omega
  have hin:(0:Int)≤(k:Int)∧(k:Int)<(s.size:Int):=⟨by omega,by omega⟩
  have next:LowerP (at0 s k)∨DigitP (at0 s k)→∃ y':LShs [.o (.o (.i .i64))],[LV.v (.int .i64 (IntKind.i64.wrap ((k:Int)+1)))]=LShs.lvs _ y'∧(V'=V'∧∃ i:Nat,y'.1=(i:Int)∧1≤i∧i≤s.size∧∀ j,1≤j→j<i→LowerP (at0 s j)∨DigitP (at0 s j))∧((s.size:Int)-(y'.1:Int)).toNat<((s.size:Int)-(k:Int)).toNat:=by
   intro hp
   refine⟨(((k+1:Nat):Int),()),by rw [nxt hks hs]; rfl,⟨rfl,k+1,rfl,by omega,hks,fun j h1 h2=>?_⟩,?_⟩
   ·by_cases e:j=k
    ·subst e; exact hp
    ·exact hall j h1 (by omega)
   ·show((s.size:Int)-((k+1:Nat):Int)).toNat<((s.size:Int)-(k:Int)).toNat
    omega
  refine⟨hin,(cI_isLower V' _).mono ?_⟩
  rintro V2 r ⟨rfl,e1,rfl,he1⟩
  replace he1:e1=true↔LowerP (at0 s k):=he1
  refine⟨nofun,e1,rfl,fun hf=>⟨hin,(cI_isDigit V2 _).mono ?_⟩,fun ht1=>⟨_,rfl,next (.inl (he1.1 (by simpa using ht1)))⟩⟩
  rintro V3 r ⟨rfl,e2,rfl,he2⟩
  replace he2:e2=true↔DigitP (at0 s k):=he2
  refine⟨nofun,e2,rfl,fun hf2=>⟨by trivial,false,rfl,⟨(fun k=>by cases k),fun kw=>?_⟩⟩,fun ht2=>⟨_,rfl,next (.inr (he2.1 (by simpa using ht2)))⟩⟩
  rcases kw.2.2.2 k hks with hh | hh
  ·rw [he1.2 hh] at hf; cases hf
  ·rw [he2.2 hh] at hf2; cases hf2
 ·have hks:k=s.size:=by
   have:¬ (k:Int)<(s.size:Int):=of_decide_eq_false hge
   omega
  subst hks
  refine⟨rfl,true,rfl,⟨fun _=>⟨by omega,by omega,hlow,fun i hi=>?_⟩,fun _=>rfl⟩⟩
  by_cases e:i=0
  ·subst e; exact .inl hlow
  ·exact hall i (by omega) hi
theorem cS_l01All (V:Know) (s:ByteArray) (a b c d:Int) (hs:s.size≤9223372036854775807):CallX Tryz.prog V 85 [.string s,.int .u8 a,.int .u8 b,.int .u8 c,.int .u8 d]
  (fun V' r=>V'=V∧∃ e,r=.bool e∧(e=true↔(∀ i,i<s.size→(a≤at0 s i∧at0 s i≤b)∨(c≤at0 s i∧at0 s i≤d))∧0<s.size)):=by
 refine CallX.of_fits Tryz.mix (fS_l01All _ _ _ _ _) fun _=>?_
 simp only [tS_l01All,T.wp]
 refine⟨fun y V'=>V'=V∧∃ i:Nat,y.1=(i:Int)∧i≤s.size∧∀ j,j<i→(a≤at0 s j∧at0 s j≤b)∨(c≤at0 s j∧at0 s j≤d),fun y=>((s.size:Int)-(y.1:Int)).toNat,⟨((0:Int),()),rfl,rfl,0,rfl,by omega,fun j h=>by omega⟩,?_⟩
 rintro⟨(i:Int),u⟩ V' ⟨rfl,k,hk,hkle,hall⟩
 replace hk:i=(k:Int):=hk
 subst hk
 refine⟨fun hlt=>?_,fun hge=>?_⟩
 ·have hks:k<s.size:=by
   have:(k:Int)<(s.size:Int):=of_decide_eq_true hlt
   omega
  have hin:(0:Int)≤(k:Int)∧(k:Int)<(s.size:Int):=⟨by omega,by omega⟩
  have e0:(k:Int).toNat=k:=by omega
  have next:(a≤at0 s k∧at0 s k≤b)∨(c≤at0 s k∧at0 s k≤d)→∃ y':LShs [.o (.o (.i .i64))],[LV.v (.int .i64 (IntKind.i64.wrap ((k:Int)+1)))]=LShs.lvs _ y'∧(V'=V'∧∃ i:Nat,y'.1=(i:Int)∧i≤s.size∧∀ j,j<i→(a≤at0 s j∧at0 s j≤b)∨(c≤at0 s j∧at0 s j≤d))∧((s.size:Int)-(y'.1:Int)).toNat<((s.size:Int)-(k:Int)).toNat:=by
   intro hp
   refine⟨(((k+1:Nat):Int),()),by rw [nxt hks hs]; rfl,⟨rfl,k+1,rfl,hks,fun j h2=>?_⟩,?_⟩
   ·by_cases e:j=k
    ·subst e; exact hp
    ·exact hall j (by omega)
   ·show((s.size:Int)-((k+1:Nat):Int)).toNat<((s.size:Int)-(k:Int)).toNat
    omega
  have bad:¬ ((a≤at0 s k∧at0 s k≤b)∨(c≤at0 s k∧at0 s k≤d))→V'=V'∧∃ e,packed [Value.bool false]=.bool e∧(e=true↔(∀ i,i<s.size→(a≤at0 s i∧at0 s i≤b)∨(c≤at0 s i∧at0 s i≤d))∧0<s.size) :=
   fun hn=>⟨rfl,false,rfl,⟨(fun k=>by cases k),fun kk=>absurd (kk.1 k hks) hn⟩⟩
  dsimp only
  rw [e0]
  refine⟨hin,fun h1=>⟨hin,fun h2=>bad ?_,fun h2=>⟨hin,fun h3=>bad ?_,fun h3=>⟨_,rfl,next ?_⟩⟩⟩,fun h1=>⟨hin,fun h2=>⟨hin,fun h3=>bad ?_,fun h3=>⟨hin,fun h4=>bad ?_,fun h4=>⟨_,rfl,next ?_⟩⟩⟩,fun h2=>⟨_,rfl,next ?_⟩⟩⟩
  all_goals (simp only [decide_eq_true_eq,decide_eq_false_iff_not] at *; omega)
 ·have hks:k=s.size:=by
   have:¬ (k:Int)<(s.size:Int):=of_decide_eq_false hge
   omega
  subst hks
  refine⟨rfl,_,rfl,⟨fun hd=>⟨hall,?_⟩,fun hh=>decide_eq_true (by omega)⟩⟩
  have:(s.size:Int) > 0:=of_decide_eq_true hd
  omega
theorem cS_IsWord (V:Know) (s:ByteArray) (hs:s.size≤9223372036854775807):CallX Tryz.prog V 57 [.string s] (fun V' r=>V'=V∧∃ e,r=.bool e∧(e=true↔WordP s)):=by
 refine CallX.of_fits Tryz.mix (fS_IsWord _) fun _=>?_
 simp only [tS_IsWord,T.wp]
 refine(cS_l01All V s 97 122 48 57 hs).mono ?_
 rintro V1 r ⟨rfl,e,rfl,he⟩
 have hw:=word_iff (s:=s)
 refine⟨nofun,e,rfl,fun ht=>⟨fun h12=>?_,fun h12=>⟨by trivial,false,rfl,⟨(fun k=>by cases k),fun k=>?_⟩⟩⟩,fun hf=>⟨by trivial,false,rfl,⟨(fun k=>by cases k),fun k=>?_⟩⟩⟩
 ·obtain⟨g1,g2⟩:=he.1 ht
  have q:(s.size:Int)≤12:=of_decide_eq_true h12
  refine⟨⟨by omega,by omega⟩,by trivial,_,rfl,⟨fun hd=>hw.2 ⟨g1,g2,by omega,of_decide_eq_true hd⟩,fun k=>decide_eq_true (hw.1 k).2.2.2⟩⟩
 ·have q:¬ (s.size:Int)≤12:=of_decide_eq_false h12
  have:=(hw.1 k).2.2.1
  omega
 ·have:=hw.1 k
  rw [he.2 ⟨this.1,this.2.1⟩] at hf
  cases hf
theorem cS_RateOk {V:Know} (hV:HcS V) (x:DRate) (s:SlV) (f:List Nat) (h:LR rI V s x.2.2.2.1 f):CallX Tryz.prog V 47 [qv4 (x.1,x.2.1,x.2.2.1,s,x.2.2.2.2.1,())] (OkPost V (RateOkP x)):=by
 refine CallX.of_fits Tryz.mix (fS_RateOk _) fun _=>?_
 simp only [tS_RateOk,T.wp]
 obtain⟨x0,x1,x2,x3,x4,xu⟩:=x
 replace h:LR rI V s x3 f:=h
 have hn:=h.1
 refine(kS_CurKnown hV x0).mono ?_
 rintro V1 r ⟨le1,rfl⟩
 refine⟨nofun,_,rfl,fun h1=>?_,fun h1=>not_ok le1 fun k=>?_⟩
 rotate_left
 ·have:=k.1
  replace this:known x0=true:=this
  rw [this] at h1; cases h1
 refine(kS_CurKnown (hV.le le1) x1).mono ?_
 rintro V2 r ⟨le2,rfl⟩
 have l2:=le1.trans le2
 refine⟨nofun,_,rfl,fun h2=>⟨fun h3=>?_,fun h3=>not_ok l2 fun k=>?_⟩,fun h2=>not_ok l2 fun k=>?_⟩
 rotate_left
 ·have:(x0.toList == x1.toList)=true:=by simpa using h3
  exact k.2.2.1 (text_eq.1 this)
 ·have:=k.2.1
  replace this:known x1=true:=this
  rw [this] at h2; cases h2
 have hne:x0≠x1:=fun e=>by
  subst e
  simp at h3
 refine(cS_DecOk V2 x2 s x4 x3 f (h.le l2)).mono ?_
 rintro V3 r ⟨rfl,e,rfl,he⟩
 refine⟨nofun,e,rfl,fun h4=>?_,fun h4=>not_ok l2 fun k=>?_⟩
 rotate_left
 ·rw [he.2 k.2.2.2.1] at h4; cases h4
 have hd:=he.1 h4
 refine(cS_IntSign V3 x2 s x3 f (h.le l2) hd.1).mono ?_
 rintro V4 r ⟨rfl,rfl⟩
 refine⟨nofun,_,rfl,fun h5=>⟨l2,_,rfl,?_⟩,fun h5=>not_ok l2 fun k=>?_⟩
 ·have hp:=sgn_pos.1 (of_decide_eq_true h5:sgn (sval x2 x3) > 0)
  refine⟨fun hd2=>⟨h1,h2,hne,hd,hp,?_⟩,fun k=>?_⟩
  ·have:(s.n:Int)≤2:=of_decide_eq_true hd2
   show x3.length≤2
   omega
  ·have:=k.2.2.2.2.2
   replace this:x3.length≤2:=this
   exact decide_eq_true (by omega)
 ·have q:¬ sgn (sval x2 x3) > 0:=of_decide_eq_false h5
  exact q (sgn_pos.2 k.2.2.2.2.1)
theorem cI_RateOk {V:Know} (hV:HcI V) (x:DRate) (s:SlV) (f:List Nat) (h:LR rI V s x.2.2.2.1 f):CallX Tryz.prog V 114 [qv4 (x.1,x.2.1,x.2.2.1,s,x.2.2.2.2.1,())] (OkPost V (RateOkP x)):=by
 refine CallX.of_fits Tryz.mix (fI_RateOk _) fun _=>?_
 simp only [tI_RateOk,T.wp]
 obtain⟨x0,x1,x2,x3,x4,xu⟩:=x
 replace h:LR rI V s x3 f:=h
 have hn:=h.1
 refine(kI_CurKnown hV x0).mono ?_
 rintro V1 r ⟨le1,rfl⟩
 refine⟨nofun,_,rfl,fun h1=>?_,fun h1=>not_ok le1 fun k=>?_⟩
 rotate_left
 ·have:=k.1
  replace this:known x0=true:=this
  rw [this] at h1; cases h1
 refine(kI_CurKnown (hV.le le1) x1).mono ?_
 rintro V2 r ⟨le2,rfl⟩
 have l2:=le1.trans le2
 refine⟨nofun,_,rfl,fun h2=>⟨fun h3=>?_,fun h3=>not_ok l2 fun k=>?_⟩,fun h2=>not_ok l2 fun k=>?_⟩
 rotate_left
 ·have:(x0.toList == x1.toList)=true:=by simpa using h3
  exact k.2.2.1 (text_eq.1 this)
 ·have:=k.2.1
  replace this:known x1=true:=this
  rw [this] at h2; cases h2
 have hne:x0≠x1:=fun e=>by
  subst e
  simp at h3
 refine(cI_DecOk V2 x2 s x4 x3 f (h.le l2)).mono ?_
 rintro V3 r ⟨rfl,e,rfl,he⟩
 refine⟨nofun,e,rfl,fun h4=>?_,fun h4=>not_ok l2 fun k=>?_⟩
 rotate_left
 ·rw [he.2 k.2.2.2.1] at h4; cases h4
 have hd:=he.1 h4
 refine(cI_intSign V3 x2 s x3 f (h.le l2) hd.1.1.1).mono ?_
 rintro V4 r ⟨rfl,rfl⟩
 refine⟨nofun,_,rfl,fun h5=>⟨l2,_,rfl,?_⟩,fun h5=>not_ok l2 fun k=>?_⟩
 ·have hp:=sgn_pos.1 (of_decide_eq_true h5:sgn (sval x2 x3) > 0)
  refine⟨fun hd2=>⟨h1,h2,hne,hd,hp,?_⟩,fun k=>?_⟩
  ·have:(s.n:Int)≤2:=of_decide_eq_true hd2
   show x3.length≤2
   omega
  ·have:=k.2.2.2.2.2
   replace this:x3.length≤2:=this
   exact decide_eq_true (by omega)
 ·have q:¬ sgn (sval x2 x3) > 0:=of_decide_eq_false h5
  exact q (sgn_pos.2 k.2.2.2.2.1)
end Go.Proofs.YtpkmhkbkohppiaaGreatDoor
