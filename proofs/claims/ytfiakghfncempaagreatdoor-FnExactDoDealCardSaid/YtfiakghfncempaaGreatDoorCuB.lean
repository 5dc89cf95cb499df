/-
  Draws from bytes: codes, rates, tables of rates, amounts and modes that the reference draws.
-/
import Derived.Test.YtfiakghfncempaaGreatDoorCopy
import Derived.Test.YtfiakghfncempaaGreatDoorTotA
import Derived.Test.YtfiakghfncempaaGreatDoorMath
import Derived.Test.YtfiakghfncempaaGreatDoorWr
import Derived.Test.YtfiakghfncempaaGreatDoorTotC
import Derived.Test.YtfiakghfncempaaGreatDoorValid
import Derived.Test.YtfiakghfncempaaGreatDoorShJ
namespace Go.Proofs.YtfiakghfncempaaGreatDoor
open Sx
set_option maxRecDepth 100000
theorem kS_l20Rates:ToC Tryz.prog 189 rRates:=by
 rintro V ⟨p0,s,cu⟩ ⟨q0,l,xu⟩ f hx ht
 obtain⟨⟨ep,zp⟩,hx⟩:=hx
 replace ep:p0=q0:=ep
 subst ep
 obtain⟨f1,fr1,ef,sc,hx⟩:=hx
 subst ef
 replace sc:LR rRate _ s l f1:=sc
 replace hx:_=[]:=hx
 subst hx
 replace ht:(p0.size+(l.length+totE rRate l+0))≤1048576:=ht
 have hn:=sc.1
 refine CallX.of_fits Tryz.mix (fS_l20Rates _) fun _=>?_
 show T.wp _ _ (T.lp [.o (.o (.i .i64)),.o (.o (.s)),.o (.o (.l))] [.v (.int .i64 (0:Int)),.v (.string p0),.v (.slice none 0 0)] fun y1=>.br (decide (y1.1<(s.n:Int))) (.el s.a s.n y1.1 fun y2=>.ld false (y2.add (Int.toNat y1.1*(5:Nat))) (.g [.s,.s,.b,.l,.i .i64]) fun y3=>.rg <| litT y3.2.2.2.1 fun s5 =>
  .rq ([Value.string y3.1,.string y3.2.1,.bool y3.2.2.1,.slice s5.a s5.n s5.c,.int .i64 y3.2.2.2.2.1].length=(1:Nat)*(5:Nat)) <| .rq (one [Value.string y3.1,.string y3.2.1,.bool y3.2.2.1,.slice s5.a s5.n s5.c,.int .i64 y3.2.2.2.2.1]=true) <|
  apD y1.2.2.1 5 72 [Value.string y3.1,.string y3.2.1,.bool y3.2.2.1,.slice s5.a s5.n s5.c,.int .i64 y3.2.2.2.2.1] 1 rateTy fun y6=>.nx 0 [.v (.int .i64 (IntKind.i64.wrap (y1.1+(1:Int)))),.v (.string y1.2.1),.v (Sc.val .l y6)]) <| .ret [qv5 y1.2]) V V []
 simp only [T.wp]
 refine⟨fun y V'=>y.2.1=p0∧CopyI rRate rateTy V l y.1 y.2.2.1 V',fun y _=>((l.length:Int)-(y.1:Int)).toNat,⟨((0:Int),p0,⟨none,0,0⟩,()),rfl,rfl,CopyI.start⟩,?_⟩
 rintro⟨(i:Int),p1,s1,u⟩ V' ⟨hp,hI⟩
 replace hp:p1=p0:=hp
 subst hp
 have hI':CopyI rRate rateTy V l i s1 V':=hI
 refine⟨fun hlt=>?_,fun hge=>?_⟩
 ·have hI0:=hI'
  obtain⟨hle,k,f0,rfl,hk,_,_⟩:=hI'
  have h1:k<l.length:=by
   have:(k:Int)<(s.n:Int):=by simpa using hlt
   omega
  obtain⟨b1,o1,c1,fc,a1,l1,r1,_⟩:=(sc.le hle).at h1
  have htx:=totE_mem rRate h1
  refine⟨_,a1,(by omega:(0:Int)≤(k:Int)),(by omega:(k:Int)<(s.n:Int)),c1,l1,?_⟩
  obtain⟨c2,c3,c4,c5,c6,cv⟩:=c1
  obtain⟨⟨e0,z0⟩,r2⟩:=r1
  replace e0:c2=l[k].1:=e0
  obtain⟨⟨e1,z1⟩,r2⟩:=r2
  replace e1:c3=l[k].2.1:=e1
  obtain⟨e2,r2⟩:=r2
  replace e2:c4=l[k].2.2.1:=e2
  obtain⟨g,g2,_,hs,r2⟩:=r2
  replace hs:LR rI V' c5 l[k].2.2.2.1 g:=hs
  obtain⟨e4,_⟩:=r2
  replace e4:c6=l[k].2.2.2.2.1:=e4
  have tq:l[k].2.2.2.1.length≤1048576:=by
   have e:rRate.tot l[k]=l[k].1.size+(l[k].2.1.size+(l[k].2.2.2.1.length+totE rI l[k].2.2.2.1+0)):=rfl
   omega
  refine litT_wp hs tq fun V2 s' f2 hle2 L2 O2=>⟨rfl,rfl,?_⟩
  refine copy_end (sh:=[.s,.s,.b,.l,.i .i64]) (c:=(c2,c3,c4,s',c6,())) hI0 h1 hle2 (e:=rRate) (bytes:=72) (fx:=f2++[]) ⟨⟨e0,z0⟩,⟨e1,z1⟩,e2,f2,[],rfl,L2,e4,rfl⟩ (by simpa using O2) (by kernel_rfl) (by omega) (by omega) fun s' V3 h3=>?_
  refine⟨_,rfl,(((k+1:Nat):Int),p1,s',()),by rw [nxt h1 (by omega)]; rfl,⟨rfl,h3⟩,?_⟩
  show((l.length:Int)-((k+1:Nat):Int)).toNat<((l.length:Int)-(k:Int)).toNat
  omega
 ·have hi:¬ i<(l.length:Int):=by
   have:¬ i<(s.n:Int):=by simpa using hge
   omega
  obtain⟨hle,f3,hL,hO⟩:=hI'.fin (by omega) hi
  exact⟨hle,(p1,s1,()),f3++[],rfl,rStr.mk zp (rSl.mk hL rNil.mk),by simpa using hO⟩
end Go.Proofs.YtfiakghfncempaaGreatDoor
namespace Go.Proofs.YtfiakghfncempaaGreatDoor
open Sx
set_option maxRecDepth 100000
end Go.Proofs.YtfiakghfncempaaGreatDoor
namespace Go.Proofs.YtfiakghfncempaaGreatDoor
open Sx
set_option maxRecDepth 100000
abbrev tyC:TypeId:=94
def rIu {sh:List Sc} {α:Type} (r:Rp sh α):Rp (.i .u8 :: sh) (Int × α) where
 R V c x fp:=c.1=x.1∧r.R V c.2 x.2 fp
 tot x:=r.tot x.2
 loc h hb:=⟨h.1,r.loc h.2 hb⟩
 kn h:=r.kn h.2
abbrev rBy:Rp [.i .u8] (Int × Unit):=rIu rNil
abbrev cuCells (s:SlV) (i h:Int):List Value:=[Sc.val .l s,.int .i64 i,.int .i64 h]
def Cx (V0:Know) (b:Nat) (s:SlV) (V:Know):Prop:=V0.le V∧V0 b=none∧(∃ i h:Int,0≤i∧V b=some (cuCells s i h,(tyC,(0,0))))∧∃ l f,LR rBy V0 s l f
def Dx (V0:Know) (b:Nat) (s:SlV) (V V':Know):Prop:=Cx V0 b s V'∧LeBut [b] V V'
theorem Cx.le {V0 V V':Know} {b:Nat} {s:SlV} (h:Cx V0 b s V) (le:V.le V'):Cx V0 b s V':=by
 obtain⟨h1,h2,⟨i,k,hi,hb⟩,h3⟩:=h
 exact⟨h1.trans le,h2,⟨i,k,hi,le _ _ hb⟩,h3⟩
theorem Dx.trans {V0 V V1 V2:Know} {b:Nat} {s:SlV} (h:Dx V0 b s V V1) (k:Dx V0 b s V1 V2):Dx V0 b s V V2:=⟨k.1,h.2.trans k.2⟩
theorem Cx.some {V0 V:Know} {b:Nat} {s:SlV} (h:Cx V0 b s V) {b1:Nat} (k:V b1=none):b1≠b:=by
 rintro rfl
 obtain⟨_,_,⟨i,k',_,hb⟩,_⟩:=h
 rw [hb] at k; cases k
end Go.Proofs.YtfiakghfncempaaGreatDoor
namespace Go.Proofs.YtfiakghfncempaaGreatDoor
open Sx
set_option maxRecDepth 100000
end Go.Proofs.YtfiakghfncempaaGreatDoor
