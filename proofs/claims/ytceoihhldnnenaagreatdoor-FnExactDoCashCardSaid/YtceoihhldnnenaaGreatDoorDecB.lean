/-
  Decimals: the least scale, comparison, tax rates, in the program and in the reference.
-/
import Derived.Test.YtceoihhldnnenaaGreatDoorMath
import Derived.Lib.ItoaNum
import Derived.Lib.ItoaLen
import Derived.Lib.Repeat
import Derived.Test.YtceoihhldnnenaaGreatDoorDivB
import Derived.Test.YtceoihhldnnenaaGreatDoorLedA
namespace Go.Proofs.YtceoihhldnnenaaGreatDoor
open Sx
set_option maxRecDepth 100000
def zeros (k:Nat):ByteArray:=⟨(List.replicate k 48).toArray⟩
end Go.Proofs.YtceoihhldnnenaaGreatDoor
namespace Go.Proofs.YtceoihhldnnenaaGreatDoor
open Sx
set_option maxRecDepth 100000
def ten (k:Nat):Int:=10 ^ k
abbrev DecD:Type:=Bool × List Lim × Int × Unit
structure Same10 (m:List Lim) (s:Int) (m':List Lim) (s':Int):Prop where
 eq:valN m'*ten s.toNat=valN m*ten s'.toNat
end Go.Proofs.YtceoihhldnnenaaGreatDoor
namespace Go.Proofs.YtceoihhldnnenaaGreatDoor
open Sx
set_option maxRecDepth 100000
def Goes (n:Bool) (m:List Lim) (sc s:Int) (y:List Lim):Prop:=DecOkP n m sc∧DecOkP n y s∧Same10 m sc y s
def At (n:Bool) (m:List Lim) (sc s:Int) (x:DecD) (e:Bool):Prop:=(e=true∧∃ y,x=(n,y,s,())∧Goes n m sc s y)∨(e=false∧x=(false,[],0,())∧∀ y,¬ Goes n m sc s y)
abbrev decV (n:Bool) (s:SlV) (x:Int):Value:=qv6 (n,s,x,())
theorem cS_IntMul (V:Know) (c0:Bool) (c1:SlV) (d0:Bool) (d1:SlV) (a b:List Lim) (f g:List Nat) (h:LR rI V c1 a f) (h':LR rI V d1 b g) (ha:IntOkP c0 a) (hb:IntOkP d0 b) (hl:a.length+b.length≤50) :
  CallX Tryz.prog V 87 [qv0 (c0,c1,()),qv0 (d0,d1,())] (fun V' r=>V.le V'∧∃ s o f,r=qv0 ((c0 != d0) && decide (0<o.length),s,())∧LR rI V' s o f∧Own V V' f∧Can o∧valN o=valN a*valN b):=by
 refine CallX.of_fits Tryz.mix (fS_IntMul _ _) fun _=>?_
 simp only [tS_IntMul,T.wp]
 refine(cS_IntOk V c0 c1 a f h).mono ?_
 rintro V1 r ⟨rfl,e,rfl,he⟩
 obtain rfl:e=true:=he.2 ha
 refine⟨nofun,true,rfl,(fun h=>by cases h),fun _=>(cS_IntOk V1 d0 d1 b g h').mono ?_⟩
 rintro V2 r ⟨rfl,e,rfl,he⟩
 obtain rfl:e=true:=he.2 hb
 refine⟨nofun,true,rfl,(fun h=>by cases h),fun _=>(cS_l02Mul V2 c1 d1 a b f g h h' ha.1.1.1 hb.1.1.1 (by omega) (by omega)).mono ?_⟩
 rintro V3 _ ⟨le3,s3,o,f3,rfl,L3,O3,ho,hv⟩
 have hol:=mul_len hb.1.1 ho ha.1.1.1 hv
 refine⟨fun _=>le3,s3,rfl,(cS_l04Make V3 _ s3 o f3 L3 ho (by omega)).mono ?_⟩
 rintro V4 _ ⟨le4,s4,f4,rfl,L4,O4⟩
 exact⟨fun _=>le4,_,rfl,le3.trans le4,s4,o,f4,rfl,L4,O4.pre le3,ho,hv⟩
def AtPost (V:Know) (n:Bool) (m:List Lim) (sc s:Int):Know→Value→Prop:=fun V' r=>V.le V'∧∃ (x:DecD) (t:SlV) (e:Bool) (f:List Nat),r=.tuple #[decV x.1 t x.2.2.1,.bool e]∧LR rI V' t x.2.1 f∧Own V V' f∧At n m sc s x e
theorem AtPost.split {V V':Know} {n:Bool} {m:List Lim} {sc s:Int} {r:Value} (h:AtPost V n m sc s V' r):∃ y,r=Sh.val (.t [.g [.b,.l,.i .i64],.o .b]) y:=by
 obtain⟨_,x,t,e,_,rfl,_⟩:=h
 exact⟨((x.1,t,x.2.2.1,()),e,()),rfl⟩
end Go.Proofs.YtceoihhldnnenaaGreatDoor
namespace Go.Proofs.YtceoihhldnnenaaGreatDoor
open Sx
set_option maxRecDepth 100000
theorem loadV_le {V V':Know} {a:Addr} {k:Nat} {x:List Value} (h:V.le V') (hl:loadV V a k=some x):loadV V' a k=some x:=by
 unfold loadV at hl ⊢
 split at hl
 ·rename_i cs u h1 h2
  rw [h1,h _ _ h2]
  exact hl
 ·cases hl
end Go.Proofs.YtceoihhldnnenaaGreatDoor
