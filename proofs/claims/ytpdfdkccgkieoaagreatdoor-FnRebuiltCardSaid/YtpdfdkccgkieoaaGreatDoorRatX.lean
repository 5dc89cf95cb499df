/-
  Fractions: products, quotients, decimals and amounts as fractions; in the program and in the reference.
-/
import Derived.Test.YtpdfdkccgkieoaaGreatDoorWr
import Derived.Test.YtpdfdkccgkieoaaGreatDoorTxt
import Derived.Test.YtpdfdkccgkieoaaGreatDoorLedA
import Derived.Test.YtpdfdkccgkieoaaGreatDoorTotB
namespace Go.Proofs.YtpdfdkccgkieoaaGreatDoor
open Sx
set_option maxRecDepth 100000
def ten (k:Nat):Int:=10 ^ k
abbrev DecD:Type:=Bool × List Lim × Int × Unit
structure Same10 (m:List Lim) (s:Int) (m':List Lim) (s':Int):Prop where
 eq:valN m'*ten s.toNat=valN m*ten s'.toNat
end Go.Proofs.YtpdfdkccgkieoaaGreatDoor
namespace Go.Proofs.YtpdfdkccgkieoaaGreatDoor
open Sx
set_option maxRecDepth 100000
def Goes (n:Bool) (m:List Lim) (sc s:Int) (y:List Lim):Prop:=DecOkP n m sc∧DecOkP n y s∧Same10 m sc y s
def At (n:Bool) (m:List Lim) (sc s:Int) (x:DecD) (e:Bool):Prop:=(e=true∧∃ y,x=(n,y,s,())∧Goes n m sc s y)∨(e=false∧x=(false,[],0,())∧∀ y,¬ Goes n m sc s y)
theorem lr_nil0 {V:Know}:LR rI V ⟨none,0,0⟩ [] []:=⟨rfl,Nat.le_refl _,by simp,.inl ⟨rfl,fun _=>rfl,rfl⟩⟩
abbrev decV (n:Bool) (s:SlV) (x:Int):Value:=qv3 (n,s,x,())
def AtPost (V:Know) (n:Bool) (m:List Lim) (sc s:Int):Know→Value→Prop:=fun V' r=>V.le V'∧∃ (x:DecD) (t:SlV) (e:Bool) (f:List Nat),r=.tuple #[decV x.1 t x.2.2.1,.bool e]∧LR rI V' t x.2.1 f∧Own V V' f∧At n m sc s x e
theorem AtPost.split {V V':Know} {n:Bool} {m:List Lim} {sc s:Int} {r:Value} (h:AtPost V n m sc s V' r):∃ y,r=Sh.val (.t [.g [.b,.l,.i .i64],.o .b]) y:=by
 obtain⟨_,x,t,e,_,rfl,_⟩:=h
 exact⟨((x.1,t,x.2.2.1,()),e,()),rfl⟩
end Go.Proofs.YtpdfdkccgkieoaaGreatDoor
namespace Go.Proofs.YtpdfdkccgkieoaaGreatDoor
open Sx
set_option maxRecDepth 100000
theorem loadV_le {V V':Know} {a:Addr} {k:Nat} {x:List Value} (h:V.le V') (hl:loadV V a k=some x):loadV V' a k=some x:=by
 unfold loadV at hl ⊢
 split at hl
 ·rename_i cs u h1 h2
  rw [h1,h _ _ h2]
  exact hl
 ·cases hl
end Go.Proofs.YtpdfdkccgkieoaaGreatDoor
namespace Go.Proofs.YtpdfdkccgkieoaaGreatDoor
open Sx
set_option maxRecDepth 100000
end Go.Proofs.YtpdfdkccgkieoaaGreatDoor
