/-
  Shares of a whole number by weights: the walk in the reference.
-/
import Derived.Test.YtfiakghfncempaaGreatDoorCuB
import Derived.Test.YtfiakghfncempaaGreatDoorCopy
namespace Go.Proofs.YtfiakghfncempaaGreatDoor
open Sx
set_option maxRecDepth 100000
end Go.Proofs.YtfiakghfncempaaGreatDoor
namespace Go.Proofs.YtfiakghfncempaaGreatDoor
open Sx
set_option maxRecDepth 100000
end Go.Proofs.YtfiakghfncempaaGreatDoor
namespace Go.Proofs.YtfiakghfncempaaGreatDoor
open Sx
set_option maxRecDepth 100000
theorem cS_RatZero (V:Know):CallX Tryz.prog V 161 [] (fun V' r=>V.le V'∧∃ c g,r=qv1 c∧rRat.R V' c nought g∧∀ y∈g,V y=none):=by
 refine CallX.of_fits Tryz.mix fS_RatZero fun _=>?_
 simp only [tS_RatZero,T.wp]
 intro b1 c1 sp hb1 hc1 _
 refine⟨kset_le hb1,(false,⟨none,0,0⟩,⟨some ⟨b1,0,none⟩,1,c1⟩,()),_,rfl,rat_mk lr_nil (one_limb hb1 hc1),fun y hy=>?_⟩
 obtain rfl:y=b1:=by simpa using hy
 exact hb1
end Go.Proofs.YtfiakghfncempaaGreatDoor
namespace Go.Proofs.YtfiakghfncempaaGreatDoor
open Sx
set_option maxRecDepth 100000
theorem len30 {l:List Lim} (hc:Can l) (h:valN l≤30):l.length≤1:=by
 have c30:Can [((30:Int),())]:=⟨lims_one (by decide),.inr (by decide)⟩
 have v30:valN [((30:Int),())]=30:=by decide
 have:=can_len c30 hc (by rw [v30]; exact h)
 simpa using this
theorem els_rows {V:Know} {sh:List Sc} {α:Type} {r:Rp sh α}:∀ (P:List (Scs sh)) (Q:Nat→α→Prop),(∀ j c,P[j]?=some c→∃ x f,r.R V c x f∧Q j x)→∃ out fps,Els r V P out fps∧out.length=P.length∧∀ j,(h:j<out.length)→Q j out[j]
 | [],Q,_=>⟨[],[],rfl,rfl,fun j h=>absurd h (Nat.not_lt_zero j)⟩
 | c :: P,Q,h=>by
  obtain⟨x,f,hR,hQ⟩:=h 0 c rfl
  obtain⟨out,fps,hE,hl,hq⟩:=els_rows P (fun j=>Q (j+1)) fun j d hd=>h (j+1) d (by simpa using hd)
  refine⟨x :: out,f++fps,⟨f,fps,rfl,hR,hE⟩,by simp [hl],fun j hj=>?_⟩
  cases j with
  | zero=>exact hQ
  | succ j=>exact hq j (by simpa using hj)
theorem AtR.other {sh:List Sc} {U V:Know} {b b':Nat} {t:TypeId} {post:List Value} {Z:List (Scs sh)} (h:AtR U b t post Z V) (hne:b'≠b) (hb:U b'=none) (x:List Value × KTy):AtR U b t post Z (kset V b' x) :=
 ⟨h.1,fun k y hk=>by rw [kset_other (fun e=>by rw [e,hb] at hk; cases hk)]; exact h.2.1 _ _ hk,by rw [kset_other (fun e=>hne e.symm)]; exact h.2.2⟩
theorem LR.off {V:Know} {s:SlV} {o:List Lim} {f:List Nat} {b:Nat} (h:LR rI V s o f) (hb:b ∉ f) (x:List Value × KTy):LR rI (kset V b x) s o f:=h.loc fun y hy=>kset_other (fun e=>hb (by rw [← e]; exact hy))
def RatAt (V:Know) (b b':Nat) (c:Scs [.b,.l,.l]) (z:DRat):Prop:=∃ s1 s2 g1 g2,c=(z.1,s1,s2,())∧LR rI V s1 z.2.1 g1∧LR rI V s2 z.2.2.1 g2∧(b ∉ g1∧b' ∉ g1)∧b ∉ g2∧b' ∉ g2
theorem RatAt.le {V V':Know} {b b':Nat} {c:Scs [.b,.l,.l]} {z:DRat} (h:RatAt V b b' c z) (le:V.le V'):RatAt V' b b' c z:=by
 obtain⟨s1,s2,g1,g2,e,L1,L2,k⟩:=h
 exact⟨s1,s2,g1,g2,e,L1.le le,L2.le le,k⟩
theorem RatAt.off {V:Know} {b b':Nat} {c:Scs [.b,.l,.l]} {z:DRat} (h:RatAt V b b' c z) (x y:List Value × KTy):RatAt (kset (kset V b x) b' y) b b' c z:=by
 obtain⟨s1,s2,g1,g2,e,L1,L2,⟨k1,k2⟩,k3,k4⟩:=h
 exact⟨s1,s2,g1,g2,e,(L1.off k1 x).off k2 y,(L2.off k3 x).off k4 y,⟨k1,k2⟩,k3,k4⟩
theorem RatAt.offL {V:Know} {b b':Nat} {c:Scs [.b,.l,.l]} {z:DRat} (h:RatAt V b b' c z) (x:List Value × KTy):RatAt (kset V b x) b b' c z:=by
 obtain⟨s1,s2,g1,g2,e,L1,L2,⟨k1,k2⟩,k3,k4⟩:=h
 exact⟨s1,s2,g1,g2,e,L1.off k1 x,L2.off k3 x,⟨k1,k2⟩,k3,k4⟩
theorem RatAt.offR {V:Know} {b b':Nat} {c:Scs [.b,.l,.l]} {z:DRat} (h:RatAt V b b' c z) (x:List Value × KTy):RatAt (kset V b' x) b b' c z:=by
 obtain⟨s1,s2,g1,g2,e,L1,L2,⟨k1,k2⟩,k3,k4⟩:=h
 exact⟨s1,s2,g1,g2,e,L1.off k2 x,L2.off k4 x,⟨k1,k2⟩,k3,k4⟩
abbrev PtT:Type:=qy0
abbrev LkT:Type:=qy2
def vv (r:Nat→Int) (C:Nat→Bool) (j:Nat):Int:=if C j=true then 0 else r j
def St2 (U:Know) (b4 b5:Nat) (sp4 sp5:List Value) (c0:Bool) (a w:List Lim) (s1:SlV) (o1:List Lim) (f1:List Nat) (t:Nat) (V:Know):Prop :=
 LR rI V s1 o1 f1∧∃ (P:List PtT) (K:List LkT) (C:Nat→Bool),P.length=w.length∧K.length=w.length∧AtR (sh:=[.b,.l]) U b4 36 sp4 P V∧AtR (sh:=[.b,.l,.l]) U b5 50 sp5 K V∧Pick (rv (valN a) (smL w) w) w.length t C ∧
  (∀ j,j<w.length→∃ e s o f,P[j]?=some (e,s,())∧LR rI V s o f∧(b4 ∉ f∧b5 ∉ f)∧IntOkP e o∧sval e o=sg c0 (qv (valN a) (smL w) w j+one01 (C j))∧(C j=false→o.length≤18)) ∧
  ∀ j,j<w.length→∃ c z,K[j]?=some c∧RatAt V b4 b5 c z∧LkP (vv (rv (valN a) (smL w) w) C j) (smL w) z
def BestI (v:Nat→Int) (i:Nat) (x:Int):Prop:=(x=-1∧∀ j,j<i→v j=0)∨∃ b:Nat,x=(b:Int)∧b<i∧0<v b∧∀ j,j<i→j≠b→v j<v b∨(v j=v b∧b<j)
theorem lk_pos {B D:Int} {z:DRat} (hD:0<D) (h:LkP B D z):0<sval z.1 z.2.1↔0<B:=by
 have hd:=(can_pos h.1.2.1.1).1 h.1.2.2.1
 have e:=h.2
 constructor
 ·intro k
  have:=Int.mul_pos k hD
  rw [e] at this
  exact Int.pos_of_mul_pos_left this hd |> fun q=>q
 ·intro k
  have:=Int.mul_pos k hd
  rw [← e] at this
  exact Int.pos_of_mul_pos_left this hD |> fun q=>q
theorem lk_cmp {B B' D:Int} {z z':DRat} (hD:0<D) (h:LkP B D z) (h':LkP B' D z'):0<sval z.1 z.2.1*valN z'.2.2.1-sval z'.1 z'.2.1*valN z.2.2.1↔B'<B:=by
 have hd:=(can_pos h.1.2.1.1).1 h.1.2.2.1
 have hd':=(can_pos h'.1.2.1.1).1 h'.1.2.2.1
 have k:(sval z.1 z.2.1*valN z'.2.2.1-sval z'.1 z'.2.1*valN z.2.2.1)*D=(B-B')*(valN z.2.2.1*valN z'.2.2.1):=by
  have e1:sval z.1 z.2.1*valN z'.2.2.1*D=B*(valN z.2.2.1*valN z'.2.2.1):=by rw [Int.mul_assoc,Int.mul_comm (valN z'.2.2.1) D,← Int.mul_assoc,h.2,Int.mul_assoc]
  have e2:sval z'.1 z'.2.1*valN z.2.2.1*D=B'*(valN z.2.2.1*valN z'.2.2.1):=by rw [Int.mul_assoc,Int.mul_comm (valN z.2.2.1) D,← Int.mul_assoc,h'.2,Int.mul_assoc,Int.mul_comm (valN z'.2.2.1)]
  rw [Int.sub_mul,e1,e2,Int.sub_mul]
 have hdd:=Int.mul_pos hd hd'
 constructor
 ·intro q
  have:=Int.mul_pos q hD
  rw [k] at this
  have:=Int.pos_of_mul_pos_left this hdd
  omega
 ·intro q
  have:=Int.mul_pos (show 0<B-B' by omega) hdd
  rw [← k] at this
  exact Int.pos_of_mul_pos_left this hD
end Go.Proofs.YtfiakghfncempaaGreatDoor
