/-
  Whole numbers as fractions, the sum of a book, the remainder and the total of a currency; the program and the reference.
-/
import Derived.Test.YtfiakghfncempaaGreatDoorDivE
import Derived.Test.YtfiakghfncempaaGreatDoorStr
import Derived.Test.YtfiakghfncempaaGreatDoorValid
import Derived.Test.YtfiakghfncempaaGreatDoorDecM
namespace Go.Proofs.YtfiakghfncempaaGreatDoor
open Sx
set_option maxRecDepth 100000
def AlikeP (x y:DMoney):Prop:=MoneyOkP x.1 x.2.1 x.2.2.1∧MoneyOkP y.1 y.2.1 y.2.2.1∧x.1=y.1
theorem cS_l09Both {V:Know} (c d:Scs [.s,.b,.l]) (x y:DMoney) (f g:List Nat) (hx:rMoney.R V c x f) (hy:rMoney.R V d y g):CallX Tryz.prog V 224 [qv2 c,qv2 d] (fun V' r=>V.le V'∧∃ e,r=.bool e∧(e=true↔AlikeP x y)):=by
 obtain⟨c0,c1,c2,cu⟩:=c
 obtain⟨d0,d1,d2,du⟩:=d
 obtain⟨x0,x1,x2,xu⟩:=x
 obtain⟨y0,y1,y2,yu⟩:=y
 obtain⟨⟨ec0,zc0⟩,hx⟩:=hx
 replace ec0:c0=x0:=ec0
 subst ec0
 replace zc0:c0.size≤9223372036854775807:=zc0
 obtain⟨ec1,hx⟩:=hx
 replace ec1:c1=x1:=ec1
 subst ec1
 obtain⟨ff2,ffr2,ec2,sc2,hx⟩:=hx
 subst ec2
 replace sc2:LR rI _ c2 x2 ff2:=sc2
 replace hx:_=[]:=hx
 subst hx
 obtain⟨⟨ed0,zd0⟩,hy⟩:=hy
 replace ed0:d0=y0:=ed0
 subst ed0
 replace zd0:d0.size≤9223372036854775807:=zd0
 obtain⟨ed1,hy⟩:=hy
 replace ed1:d1=y1:=ed1
 subst ed1
 obtain⟨gg2,ggr2,ed2,sd2,hy⟩:=hy
 subst ed2
 replace sd2:LR rI _ d2 y2 gg2:=sd2
 replace hy:_=[]:=hy
 subst hy
 refine CallX.of_fits Tryz.mix (fS_l09Both _ _) fun _=>?_
 simp only [tS_l09Both,T.wp]
 refine(cS_MoneyOk c0 c1 c2 x2 _ sc2).mono ?_
 rintro V1 r ⟨hle,e,rfl,he⟩
 refine⟨nofun,e,rfl,fun ht=>?_,fun hf=>⟨hle,false,rfl,⟨(fun h=>by cases h),(fun k=>by rw [he.2 k.1] at hf; cases hf)⟩⟩⟩
 refine(cS_MoneyOk d0 d1 d2 y2 _ (sd2.le hle)).mono ?_
 rintro V2 r ⟨hle2,e2,rfl,he2⟩
 refine⟨nofun,e2,rfl,fun ht2=>⟨hle.trans hle2,_,rfl,⟨fun hd=>⟨he.1 ht,he2.1 ht2,text_eq.1 hd⟩,fun k=>text_eq.2 k.2.2⟩⟩,fun hf=>⟨hle.trans hle2,false,rfl,⟨(fun h=>by cases h),(fun k=>by rw [he2.2 k.2.1] at hf; cases hf)⟩⟩⟩
theorem cI_alike {V:Know} (hV:hasCur V) (c d:Scs [.s,.b,.l]) (x y:DMoney) (f g:List Nat) (hx:rMoney.R V c x f) (hy:rMoney.R V d y g):CallX Tryz.prog V 51 [qv2 c,qv2 d] (fun V' r=>V.le V'∧∃ e,r=.bool e∧(e=true↔AlikeP x y)):=by
 obtain⟨c0,c1,c2,cu⟩:=c
 obtain⟨d0,d1,d2,du⟩:=d
 obtain⟨x0,x1,x2,xu⟩:=x
 obtain⟨y0,y1,y2,yu⟩:=y
 obtain⟨⟨ec0,zc0⟩,hx⟩:=hx
 replace ec0:c0=x0:=ec0
 subst ec0
 replace zc0:c0.size≤9223372036854775807:=zc0
 obtain⟨ec1,hx⟩:=hx
 replace ec1:c1=x1:=ec1
 subst ec1
 obtain⟨ff2,ffr2,ec2,sc2,hx⟩:=hx
 subst ec2
 replace sc2:LR rI _ c2 x2 ff2:=sc2
 replace hx:_=[]:=hx
 subst hx
 obtain⟨⟨ed0,zd0⟩,hy⟩:=hy
 replace ed0:d0=y0:=ed0
 subst ed0
 replace zd0:d0.size≤9223372036854775807:=zd0
 obtain⟨ed1,hy⟩:=hy
 replace ed1:d1=y1:=ed1
 subst ed1
 obtain⟨gg2,ggr2,ed2,sd2,hy⟩:=hy
 subst ed2
 replace sd2:LR rI _ d2 y2 gg2:=sd2
 replace hy:_=[]:=hy
 subst hy
 refine CallX.of_fits Tryz.mix (fI_alike _ _) fun _=>?_
 simp only [tI_alike,T.wp]
 refine(cI_MoneyOk hV c0 c1 c2 x2 _ sc2).mono ?_
 rintro V1 r ⟨hle,e,rfl,he⟩
 refine⟨nofun,e,rfl,fun ht=>?_,fun hf=>⟨hle,false,rfl,⟨(fun h=>by cases h),(fun k=>by rw [he.2 k.1] at hf; cases hf)⟩⟩⟩
 refine(cI_MoneyOk (hV.le hle) d0 d1 d2 y2 _ (sd2.le hle)).mono ?_
 rintro V2 r ⟨hle2,e2,rfl,he2⟩
 refine⟨nofun,e2,rfl,fun ht2=>⟨hle.trans hle2,_,rfl,⟨fun hd=>⟨he.1 ht,he2.1 ht2,text_eq.1 hd⟩,fun k=>text_eq.2 k.2.2⟩⟩,fun hf=>⟨hle.trans hle2,false,rfl,⟨(fun h=>by cases h),(fun k=>by rw [he2.2 k.2.1] at hf; cases hf)⟩⟩⟩
end Go.Proofs.YtfiakghfncempaaGreatDoor
namespace Go.Proofs.YtfiakghfncempaaGreatDoor
open Sx
set_option maxRecDepth 100000
noncomputable def theOne {α:Type} [Nonempty α] (p:α→Prop):α:=Classical.epsilon p
theorem theOne_eq {α:Type} [Nonempty α] {p:α→Prop} {x:α} (h:p x) (u:∀ y,p y→y=x):theOne p=x:=u _ (Classical.epsilon_spec (p:=p) ⟨x,h⟩)
theorem int_inj {e e':Bool} {o o':List Lim} (h:IntOkP e o) (h':IntOkP e' o') (k:sval e o=sval e' o'):e=e'∧o=o':=by
 have h0:=valN_nonneg h.1.1.1
 have h0':=valN_nonneg h'.1.1.1
 have z:∀ {e:Bool} {o:List Lim},IntOkP e o→e=true→0<valN o:=fun h k=>(can_pos h.1.1).1 (h.2 k)
 unfold sval at k
 cases e <;> cases e' <;> simp only [if_true,if_false,Bool.false_eq_true] at k
 ·exact⟨rfl,can_inj h.1.1 h'.1.1 (by omega)⟩
 ·have:=z h' rfl; omega
 ·have:=z h rfl; omega
 ·exact⟨rfl,can_inj h.1.1 h'.1.1 (by omega)⟩
abbrev nilM:DMoney:=(ByteArray.empty,false,[],())
abbrev MonP (x:DMoney):Prop:=MoneyOkP x.1 x.2.1 x.2.2.1
abbrev svM (x:DMoney):Int:=sval x.2.1 x.2.2.1
def AddP (x y:DMoney) (r:DMoney × Bool):Prop :=
 (r.2=true∧AlikeP x y∧MonP r.1∧r.1.1=x.1∧svM r.1=svM x+svM y) ∨
 (r.2=false∧r.1=nilM∧¬ (AlikeP x y∧∃ z:DMoney,MonP z∧z.1=x.1∧svM z=svM x+svM y))
theorem mon_inj {x y:DMoney} (h:MonP x) (k:MonP y) (e:x.1=y.1) (s:svM x=svM y):x=y:=by
 obtain⟨x0,x1,x2,xu⟩:=x
 obtain⟨y0,y1,y2,yu⟩:=y
 obtain⟨rfl,rfl⟩:=int_inj h.2.1 k.2.1 s
 replace e:x0=y0:=e
 subst e; rfl
theorem addP_inj {x y:DMoney} {r r':DMoney × Bool} (h:AddP x y r) (h':AddP x y r'):r'=r:=by
 obtain⟨z,ok⟩:=r
 obtain⟨z',ok'⟩:=r'
 rcases h with ⟨a,b,c,d,e⟩ | ⟨a,b,c⟩ <;> rcases h' with ⟨a',b',c',d',e'⟩ | ⟨a',b',c'⟩
 ·replace a:ok=true:=a
  replace a':ok'=true:=a'
  subst a a'
  rw [show z'=z from mon_inj c' c (d'.trans d.symm) (e'.trans e.symm)]
 ·exact absurd ⟨b,z,c,d,e⟩ c'
 ·exact absurd ⟨b',z',c',d',e'⟩ c
 ·replace a:ok=false:=a
  replace a':ok'=false:=a'
  replace b:z=nilM:=b
  replace b':z'=nilM:=b'
  subst a a' b b'; rfl
noncomputable def addM (x y:DMoney):DMoney × Bool:=theOne (AddP x y)
theorem addM_eq {x y:DMoney} {r:DMoney × Bool} (h:AddP x y r):addM x y=r:=theOne_eq h fun _ k=>addP_inj h k
def fnd (n:ByteArray):List DAcct→Option Nat
 | []=>none
 | a :: l=>if a.1=n then some 0 else (fnd n l).map (·+1)
theorem fnd_some {n:ByteArray}:∀ {l:List DAcct} {i:Nat} (h:i<l.length),l[i].1=n→(∀ (j:Nat) (hj:j<l.length),j<i→l[j].1≠n)→fnd n l=some i
 | a :: l,0,_,e,_=>by
  have e:a.1=n:=e
  rw [fnd,if_pos e]
 | a :: l,i+1,h,e,hj=>by
  have h0:a.1≠n:=hj 0 (by simp) (by omega)
  rw [fnd,if_neg h0,fnd_some (l:=l) (i:=i) (by simpa using h) (by simpa using e) fun j hj' hji=>by
   have:=hj (j+1) (by simpa using hj') (by omega)
   simpa using this]
  rfl
theorem fnd_none {n:ByteArray}:∀ {l:List DAcct},(∀ (j:Nat) (hj:j<l.length),l[j].1≠n)→fnd n l=none
 | [],_=>rfl
 | a :: l,h=>by
  have h0:a.1≠n:=h 0 (by simp)
  rw [fnd,if_neg h0,fnd_none (l:=l) fun j hj=>by
   have:=h (j+1) (by simpa using hj)
   simpa using this]
  rfl
theorem fnd_at {n:ByteArray}:∀ {l:List DAcct} {i:Nat},fnd n l=some i→∃ h:i<l.length,l[i].1=n
 | a :: l,i,h=>by
  rw [fnd] at h
  split at h
  ·rename_i e
   cases h
   exact⟨by simp,e⟩
  ·cases hf:fnd n l with
   | none=>rw [hf] at h; cases h
   | some j =>
    rw [hf] at h
    cases h
    obtain⟨h1,h2⟩:=fnd_at hf
    exact⟨by simpa using h1,by simpa using h2⟩
def atN (n:ByteArray) (l:List DAcct):Int:=match fnd n l with
 | none=>-1
 | some i=>i
theorem atN_none {n:ByteArray} {l:List DAcct} (h:fnd n l=none):atN n l=-1:=by rw [atN,h]
theorem atN_some {n:ByteArray} {l:List DAcct} {i:Nat} (h:fnd n l=some i):atN n l=i:=by rw [atN,h]
open Classical in
noncomputable def postB (l:List DAcct) (n:ByteArray) (m:DMoney):List DAcct × Bool :=
 if BookOkP l then match fnd n l with
  | none=>([],false)
  | some i=>if (addM (l.getD i (n,nilM)).2 m).2=true then (l.set i ((l.getD i (n,nilM)).1,(addM (l.getD i (n,nilM)).2 m).1),true) else ([],false)
 else ([],false)
theorem postB_no {l:List DAcct} {n:ByteArray} {m:DMoney} (h:¬ BookOkP l):postB l n m=([],false):=if_neg h
theorem postB_none {l:List DAcct} {n:ByteArray} {m:DMoney} (h:fnd n l=none):postB l n m=([],false):=by
 unfold postB
 rw [h]
 simp
theorem getD_at {l:List DAcct} {i:Nat} {d:DAcct} (h:i<l.length):l.getD i d=l[i]:=by
 rw [List.getD_eq_getElem?_getD,List.getElem?_eq_getElem h]; rfl
theorem postB_some {l:List DAcct} {n:ByteArray} {m:DMoney} {i:Nat} (h:BookOkP l) (hf:fnd n l=some i) (hi:i<l.length) {z:DMoney} {ok:Bool} (ha:addM l[i].2 m=(z,ok)) :
  postB l n m=(if ok=true then l.set i (l[i].1,z) else [],ok):=by
 unfold postB
 rw [if_pos h,hf]
 show(if (addM (l.getD i (n,nilM)).2 m).2=true then (l.set i ((l.getD i (n,nilM)).1,(addM (l.getD i (n,nilM)).2 m).1),true) else ([],false))=_
 rw [getD_at hi,ha]
 cases ok <;> rfl
noncomputable def postL:List DAcct→List DAcct→Option (List DAcct)
 | l,[]=>some l
 | l,g :: gs=>match postB l g.1 g.2 with
  | (l',true)=>postL l' gs
  | (_,false)=>none
end Go.Proofs.YtfiakghfncempaaGreatDoor
namespace Go.Proofs.YtfiakghfncempaaGreatDoor
open Sx
set_option maxRecDepth 100000
theorem gcd_cross {N D N' D' p q:Int} (hN:0≤N) (hD:0<D) (hN':0≤N') (hD':0<D') (h:N*D'=N'*D) (hp:p*(Int.gcd N D:Int)=N) (hq:q*(Int.gcd N D:Int)=D) :
  p*(Int.gcd N' D':Int)=N'∧q*(Int.gcd N' D':Int)=D':=by
 have hg0:Int.gcd N D≠0:=fun e=>by
  have:=(Int.gcd_eq_zero_iff.1 e).2
  omega
 have hg:0<(Int.gcd N D:Int):=by omega
 generalize hgg:(Int.gcd N D:Int)=g at *
 have p0:0≤p:=by
  refine Int.le_of_not_gt fun k=>?_
  have:p*g<0:=Int.mul_neg_of_neg_of_pos k hg
  omega
 have q0:0≤q:=by
  refine Int.le_of_not_gt fun k=>?_
  have:q*g<0:=Int.mul_neg_of_neg_of_pos k hg
  omega
 have e1:p*D'=q*N':=by
  have:(p*D')*g=(q*N')*g:=by
   calc (p*D')*g=(p*g)*D':=by ac_rfl
    _=N'*(q*g):=by rw [hp,hq,h]
    _=(q*N')*g:=by ac_rfl
  exact Int.eq_of_mul_eq_mul_right (by omega) this
 have co:Int.gcd p q=1:=by
  have e:Int.gcd (p*g) (q*g)=Int.gcd p q*Int.natAbs g:=Int.gcd_mul_right _ _ _
  rw [hp,hq] at e
  have:Int.natAbs g=Int.gcd N D:=by omega
  rw [this] at e
  have:1*Int.gcd N D=Int.gcd p q*Int.gcd N D:=by omega
  exact(Nat.eq_of_mul_eq_mul_right (by omega) this).symm
 constructor
 ·have e:Int.gcd (p*N') (p*D')=Int.natAbs p*Int.gcd N' D':=Int.gcd_mul_left _ _ _
  rw [e1] at e
  have e2:Int.gcd (p*N') (q*N')=Int.gcd p q*Int.natAbs N':=Int.gcd_mul_right _ _ _
  rw [co,Nat.one_mul] at e2
  rw [e2] at e
  have:(Int.natAbs N':Int)=(Int.natAbs p:Int)*(Int.gcd N' D':Int):=by rw [e]; exact Int.natCast_mul _ _
  rw [Int.natAbs_of_nonneg p0,Int.natAbs_of_nonneg hN'] at this
  exact this.symm
 ·have e:Int.gcd (q*N') (q*D')=Int.natAbs q*Int.gcd N' D':=Int.gcd_mul_left _ _ _
  rw [← e1] at e
  have e2:Int.gcd (p*D') (q*D')=Int.gcd p q*Int.natAbs D':=Int.gcd_mul_right _ _ _
  rw [co,Nat.one_mul] at e2
  rw [e2] at e
  have:(Int.natAbs D':Int)=(Int.natAbs q:Int)*(Int.gcd N' D':Int):=by rw [e]; exact Int.natCast_mul _ _
  rw [Int.natAbs_of_nonneg q0,Int.natAbs_of_nonneg (by omega)] at this
  exact this.symm
theorem redS_cross {S D S' D':Int} {x:DRat} {e:Bool} (hD:0<D) (hD':0<D') (h:S*D'=S'*D) (hx:RedS S D x e):RedS S' D' x e:=by
 obtain⟨p,q,⟨c1,c2,h1,h2⟩,h3⟩:=hx
 have hs:((S.natAbs:Int))*D'=(S'.natAbs:Int)*D:=by
  have:=congrArg Int.natAbs h
  rw [Int.natAbs_mul,Int.natAbs_mul] at this
  have h3:=congrArg (Nat.cast (R:=Int)) this
  rw [Int.natCast_mul,Int.natCast_mul,Int.natAbs_of_nonneg (by omega:0≤D'),Int.natAbs_of_nonneg (by omega:0≤D)] at h3
  exact h3
 obtain⟨k1,k2⟩:=gcd_cross (by omega) hD (by omega) hD' hs h1 h2
 have hneg:decide (S<0)=decide (S'<0):=by
  refine decide_eq_decide.2 ⟨fun k=>?_,fun k=>?_⟩
  ·refine Int.lt_of_not_ge fun k'=>?_
   have a1:S*D'<0:=Int.mul_neg_of_neg_of_pos k hD'
   have a2:0≤S'*D:=Int.mul_nonneg k' (by omega)
   omega
  ·refine Int.lt_of_not_ge fun k'=>?_
   have a1:S'*D<0:=Int.mul_neg_of_neg_of_pos k hD
   have a2:0≤S*D':=Int.mul_nonneg k' (by omega)
   omega
 refine⟨p,q,⟨c1,c2,k1,k2⟩,?_⟩
 rw [← hneg]
 exact h3
theorem redS_len {S D:Int} {x:DRat} {e:Bool} (hD:0<D) (h:RedS S D x e) (k:Nat) (hk:0<k) (hS:(S.natAbs:Int)<1000000000 ^ k) (hDb:D<1000000000 ^ k) (hk18:k≤18):e=true∧x.2.1.length≤k∧x.2.2.1.length≤k:=by
 obtain⟨p,q,h1,h2⟩:=h
 have hg:=gcd_pos (N:=(S.natAbs:Int)) hD
 have p0:=valN_nonneg h1.1.1
 have q0:=valN_nonneg h1.2.1.1
 have bd:∀ {l:List Lim},Can l→∀ {N:Int},valN l*(Int.gcd (S.natAbs:Int) D:Int)=N→N<1000000000 ^ k→l.length≤k:=by
  intro l hl N hv hN
  by_cases kk:l.length≤k
  ·exact kk
  ·have g1:=can_ge hl (by omega)
   have g2:=pw_mono (show k≤l.length-1 by omega)
   have g3:valN l*1≤valN l*(Int.gcd (S.natAbs:Int) D:Int):=Int.mul_le_mul_of_nonneg_left (by omega) (valN_nonneg hl.1)
   omega
 have lp:=bd h1.1 h1.2.2.1 hS
 have lq:=bd h1.2.1 h1.2.2.2 hDb
 rcases h2 with ⟨_,_,c,rfl⟩ | ⟨hl,_,_⟩
 ·exact⟨c,lp,lq⟩
 ·exact absurd ⟨by omega,by omega⟩ hl
theorem redS_fits {S D:Int} {x:DRat} {e:Bool} (hD:0<D) (h:RedS S D x e) (hS:(S.natAbs:Int)<1000000000 ^ 18) (hDb:D<1000000000 ^ 18):e=true:=(redS_len hD h 18 (by omega) hS hDb (by omega)).1
theorem redS_val {S D:Int} {x:DRat} (hD:0<D) (h:RedS S D x true):sval x.1 x.2.1*D=S*valN x.2.2.1∧0<valN x.2.2.1∧(0<S→x.1=false∧0<valN x.2.1):=by
 obtain⟨p,q,h1,h2⟩:=h
 rcases h2 with ⟨_,_,_,rfl⟩ | ⟨_,c,_⟩
 ·have q0:=red_pos hD h1
  obtain⟨c1,c2,v1,v2⟩:=id h1
  refine⟨?_,q0,fun hS=>⟨decide_eq_false (by omega),(red_num hD h1).2 (by omega)⟩⟩
  show sval (decide (S<0)) p*D=S*valN q
  have e1:sval (decide (S<0)) p*(Int.gcd (S.natAbs:Int) D:Int)=S:=by
   unfold sval
   by_cases k:S<0
   ·simp only [k,decide_true,if_true]
    rw [Int.neg_mul,v1]; omega
   ·simp only [k,decide_false,Bool.false_eq_true,if_false]
    rw [v1]; omega
  calc sval (decide (S<0)) p*D=sval (decide (S<0)) p*(valN q*(Int.gcd (S.natAbs:Int) D:Int)):=by rw [v2]
   _=(sval (decide (S<0)) p*(Int.gcd (S.natAbs:Int) D:Int))*valN q:=by ac_rfl
   _=S*valN q:=by rw [e1]
 ·cases c
def awayB (m:Int) (neg:Bool) (c:Int) (odd:Bool):Bool :=
 if m=0 then false else if m=1 then true else if m=2 then neg else if m=3 then !neg else if m=4 then decide (c > 0) else if m=5 then decide (c≥0) else decide (c > 0) || (decide (c=0) && odd)
def upN (m:Int) (neg:Bool) (n d:Int):Prop:=0<n % d∧awayB m neg (sgn (n % d+n % d-d)) (decide (n / d % 2=1))=true
noncomputable def rndN (m:Int) (neg:Bool) (n d:Int):Int:=by
 classical
 exact if upN m neg n d then n / d+1 else n / d
theorem rnd_up {m:Int} {neg:Bool} {n d:Int} (h:upN m neg n d):rndN m neg n d=n / d+1:=by
 unfold rndN; exact if_pos h
theorem rnd_down {m:Int} {neg:Bool} {n d:Int} (h:¬ upN m neg n d):rndN m neg n d=n / d:=by
 unfold rndN; exact if_neg h
theorem rnd_cases (m:Int) (neg:Bool) (n d:Int):(rndN m neg n d=n / d+1∧0<n % d)∨rndN m neg n d=n / d:=by
 by_cases h:upN m neg n d
 ·exact .inl ⟨rnd_up h,h.1⟩
 ·exact .inr (rnd_down h)
theorem quot_mod {n d q r:Int} (h:n=q*d+r) (h0:0≤r) (h1:r<d):q=n / d∧r=n % d:=by
 have e:=Int.mul_ediv_add_emod n d
 refine quot_unique h (q':=n / d) (r':=n % d) (by rw [Int.mul_comm]; exact e.symm) ⟨h0,h1⟩ ⟨Int.emod_nonneg _ (by omega),Int.emod_lt_of_pos _ (by omega)⟩
theorem rnd_diff {m:Int} {neg:Bool} {n d:Int} (hd:0<d):-d≤n-rndN m neg n d*d∧n-rndN m neg n d*d≤d:=by
 have e:=Int.mul_ediv_add_emod n d
 have h0:=Int.emod_nonneg n (show d≠0 by omega)
 have h1:=Int.emod_lt_of_pos n hd
 have e2:n / d*d=d*(n / d):=Int.mul_comm _ _
 rcases rnd_cases m neg n d with ⟨q,_⟩ | q
 ·rw [q,Int.add_mul,Int.one_mul,e2]; omega
 ·rw [q,e2]; omega
theorem rnd_le {m:Int} {neg:Bool} {n d:Int} (hn:0≤n) (hd:0<d):rndN m neg n d≤n:=by
 have e:=Int.mul_ediv_add_emod n d
 have h0:=Int.emod_nonneg n (show d≠0 by omega)
 have hq:=Int.ediv_nonneg hn (show 0≤d by omega)
 have h2:1*(n / d)≤d*(n / d):=Int.mul_le_mul_of_nonneg_right (by omega) hq
 rcases rnd_cases m neg n d with ⟨q,hr⟩ | q <;> omega
theorem val_par {l:List Lim} (h:0<l.length):valN l % 2=limb l 0 % 2:=by
 have key:∀ i,0<i→valTo l i % 2=limb l 0 % 2:=by
  intro i
  induction i with
  | zero=>intro h; omega
  | succ k ih =>
   intro _
   show(valTo l k+limb l k*1000000000 ^ k) % 2=_
   cases k with
   | zero=>simp [valTo]
   | succ j =>
    have:=ih (by omega)
    have e:limb l (j+1)*1000000000 ^ (j+1)=2*(limb l (j+1)*(500000000*1000000000 ^ j)):=by
     rw [pw_succ]
     have:(1000000000:Int)=2*500000000:=by decide
     rw [show(1000000000:Int)*1000000000 ^ j=2*(500000000*1000000000 ^ j) by omega]
     ac_rfl
    omega
 exact key _ h
def RndP (m:Int) (x:DRat) (e:Bool) (q:List Lim):Prop:=Can q∧valN q=rndN m x.1 (valN x.2.1) (valN x.2.2.1)∧e=(x.1 && decide (0<q.length))
def LeftP (x:DRat) (e:Bool) (q:List Lim) (y:DRat):Prop:=RedS (sval x.1 x.2.1-sval e q*valN x.2.2.1) (valN x.2.2.1) y true
theorem rnd_len {m:Int} {x:DRat} {e:Bool} {q:List Lim} (hx:RatOkP x.1 x.2.1 x.2.2.1) (h:RndP m x e q):q.length≤18∧IntOkP e q∧sval e q=sval x.1 q:=by
 have hn:=valN_nonneg hx.1.1.1.1
 have hd:=(can_pos hx.2.1.1).1 hx.2.2.1
 have h1:=rnd_le (m:=m) (neg:=x.1) hn hd
 have h2:=can_len hx.1.1.1 h.1 (by rw [h.2.1]; exact h1)
 have h3:=hx.2.2.2.2.1
 obtain⟨k1,k2⟩:=made_ok (q:=x.1) h.1 (by omega)
 rw [h.2.2]
 exact⟨by omega,k1,k2⟩
theorem left_bd {m:Int} {x:DRat} {e:Bool} {q:List Lim} (hx:RatOkP x.1 x.2.1 x.2.2.1) (h:RndP m x e q):((sval x.1 x.2.1-sval e q*valN x.2.2.1).natAbs:Int)<1000000000 ^ 18∧0<valN x.2.2.1∧valN x.2.2.1<1000000000 ^ 18:=by
 have hd:=(can_pos hx.2.1.1).1 hx.2.2.1
 have hb:=(valTo_bd hx.2.1.1.1 x.2.2.1.length).2
 have e2:valTo x.2.2.1 x.2.2.1.length=valN x.2.2.1:=rfl
 have hp:=pw_mono hx.2.2.2.1
 have h1:=rnd_diff (m:=m) (neg:=x.1) (n:=valN x.2.1) hd
 rw [← h.2.1] at h1
 rw [(rnd_len hx h).2.2]
 refine⟨?_,hd,by omega⟩
 unfold sval
 split
 ·rw [Int.neg_mul]; omega
 ·omega
def OutP (to:ByteArray) (m:Int) (x:DRat) (mo:DMoney) (ra:DRat) (ok:Bool):Prop :=
 ∃ e q,RndP m x e q∧((q.length≤4∧ok=true∧mo=(to,e,q,())∧LeftP x e q ra)∨(¬ q.length≤4∧ok=false∧mo=(ByteArray.empty,false,[],())∧ra=(false,[],[],())))
end Go.Proofs.YtfiakghfncempaaGreatDoor
namespace Go.Proofs.YtfiakghfncempaaGreatDoor
open Sx
set_option maxRecDepth 100000
theorem cS_IntOf1 (V:Know):CallX Tryz.prog V 149 [.int .i64 1] (fun V' r=>V.le V'∧∃ s f,r=qv0 (false,s,())∧LR rI V' s [(1,())] f):=by
 refine CallX.of_fits Tryz.mix (fS_IntOf _) fun _=>?_
 simp only [tS_IntOf,T.wp]
 refine⟨fun h=>?_,fun _=>⟨fun h=>?_,fun _=>?_⟩⟩
 ·have:(1:Int)=-9223372036854775808:=by simp at h
  omega
 ·have:(1:Int)<0:=of_decide_eq_true h
  omega
 refine(cS_NatOf V 1 (by omega)).mono ?_
 rintro V1 _ ⟨le1,s,o,f,rfl,L,_,C,v,_⟩
 have e:o=[(1,())]:=can_inj C ⟨lims_one (by decide),.inr (by decide)⟩ (by rw [v,valN_one])
 subst e
 refine⟨nofun,s,rfl,(cS_l04Make V1 false s _ f L C (by simp)).mono ?_⟩
 rintro V2 _ ⟨le2,s2,f2,rfl,L2,_⟩
 exact⟨nofun,(false,s2,()),rfl,le1.trans le2,s2,f2,rfl,L2⟩
theorem oneI_ok:IntOkP false [((1:Int),())]:=⟨⟨⟨lims_one (by decide),.inr (by decide)⟩,by simp⟩,fun h=>by cases h⟩
theorem cS_RatInt (V:Know) (c0:Bool) (s:SlV) (n:List Lim) (f:List Nat) (h:LR rI V s n f) (hn:IntOkP c0 n):CallX Tryz.prog V 238 [qv0 (c0,s,())] (RatPost V (sval c0 n) 1):=by
 refine CallX.of_fits Tryz.mix (fS_RatInt _) fun _=>?_
 simp only [tS_RatInt,T.wp]
 refine(cS_IntOf1 V).mono ?_
 rintro V1 _ ⟨le1,s1,f1,rfl,L1⟩
 have key:CallX Tryz.prog V1 160 [qv0 (c0,s,()),qv0 (false,s1,())] (RatPost V1 (sval c0 n) 1):=by
  have hL:=h.le le1
  have hlen:=hn.1.2
  refine CallX.of_fits Tryz.mix (fS_RatMake _ _) fun _=>?_
  simp only [tS_RatMake,T.wp]
  refine(cS_IntOk V1 c0 s n f hL).mono ?_
  rintro V2 _ ⟨rfl,e,rfl,he⟩
  have he:=he.2 hn
  subst he
  refine⟨nofun,true,rfl,nofun,fun _=>(cS_IntOk V2 false s1 _ f1 L1).mono ?_⟩
  rintro V3 _ ⟨rfl,e,rfl,he⟩
  have he:=he.2 oneI_ok
  subst he
  have e:(!c0 == false)=c0:=by cases c0 <;> rfl
  refine⟨nofun,true,rfl,nofun,fun _=>?_⟩
  show CallX _ _ _ [Value.bool (!c0 == false),_,_] _
  rw [e]
  refine(cS_l05Low V3 c0 s s1 n _ f f1 hL L1 hn.1.1 oneI_ok.1.1 (by rw [valN_one]; decide) (by omega) (by simp)).mono ?_
  rintro V4 _ ⟨le4,c,x,e4,f4,rfl,R4,O4,hx⟩
  rw [valN_one] at hx
  exact⟨nofun,(c,e4,()),rfl,le4,c,x,e4,f4,rfl,R4,O4,hx⟩
 refine⟨fun _=>le1,(false,s1,()),rfl,key.mono ?_⟩
 rintro V4 _ ⟨le4,c,x,e4,f4,rfl,R4,O4,hx⟩
 exact⟨fun _=>le4,(c,e4,()),rfl,le1.trans le4,c,x,e4,f4,rfl,R4,O4.pre le1,hx⟩
theorem rat_elim {V:Know} {c:Scs [.b,.l,.l]} {x:DRat} {f:List Nat} (h:rRat.R V c x f):∃ s s' g g',c=(x.1,s,s',())∧LR rI V s x.2.1 g∧LR rI V s' x.2.2.1 g'∧f=g++(g'++[]):=by
 obtain⟨c0,c1,c2,cu⟩:=c
 obtain⟨x0,x1,x2,xu⟩:=x
 obtain⟨e0,h⟩:=h
 replace e0:c0=x0:=e0
 subst e0
 obtain⟨g,r,rfl,hs,h⟩:=h
 obtain⟨g',r',rfl,hs',h⟩:=h
 replace h:r'=[]:=h
 subst h
 exact⟨c1,c2,g,g',rfl,hs,hs',rfl⟩
end Go.Proofs.YtfiakghfncempaaGreatDoor
