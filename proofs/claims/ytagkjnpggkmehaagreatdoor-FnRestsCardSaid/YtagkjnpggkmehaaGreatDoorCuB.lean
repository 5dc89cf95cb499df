/-
  Draws from bytes: codes, rates, tables of rates, amounts and modes that the reference draws.
-/
import Derived.Test.YtagkjnpggkmehaaGreatDoorRatX
import Derived.Test.YtagkjnpggkmehaaGreatDoorTxt
namespace Go.Proofs.YtagkjnpggkmehaaGreatDoor
open Sx
set_option maxRecDepth 100000
theorem gcd_cross {N D N' D' p q:Int} (hN:0≤N) (hD:0<D) (hN':0≤N') (hD':0<D') (h:N*D'=N'*D) (hp:p*(Int.gcd N D:Int)=N) (hq:q*(Int.gcd N D:Int)=D) :
  p*(Int.gcd N' D':Int)=N'∧q*(Int.gcd N' D':Int)=D':=by
 have hg0:Int.gcd N D≠0:=fun e=>by
  have:=(Int.gcd_eq_zero_iff.1 e).2
  omega
 have hg:0<(Int.gcd N D:Int):=by omega
 generalize hgg:(Int.gcd N D:Int)=g at *
 have p0:0≤p:=by
  refine Int.le_of_not_gt fun k=>?_
  have:p*g<0:=Int.mul_neg_of_neg_of_pos k hg
  omega
 have q0:0≤q:=by
  refine Int.le_of_not_gt fun k=>?_
  have:q*g<0:=Int.mul_neg_of_neg_of_pos k hg
  omega
 have e1:p*D'=q*N':=by
  have:(p*D')*g=(q*N')*g:=by
   calc (p*D')*g=(p*g)*D':=by ac_rfl
    _=N'*(q*g):=by rw [hp,hq,h]
    _=(q*N')*g:=by ac_rfl
  exact Int.eq_of_mul_eq_mul_right (by omega) this
 have co:Int.gcd p q=1:=by
  have e:Int.gcd (p*g) (q*g)=Int.gcd p q*Int.natAbs g:=Int.gcd_mul_right _ _ _
  rw [hp,hq] at e
  have:Int.natAbs g=Int.gcd N D:=by omega
  rw [this] at e
  have:1*Int.gcd N D=Int.gcd p q*Int.gcd N D:=by omega
  exact(Nat.eq_of_mul_eq_mul_right (by omega) this).symm
 constructor
 ·have e:Int.gcd (p*N') (p*D')=Int.natAbs p*Int.gcd N' D':=Int.gcd_mul_left _ _ _
  rw [e1] at e
  have e2:Int.gcd (p*N') (q*N')=Int.gcd p q*Int.natAbs N':=Int.gcd_mul_right _ _ _
  rw [co,Nat.one_mul] at e2
  rw [e2] at e
  have:(Int.natAbs N':Int)=(Int.natAbs p:Int)*(Int.gcd N' D':Int):=by rw [e]; exact Int.natCast_mul _ _
  rw [Int.natAbs_of_nonneg p0,Int.natAbs_of_nonneg hN'] at this
  exact this.symm
 ·have e:Int.gcd (q*N') (q*D')=Int.natAbs q*Int.gcd N' D':=Int.gcd_mul_left _ _ _
  rw [← e1] at e
  have e2:Int.gcd (p*D') (q*D')=Int.gcd p q*Int.natAbs D':=Int.gcd_mul_right _ _ _
  rw [co,Nat.one_mul] at e2
  rw [e2] at e
  have:(Int.natAbs D':Int)=(Int.natAbs q:Int)*(Int.gcd N' D':Int):=by rw [e]; exact Int.natCast_mul _ _
  rw [Int.natAbs_of_nonneg q0,Int.natAbs_of_nonneg (by omega)] at this
  exact this.symm
theorem redS_cross {S D S' D':Int} {x:DRat} {e:Bool} (hD:0<D) (hD':0<D') (h:S*D'=S'*D) (hx:RedS S D x e):RedS S' D' x e:=by
 obtain⟨p,q,⟨c1,c2,h1,h2⟩,h3⟩:=hx
 have hs:((S.natAbs:Int))*D'=(S'.natAbs:Int)*D:=by
  have:=congrArg Int.natAbs h
  rw [Int.natAbs_mul,Int.natAbs_mul] at this
  have h3:=congrArg (Nat.cast (R:=Int)) this
  rw [Int.natCast_mul,Int.natCast_mul,Int.natAbs_of_nonneg (by omega:0≤D'),Int.natAbs_of_nonneg (by omega:0≤D)] at h3
  exact h3
 obtain⟨k1,k2⟩:=gcd_cross (by omega) hD (by omega) hD' hs h1 h2
 have hneg:decide (S<0)=decide (S'<0):=by
  refine decide_eq_decide.2 ⟨fun k=>?_,fun k=>?_⟩
  ·refine Int.lt_of_not_ge fun k'=>?_
   have a1:S*D'<0:=Int.mul_neg_of_neg_of_pos k hD'
   have a2:0≤S'*D:=Int.mul_nonneg k' (by omega)
   omega
  ·refine Int.lt_of_not_ge fun k'=>?_
   have a1:S'*D<0:=Int.mul_neg_of_neg_of_pos k hD
   have a2:0≤S*D':=Int.mul_nonneg k' (by omega)
   omega
 refine⟨p,q,⟨c1,c2,k1,k2⟩,?_⟩
 rw [← hneg]
 exact h3
theorem redS_len {S D:Int} {x:DRat} {e:Bool} (hD:0<D) (h:RedS S D x e) (k:Nat) (hk:0<k) (hS:(S.natAbs:Int)<1000000000 ^ k) (hDb:D<1000000000 ^ k) (hk18:k≤18):e=true∧x.2.1.length≤k∧x.2.2.1.length≤k:=by
 obtain⟨p,q,h1,h2⟩:=h
 have hg:=gcd_pos (N:=(S.natAbs:Int)) hD
 have p0:=valN_nonneg h1.1.1
 have q0:=valN_nonneg h1.2.1.1
 have bd:∀ {l:List Lim},Can l→∀ {N:Int},valN l*(Int.gcd (S.natAbs:Int) D:Int)=N→N<1000000000 ^ k→l.length≤k:=by
  intro l hl N hv hN
  by_cases kk:l.length≤k
  ·exact kk
  ·have g1:=can_ge hl (by omega)
   have g2:=pw_mono (show k≤l.length-1 by omega)
   have g3:valN l*1≤valN l*(Int.gcd (S.natAbs:Int) D:Int):=Int.mul_le_mul_of_nonneg_left (by omega) (valN_nonneg hl.1)
   omega
 have lp:=bd h1.1 h1.2.2.1 hS
 have lq:=bd h1.2.1 h1.2.2.2 hDb
 rcases h2 with ⟨_,_,c,rfl⟩ | ⟨hl,_,_⟩
 ·exact⟨c,lp,lq⟩
 ·exact absurd ⟨by omega,by omega⟩ hl
theorem redS_fits {S D:Int} {x:DRat} {e:Bool} (hD:0<D) (h:RedS S D x e) (hS:(S.natAbs:Int)<1000000000 ^ 18) (hDb:D<1000000000 ^ 18):e=true:=(redS_len hD h 18 (by omega) hS hDb (by omega)).1
theorem redS_val {S D:Int} {x:DRat} (hD:0<D) (h:RedS S D x true):sval x.1 x.2.1*D=S*valN x.2.2.1∧0<valN x.2.2.1∧(0<S→x.1=false∧0<valN x.2.1):=by
 obtain⟨p,q,h1,h2⟩:=h
 rcases h2 with ⟨_,_,_,rfl⟩ | ⟨_,c,_⟩
 ·have q0:=red_pos hD h1
  obtain⟨c1,c2,v1,v2⟩:=id h1
  refine⟨?_,q0,fun hS=>⟨decide_eq_false (by omega),(red_num hD h1).2 (by omega)⟩⟩
  show sval (decide (S<0)) p*D=S*valN q
  have e1:sval (decide (S<0)) p*(Int.gcd (S.natAbs:Int) D:Int)=S:=by
   unfold sval
   by_cases k:S<0
   ·simp only [k,decide_true,if_true]
    rw [Int.neg_mul,v1]; omega
   ·simp only [k,decide_false,Bool.false_eq_true,if_false]
    rw [v1]; omega
  calc sval (decide (S<0)) p*D=sval (decide (S<0)) p*(valN q*(Int.gcd (S.natAbs:Int) D:Int)):=by rw [v2]
   _=(sval (decide (S<0)) p*(Int.gcd (S.natAbs:Int) D:Int))*valN q:=by ac_rfl
   _=S*valN q:=by rw [e1]
 ·cases c
def awayB (m:Int) (neg:Bool) (c:Int) (odd:Bool):Bool :=
 if m=0 then false else if m=1 then true else if m=2 then neg else if m=3 then !neg else if m=4 then decide (c > 0) else if m=5 then decide (c≥0) else decide (c > 0) || (decide (c=0) && odd)
def upN (m:Int) (neg:Bool) (n d:Int):Prop:=0<n % d∧awayB m neg (sgn (n % d+n % d-d)) (decide (n / d % 2=1))=true
noncomputable def rndN (m:Int) (neg:Bool) (n d:Int):Int:=by
 classical
 exact if upN m neg n d then n / d+1 else n / d
def RndP (m:Int) (x:DRat) (e:Bool) (q:List Lim):Prop:=Can q∧valN q=rndN m x.1 (valN x.2.1) (valN x.2.2.1)∧e=(x.1 && decide (0<q.length))
def LeftP (x:DRat) (e:Bool) (q:List Lim) (y:DRat):Prop:=RedS (sval x.1 x.2.1-sval e q*valN x.2.2.1) (valN x.2.2.1) y true
def OutP (to:ByteArray) (m:Int) (x:DRat) (mo:DMoney) (ra:DRat) (ok:Bool):Prop :=
 ∃ e q,RndP m x e q∧((q.length≤4∧ok=true∧mo=(to,e,q,())∧LeftP x e q ra)∨(¬ q.length≤4∧ok=false∧mo=(ByteArray.empty,false,[],())∧ra=(false,[],[],())))
end Go.Proofs.YtagkjnpggkmehaaGreatDoor
namespace Go.Proofs.YtagkjnpggkmehaaGreatDoor
open Sx
set_option maxRecDepth 100000
end Go.Proofs.YtagkjnpggkmehaaGreatDoor
namespace Go.Proofs.YtagkjnpggkmehaaGreatDoor
open Sx
set_option maxRecDepth 100000
theorem one_limb {V:Know} {b cp:Nat} {sp:List Value} (hb:V b=none) (hc:1≤cp):LR rI (kset V b ([.int .i64 1]++sp,(3,(0,0)))) ⟨some ⟨b,0,none⟩,1,cp⟩ [((1:Int),())] [b] :=
 (newI (V:=V) (b:=b) (cap:=cp) (o:=[((1:Int),())]) (spare:=sp) (t:=3) hb hc (by decide)).1
theorem neg_ok {d:Bool} {m e:List Lim} (h:RatOkP d m e):RatOkP (!d && decide (0<m.length)) m e∧sval (!d && decide (0<m.length)) m=-sval d m:=by
 obtain⟨k1,k2⟩:=made_ok (q:=!d) h.1.1.1 (by have:=h.2.2.2.2.1; omega)
 refine⟨⟨k1,h.2⟩,?_⟩
 rw [k2]
 unfold sval
 cases d <;> simp
theorem rI_ratNeg (V:Know) (d:Bool) (s s':SlV) (m e:List Lim) (f f':List Nat) (h:LR rI V s m f) (h':LR rI V s' e f') (lm:m.length≤50) (le:e.length≤50) :
  CallX Tryz.prog V 45 [qv0 (d,s,s',())] (fun V' r=>V.le V'∧∃ t t' g g',r=qv0 (!d && decide (0<m.length),t,t',())∧LR rI V' t m g∧LR rI V' t' e g'∧Own V V' (g++(g'++[]))):=by
 refine CallX.of_fits Tryz.mix (fI_ratNeg _) fun _=>?_
 simp only [tI_ratNeg,T.wp]
 refine(cI_intNeg V d s m f h (by omega)).mono ?_
 rintro V1 _ ⟨le1,s1,f1,rfl,L1,O1⟩
 refine⟨fun _=>le1,_,rfl,(cI_natCopy V1 s' e f' (h'.le le1) (by omega)).mono ?_⟩
 rintro V2 _ ⟨le2,s2,f2,rfl,L2,O2⟩
 exact⟨fun _=>le2,s2,rfl,le1.trans le2,s1,s2,f1,f2,rfl,L1.le le2,L2,Own.append O1 (Own.append O2 Own.nil le2 (Know.le.refl _)) le1 le2⟩
theorem known_len {x:ByteArray} (h:known x=true):x.size≤9223372036854775807:=by
 unfold known curFrom at h
 cases hf:(curI.drop 0).find? (curHas x) with
 | none=>rw [hf] at h; cases h
 | some r =>
  have h1:=List.find?_some hf
  have h2:=List.mem_of_find?_eq_some hf
  have h3:∀ r∈curI,r.1.size≤9223372036854775807:=by decide +kernel
  have e:r.1=x:=text_eq.1 h1
  rw [← e]
  exact h3 r (by simpa using h2)
abbrev nought:DRat:=(false,[],[((1:Int),())],())
theorem nought_ok:RatOkP nought.1 nought.2.1 nought.2.2.1:=zero_ok
end Go.Proofs.YtagkjnpggkmehaaGreatDoor
namespace Go.Proofs.YtagkjnpggkmehaaGreatDoor
open Sx
set_option maxRecDepth 100000
theorem cS_strLit {V0 V:Know} {b:Nat} {s:SlV} (hc:Cx V0 b s V) (ns:List ByteArray) (hn:0<ns.length) (hz:∀ n∈ns,n.size≤9223372036854775807) (hl:ns.length≤9223372036854775807) {b1 c1:Nat} {sp:List Value} {u:KTy} (hb1:V b1=none) (hc1:ns.length≤c1) :
  CallX Tryz.prog (kset V b1 (ns.map Value.string++sp,u)) 174 [.pointer (some ⟨b,0,none⟩),.slice (some ⟨b1,0,none⟩) ns.length c1] (fun V' r=>Dx V0 b s V V'∧∃ n∈ns,r=.string n):=by
 have le1:=kset_le (x:=(ns.map Value.string++sp,u)) hb1
 have hL:LR rNs (kset V b1 (ns.map Value.string++sp,u)) ⟨some ⟨b1,0,none⟩,ns.length,c1⟩ (ns.map fun n=>(n,())) [b1]:=lr_lit (fps:=[]) (post:=sp) (t:=u) (els_ns hz) (by rw [vals_ns]; exact kset_same) (by simp) (by simpa using hc1) (by simpa using hl)
 refine(cS_l01Str (hc.le le1) ⟨_,_,_⟩ _ [b1] hL (by simpa using fun e=>hc.some hb1 e.symm) (by simpa using hn)).mono ?_
 rintro V' _ ⟨d,x,hx,rfl⟩
 obtain⟨n,hn,rfl⟩:=List.mem_map.1 hx
 exact⟨(hc.dx le1).trans d,n,hn,rfl⟩
abbrev codes7:List ByteArray:=[⟨#[67,72,70]⟩,⟨#[69,85,82]⟩,⟨#[85,83,68]⟩,⟨#[74,80,89]⟩,⟨#[75,87,68]⟩,⟨#[72,85,70]⟩,⟨#[67,76,70]⟩]
theorem cS_l08Cur {V0 V:Know} {b:Nat} {s:SlV} (hc:Cx V0 b s V):CallX Tryz.prog V 99 [.pointer (some ⟨b,0,none⟩)] (fun V' r=>Dx V0 b s V V'∧∃ n,r=.string n∧known n=true):=by
 refine CallX.of_fits Tryz.mix (fS_l08Cur _) fun _=>?_
 simp only [tS_l08Cur,T.wp]
 intro b1 c1 sp hb1 hc1 _
 refine(cS_strLit hc codes7 (by decide) (by decide) (by decide) hb1 hc1).mono ?_
 rintro V1 _ ⟨d,n,hn,rfl⟩
 have hk:∀ n∈codes7,known n=true:=by decide +kernel
 exact⟨nofun,n,rfl,d,n,rfl,hk n hn⟩
def mask (b:Nat) (V:Know):Know:=fun k=>if k=b then none else V k
theorem mask_le (b:Nat) (V:Know):(mask b V).le V:=fun k x h=>by
 unfold mask at h
 split at h
 ·cases h
 ·exact h
theorem own_off {V0 V V1:Know} {b:Nat} {s:SlV} {f:List Nat} (hc:Cx V0 b s V) (O:Own V V1 f):∀ y∈f,y ∉ [b]:=fun y hy k=>by
 obtain rfl:y=b:=by simpa using k
 exact hc.some (O.2.1 y hy) rfl
end Go.Proofs.YtagkjnpggkmehaaGreatDoor
