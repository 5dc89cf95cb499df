/-
  Draws from bytes: codes, rates, tables of rates, amounts and modes that the reference draws.
-/
import Derived.Test.YtfiakghfncempaaGreatDoorRatX
import Derived.Test.YtfiakghfncempaaGreatDoorTxt
namespace Go.Proofs.YtfiakghfncempaaGreatDoor
open Sx
set_option maxRecDepth 100000
theorem gcd_cross {N D N' D' p q:Int} (hN:0≤N) (hD:0<D) (hN':0≤N') (hD':0<D') (h:N*D'=N'*D) (hp:p*(Int.gcd N D:Int)=N) (hq:q*(Int.gcd N D:Int)=D) :
  p*(Int.gcd N' D':Int)=N'∧q*(Int.gcd N' D':Int)=D':=by
 have hg0:Int.gcd N D≠0:=fun e=>by
  have:=(Int.gcd_eq_zero_iff.1 e).2
  omega
 have hg:0<(Int.gcd N D:Int):=by omega
 generalize hgg:(Int.gcd N D:Int)=g at *
 have p0:0≤p:=by
  refine Int.le_of_not_gt fun k=>?_
  have:p*g<0:=Int.mul_neg_of_neg_of_pos k hg
  omega
 have q0:0≤q:=by
  refine Int.le_of_not_gt fun k=>?_
  have:q*g<0:=Int.mul_neg_of_neg_of_pos k hg
  omega
 have e1:p*D'=q*N':=by
  have:(p*D')*g=(q*N')*g:=by
   calc (p*D')*g=(p*g)*D':=by ac_rfl
    _=N'*(q*g):=by rw [hp,hq,h]
    _=(q*N')*g:=by ac_rfl
  exact Int.eq_of_mul_eq_mul_right (by omega) this
 have co:Int.gcd p q=1:=by
  have e:Int.gcd (p*g) (q*g)=Int.gcd p q*Int.natAbs g:=Int.gcd_mul_right _ _ _
  rw [hp,hq] at e
  have:Int.natAbs g=Int.gcd N D:=by omega
  rw [this] at e
  have:1*Int.gcd N D=Int.gcd p q*Int.gcd N D:=by omega
  exact(Nat.eq_of_mul_eq_mul_right (by omega) this).symm
 constructor
 ·have e:Int.gcd (p*N') (p*D')=Int.natAbs p*Int.gcd N' D':=Int.gcd_mul_left _ _ _
  rw [e1] at e
  have e2:Int.gcd (p*N') (q*N')=Int.gcd p q*Int.natAbs N':=Int.gcd_mul_right _ _ _
  rw [co,Nat.one_mul] at e2
  rw [e2] at e
  have:(Int.natAbs N':Int)=(Int.natAbs p:Int)*(Int.gcd N' D':Int):=by rw [e]; exact Int.natCast_mul _ _
  rw [Int.natAbs_of_nonneg p0,Int.natAbs_of_nonneg hN'] at this
  exact this.symm
 ·have e:Int.gcd (q*N') (q*D')=Int.natAbs q*Int.gcd N' D':=Int.gcd_mul_left _ _ _
  rw [← e1] at e
  have e2:Int.gcd (p*D') (q*D')=Int.gcd p q*Int.natAbs D':=Int.gcd_mul_right _ _ _
  rw [co,Nat.one_mul] at e2
  rw [e2] at e
  have:(Int.natAbs D':Int)=(Int.natAbs q:Int)*(Int.gcd N' D':Int):=by rw [e]; exact Int.natCast_mul _ _
  rw [Int.natAbs_of_nonneg q0,Int.natAbs_of_nonneg (by omega)] at this
  exact this.symm
theorem redS_cross {S D S' D':Int} {x:DRat} {e:Bool} (hD:0<D) (hD':0<D') (h:S*D'=S'*D) (hx:RedS S D x e):RedS S' D' x e:=by
 obtain⟨p,q,⟨c1,c2,h1,h2⟩,h3⟩:=hx
 have hs:((S.natAbs:Int))*D'=(S'.natAbs:Int)*D:=by
  have:=congrArg Int.natAbs h
  rw [Int.natAbs_mul,Int.natAbs_mul] at this
  have h3:=congrArg (Nat.cast (R:=Int)) this
  rw [Int.natCast_mul,Int.natCast_mul,Int.natAbs_of_nonneg (by omega:0≤D'),Int.natAbs_of_nonneg (by omega:0≤D)] at h3
  exact h3
 obtain⟨k1,k2⟩:=gcd_cross (by omega) hD (by omega) hD' hs h1 h2
 have hneg:decide (S<0)=decide (S'<0):=by
  refine decide_eq_decide.2 ⟨fun k=>?_,fun k=>?_⟩
  ·refine Int.lt_of_not_ge fun k'=>?_
   have a1:S*D'<0:=Int.mul_neg_of_neg_of_pos k hD'
   have a2:0≤S'*D:=Int.mul_nonneg k' (by omega)
   omega
  ·refine Int.lt_of_not_ge fun k'=>?_
   have a1:S'*D<0:=Int.mul_neg_of_neg_of_pos k hD
   have a2:0≤S*D':=Int.mul_nonneg k' (by omega)
   omega
 refine⟨p,q,⟨c1,c2,k1,k2⟩,?_⟩
 rw [← hneg]
 exact h3
theorem redS_len {S D:Int} {x:DRat} {e:Bool} (hD:0<D) (h:RedS S D x e) (k:Nat) (hk:0<k) (hS:(S.natAbs:Int)<1000000000 ^ k) (hDb:D<1000000000 ^ k) (hk18:k≤18):e=true∧x.2.1.length≤k∧x.2.2.1.length≤k:=by
 obtain⟨p,q,h1,h2⟩:=h
 have hg:=gcd_pos (N:=(S.natAbs:Int)) hD
 have p0:=valN_nonneg h1.1.1
 have q0:=valN_nonneg h1.2.1.1
 have bd:∀ {l:List Lim},Can l→∀ {N:Int},valN l*(Int.gcd (S.natAbs:Int) D:Int)=N→N<1000000000 ^ k→l.length≤k:=by
  intro l hl N hv hN
  by_cases kk:l.length≤k
  ·exact kk
  ·have g1:=can_ge hl (by omega)
   have g2:=pw_mono (show k≤l.length-1 by omega)
   have g3:valN l*1≤valN l*(Int.gcd (S.natAbs:Int) D:Int):=Int.mul_le_mul_of_nonneg_left (by omega) (valN_nonneg hl.1)
   omega
 have lp:=bd h1.1 h1.2.2.1 hS
 have lq:=bd h1.2.1 h1.2.2.2 hDb
 rcases h2 with ⟨_,_,c,rfl⟩ | ⟨hl,_,_⟩
 ·exact⟨c,lp,lq⟩
 ·exact absurd ⟨by omega,by omega⟩ hl
theorem redS_fits {S D:Int} {x:DRat} {e:Bool} (hD:0<D) (h:RedS S D x e) (hS:(S.natAbs:Int)<1000000000 ^ 18) (hDb:D<1000000000 ^ 18):e=true:=(redS_len hD h 18 (by omega) hS hDb (by omega)).1
theorem redS_val {S D:Int} {x:DRat} (hD:0<D) (h:RedS S D x true):sval x.1 x.2.1*D=S*valN x.2.2.1∧0<valN x.2.2.1∧(0<S→x.1=false∧0<valN x.2.1):=by
 obtain⟨p,q,h1,h2⟩:=h
 rcases h2 with ⟨_,_,_,rfl⟩ | ⟨_,c,_⟩
 ·have q0:=red_pos hD h1
  obtain⟨c1,c2,v1,v2⟩:=id h1
  refine⟨?_,q0,fun hS=>⟨decide_eq_false (by omega),(red_num hD h1).2 (by omega)⟩⟩
  show sval (decide (S<0)) p*D=S*valN q
  have e1:sval (decide (S<0)) p*(Int.gcd (S.natAbs:Int) D:Int)=S:=by
   unfold sval
   by_cases k:S<0
   ·simp only [k,decide_true,if_true]
    rw [Int.neg_mul,v1]; omega
   ·simp only [k,decide_false,Bool.false_eq_true,if_false]
    rw [v1]; omega
  calc sval (decide (S<0)) p*D=sval (decide (S<0)) p*(valN q*(Int.gcd (S.natAbs:Int) D:Int)):=by rw [v2]
   _=(sval (decide (S<0)) p*(Int.gcd (S.natAbs:Int) D:Int))*valN q:=by ac_rfl
   _=S*valN q:=by rw [e1]
 ·cases c
def awayB (m:Int) (neg:Bool) (c:Int) (odd:Bool):Bool :=
 if m=0 then false else if m=1 then true else if m=2 then neg else if m=3 then !neg else if m=4 then decide (c > 0) else if m=5 then decide (c≥0) else decide (c > 0) || (decide (c=0) && odd)
def upN (m:Int) (neg:Bool) (n d:Int):Prop:=0<n % d∧awayB m neg (sgn (n % d+n % d-d)) (decide (n / d % 2=1))=true
noncomputable def rndN (m:Int) (neg:Bool) (n d:Int):Int:=by
 classical
 exact if upN m neg n d then n / d+1 else n / d
theorem rnd_up {m:Int} {neg:Bool} {n d:Int} (h:upN m neg n d):rndN m neg n d=n / d+1:=by
 unfold rndN; exact if_pos h
theorem rnd_down {m:Int} {neg:Bool} {n d:Int} (h:¬ upN m neg n d):rndN m neg n d=n / d:=by
 unfold rndN; exact if_neg h
theorem rnd_cases (m:Int) (neg:Bool) (n d:Int):(rndN m neg n d=n / d+1∧0<n % d)∨rndN m neg n d=n / d:=by
 by_cases h:upN m neg n d
 ·exact .inl ⟨rnd_up h,h.1⟩
 ·exact .inr (rnd_down h)
theorem rnd_nonneg {m:Int} {neg:Bool} {n d:Int} (hn:0≤n) (hd:0<d):0≤rndN m neg n d:=by
 have h:=Int.ediv_nonneg hn (show 0≤d by omega)
 rcases rnd_cases m neg n d with ⟨e,_⟩ | e <;> omega
theorem quot_mod {n d q r:Int} (h:n=q*d+r) (h0:0≤r) (h1:r<d):q=n / d∧r=n % d:=by
 have e:=Int.mul_ediv_add_emod n d
 refine quot_unique h (q':=n / d) (r':=n % d) (by rw [Int.mul_comm]; exact e.symm) ⟨h0,h1⟩ ⟨Int.emod_nonneg _ (by omega),Int.emod_lt_of_pos _ (by omega)⟩
theorem rnd_diff {m:Int} {neg:Bool} {n d:Int} (hd:0<d):-d≤n-rndN m neg n d*d∧n-rndN m neg n d*d≤d:=by
 have e:=Int.mul_ediv_add_emod n d
 have h0:=Int.emod_nonneg n (show d≠0 by omega)
 have h1:=Int.emod_lt_of_pos n hd
 have e2:n / d*d=d*(n / d):=Int.mul_comm _ _
 rcases rnd_cases m neg n d with ⟨q,_⟩ | q
 ·rw [q,Int.add_mul,Int.one_mul,e2]; omega
 ·rw [q,e2]; omega
theorem rnd_le {m:Int} {neg:Bool} {n d:Int} (hn:0≤n) (hd:0<d):rndN m neg n d≤n:=by
 have e:=Int.mul_ediv_add_emod n d
 have h0:=Int.emod_nonneg n (show d≠0 by omega)
 have hq:=Int.ediv_nonneg hn (show 0≤d by omega)
 have h2:1*(n / d)≤d*(n / d):=Int.mul_le_mul_of_nonneg_right (by omega) hq
 rcases rnd_cases m neg n d with ⟨q,hr⟩ | q <;> omega
theorem val_par {l:List Lim} (h:0<l.length):valN l % 2=limb l 0 % 2:=by
 have key:∀ i,0<i→valTo l i % 2=limb l 0 % 2:=by
  intro i
  induction i with
  | zero=>intro h; omega
  | succ k ih =>
   intro _
   show(valTo l k+limb l k*1000000000 ^ k) % 2=_
   cases k with
   | zero=>simp [valTo]
   | succ j =>
    have:=ih (by omega)
    have e:limb l (j+1)*1000000000 ^ (j+1)=2*(limb l (j+1)*(500000000*1000000000 ^ j)):=by
     rw [pw_succ]
     have:(1000000000:Int)=2*500000000:=by decide
     rw [show(1000000000:Int)*1000000000 ^ j=2*(500000000*1000000000 ^ j) by omega]
     ac_rfl
    omega
 exact key _ h
def RndP (m:Int) (x:DRat) (e:Bool) (q:List Lim):Prop:=Can q∧valN q=rndN m x.1 (valN x.2.1) (valN x.2.2.1)∧e=(x.1 && decide (0<q.length))
def LeftP (x:DRat) (e:Bool) (q:List Lim) (y:DRat):Prop:=RedS (sval x.1 x.2.1-sval e q*valN x.2.2.1) (valN x.2.2.1) y true
def OutP (to:ByteArray) (m:Int) (x:DRat) (mo:DMoney) (ra:DRat) (ok:Bool):Prop :=
 ∃ e q,RndP m x e q∧((q.length≤4∧ok=true∧mo=(to,e,q,())∧LeftP x e q ra)∨(¬ q.length≤4∧ok=false∧mo=(ByteArray.empty,false,[],())∧ra=(false,[],[],())))
end Go.Proofs.YtfiakghfncempaaGreatDoor
namespace Go.Proofs.YtfiakghfncempaaGreatDoor
open Sx
set_option maxRecDepth 100000
theorem int_red {n:Bool} {m:List Lim} (h:IntOkP n m) (hl:m.length≤18):RedS (sval n m) 1 (n,m,[((1:Int),())],()) true:=by
 have h0:=valN_nonneg h.1.1.1
 refine⟨m,[(1,())],⟨h.1.1,oneI_ok.1.1,?_,by rw [valN_one,Int.gcd_one]; rfl⟩,.inl ⟨hl,by simp,rfl,?_⟩⟩
 ·rw [Int.gcd_one,sval_abs h.1.1.1]; simp
 ·have:decide (sval n m<0)=n:=by
   unfold sval
   cases n with
   | false=>simp; omega
   | true =>
    have:=(can_pos h.1.1).1 (h.2 rfl)
    simp; omega
  rw [this]
abbrev LegPost (V:Know) (S D:Int):Know→Value→Prop:=fun V' r=>V.le V'∧∃ c x f,r=qv1 c∧rRat.R V' c x f∧Own V V' f∧RedS S D x true
theorem cI_MoneyRat {V:Know} (hV:HcI V) (c:ByteArray) (n:Bool) (s:SlV) (m:List Lim) (f:List Nat) (h:LR rI V s m f) (ok:MoneyOkP c n m) :
  CallX Tryz.prog V 21 [qv2 (c,n,s,())] (LegPost V (sval n m) 1):=by
 refine CallX.of_fits Tryz.mix (fI_MoneyRat _) fun _=>?_
 simp only [tI_MoneyRat,T.wp]
 refine(cI_MoneyOk hV c n s m f h).mono ?_
 rintro V1 r ⟨le1,e,rfl,he⟩
 obtain rfl:e=true:=he.2 ok
 have l4:=ok.2.2
 refine⟨nofun,true,rfl,nofun,fun _=>?_⟩
 have hc:CallX Tryz.prog V1 66 [qv0 (n,s,())] (fun V' r=>V1.le V'∧∃ s' f',r=qv0 (n,s',())∧LR rI V' s' m f'∧Own V1 V' f'):=by
  refine CallX.of_fits Tryz.mix (fI_intCopy _) fun _=>?_
  simp only [tI_intCopy,T.wp]
  refine(cI_natCopy V1 s m f (h.le le1) (by omega)).mono ?_
  rintro V2 _ ⟨le2,s2,f2,rfl,L2,O2⟩
  exact⟨fun _=>le2,s2,rfl,le2,s2,f2,rfl,L2,O2⟩
 refine hc.mono ?_
 rintro V2 _ ⟨le2,s2,f2,rfl,L2,O2⟩
 refine⟨nofun,(n,s2,()),rfl,fun b cp sp hb hcp _=>?_⟩
 have hc':1≤cp:=hcp
 have nw:=newI (V:=V2) (b:=b) (cap:=cp) (o:=[((1:Int),())]) (spare:=sp) (t:=3) hb hc' (by decide)
 have kl:=kset_le (x:=([((1:Int),())].map cellI++sp,((3:TypeId),((0,0):Nat × Nat)))) hb
 exact⟨(le1.trans le2).trans kl,_,_,_,rfl,rat_mk (L2.le kl) nw.1,Own.append (O2.pre le1) (Own.append nw.2 Own.nil kl (Know.le.refl _)) (le1.trans le2) kl,int_red ok.2.1 (by omega)⟩
end Go.Proofs.YtfiakghfncempaaGreatDoor
namespace Go.Proofs.YtfiakghfncempaaGreatDoor
open Sx
set_option maxRecDepth 100000
def RmP (x:Int):Prop:=0≤x∧x≤6
theorem rI_isMode (V:Know) (x:Int):CallX Tryz.prog V 261 [.int .i64 x] (fun V' r=>V'=V∧r=.bool (decide (0≤x∧x≤6))):=by
 refine CallX.of_fits Tryz.mix (fI_isMode _) fun _=>?_
 simp only [tI_isMode,T.wp]
 refine⟨fun h=>⟨by trivial,?_⟩,fun h=>⟨by trivial,?_⟩⟩
 ·have h1:=of_decide_eq_true h
  show Value.bool _=Value.bool _
  congr 1
  exact decide_eq_decide.2 (by omega)
 ·have h1:=of_decide_eq_false h
  show Value.bool _=Value.bool _
  congr 1
  exact(decide_eq_false (by omega)).symm
theorem cmpL_sgn {a b:List Lim} (ha:Can a) (hb:Can b):cmpL a b=sgn (valN a-valN b):=by
 unfold sgn
 rcases cmpL_val ha hb with ⟨c,k⟩ | ⟨c,k⟩ | ⟨c,k⟩
 ·rw [if_pos (by omega),c]
 ·rw [if_neg (by omega),if_pos (by omega),c]
 ·rw [if_neg (by omega),if_neg (by omega),c]
theorem par_odd {l:List Lim} (h:Can l):(l.length=0→decide (valN l % 2=1)=false)∧(∀ h0:0<l.length,(!((l[0]'h0).1.tmod 2 == 0))=decide (valN l % 2=1)):=by
 refine⟨fun h0=>?_,fun h0=>?_⟩
 ·rw [(can_empty h).1 h0]; rfl
 ·rw [val_par h0,limb_lt h0]
  have:=h.1 0
  rw [limb_lt h0] at this
  rw [Int.tmod_eq_emod_of_nonneg this.1]
  by_cases e:(l[0]'h0).1 % 2=0
  ·rw [e]; rfl
  ·have e1:(l[0]'h0).1 % 2=1:=by omega
   rw [e1]; rfl
theorem cI_NatEven (V:Know) (s:SlV) (l:List Lim) (f:List Nat) (h:LR rI V s l f) (hc:NatOkP l):CallX Tryz.prog V 269 [Sc.val .l s] (fun V' r=>V'=V∧r=.bool (!decide (valN l % 2=1))):=by
 refine CallX.of_fits Tryz.mix (fI_NatEven _) fun _=>?_
 simp only [tI_NatEven,T.wp]
 have hn:=h.1
 refine(cI_NatOk V s l f h).mono ?_
 rintro V1 r ⟨rfl,e,rfl,he⟩
 obtain rfl:e=true:=he.2 hc
 refine⟨nofun,true,rfl,fun _=>⟨fun hz=>⟨rfl,?_⟩,fun hz=>?_⟩,nofun⟩
 ·have:(s.n:Int)=0:=by simpa using hz
  rw [(par_odd hc.1).1 (by omega)]; rfl
 ·have h1:¬ (s.n:Int)=0:=by simpa using hz
  have h0:0<l.length:=by omega
  obtain⟨b1,o1,a1,l1⟩:=h.int h0
  refine⟨_,a1,Int.le_refl _,by omega,l[0].1,l1,by decide,rfl,?_⟩
  rw [← (par_odd hc.1).2 h0,Bool.not_not]; rfl
abbrev ModeRow:Type:=Scs [.s,.f,.s,.f,.s,.f,.s,.f,.s,.f,.s,.f,.s,.f]
def modeRow:ModeRow:=(⟨#[100,111,119,110]⟩,271,⟨#[117,112]⟩,272,⟨#[102,108,111,111,114]⟩,273,⟨#[99,101,105,108]⟩,274,⟨#[104,97,108,102,100,111,119,110]⟩,275,⟨#[104,97,108,102,117,112]⟩,276,⟨#[104,97,108,102,101,118,101,110]⟩,277,())
theorem cI_roundModes (V:Know):CallX Tryz.prog V 268 [] (fun V' r=>V'=V∧r=Sh1.val (.g [.s,.f,.s,.f,.s,.f,.s,.f,.s,.f,.s,.f,.s,.f]) modeRow):=by
 refine CallX.of_fits Tryz.mix fI_roundModes fun _=>?_
 simp only [tI_roundModes,T.wp]
 exact⟨by trivial,rfl⟩
def AwayC (V:Know) (g:Nat) (m:Int):Prop:=∀ (n:Bool) (c:Int) (o:Bool),CallX Tryz.prog V g [.bool n,.int .i64 c,.bool o] (fun V' r=>V'=V∧r=.bool (awayB m n c o))
theorem away_1 (V:Know):AwayC V 271 0:=fun n c o=>CallX.of_fits Tryz.mix (fI_roundModes_1 n c o) fun _=>by simp only [tI_roundModes_1,T.wp]; exact⟨by trivial,rfl⟩
theorem away_2 (V:Know):AwayC V 272 1:=fun n c o=>CallX.of_fits Tryz.mix (fI_roundModes_2 n c o) fun _=>by simp only [tI_roundModes_2,T.wp]; exact⟨by trivial,rfl⟩
theorem away_3 (V:Know):AwayC V 273 2:=fun n c o=>CallX.of_fits Tryz.mix (fI_roundModes_3 n c o) fun _=>by simp only [tI_roundModes_3,T.wp]; exact⟨by trivial,rfl⟩
theorem away_4 (V:Know):AwayC V 274 3:=fun n c o=>CallX.of_fits Tryz.mix (fI_roundModes_4 n c o) fun _=>by simp only [tI_roundModes_4,T.wp]; exact⟨by trivial,rfl⟩
theorem away_5 (V:Know):AwayC V 275 4:=fun n c o=>CallX.of_fits Tryz.mix (fI_roundModes_5 n c o) fun _=>by simp only [tI_roundModes_5,T.wp]; exact⟨by trivial,rfl⟩
theorem away_6 (V:Know):AwayC V 276 5:=fun n c o=>CallX.of_fits Tryz.mix (fI_roundModes_6 n c o) fun _=>by simp only [tI_roundModes_6,T.wp]; exact⟨by trivial,rfl⟩
theorem away6 {n:Bool} {c:Int} {o:Bool}:awayB 6 n c o=(decide (c > 0) || (decide (c=0) && o)):=rfl
theorem away_7 (V:Know):AwayC V 277 6:=fun n c o=>CallX.of_fits Tryz.mix (fI_roundModes_7 n c o) fun _=>by
 simp only [tI_roundModes_7,T.wp]
 rw [away6]
 refine⟨fun h=>⟨by trivial,by rw [h]; rfl⟩,fun h=>⟨fun h2=>⟨by trivial,?_⟩,fun h2=>⟨by trivial,?_⟩⟩⟩
 ·have:c=0:=by simpa using h2
  subst this; rfl
 ·have:¬ c=0:=by simpa using h2
  rw [h,decide_eq_false this]; rfl
theorem mode_row {m:Int} (hm:RmP m) (V:Know):∃ y:Scs [.s,.f],cutv (Scs.vals [.s,.f,.s,.f,.s,.f,.s,.f,.s,.f,.s,.f,.s,.f] modeRow) (m.toNat*2) 2=some (Scs.vals [.s,.f] y)∧AwayC V y.2.1 m:=by
 obtain⟨h0,h1⟩:=hm
 have:m=0∨m=1∨m=2∨m=3∨m=4∨m=5∨m=6:=by omega
 rcases this with rfl | rfl | rfl | rfl | rfl | rfl | rfl
 ·exact⟨(⟨#[100,111,119,110]⟩,271,()),rfl,away_1 V⟩
 ·exact⟨(⟨#[117,112]⟩,272,()),rfl,away_2 V⟩
 ·exact⟨(⟨#[102,108,111,111,114]⟩,273,()),rfl,away_3 V⟩
 ·exact⟨(⟨#[99,101,105,108]⟩,274,()),rfl,away_4 V⟩
 ·exact⟨(⟨#[104,97,108,102,100,111,119,110]⟩,275,()),rfl,away_5 V⟩
 ·exact⟨(⟨#[104,97,108,102,117,112]⟩,276,()),rfl,away_6 V⟩
 ·exact⟨(⟨#[104,97,108,102,101,118,101,110]⟩,277,()),rfl,away_7 V⟩
abbrev RndPost (V:Know) (m:Int) (c:Bool) (n d:List Lim):Know→Value→Prop:=fun V' r=>V.le V'∧∃ e q s f,r=qv0 (e,s,())∧LR rI V' s q f∧Own V V' f∧Can q∧valN q=rndN m c (valN n) (valN d)∧e=(c && decide (0<q.length))
theorem one_limb {V:Know} {b cp:Nat} {sp:List Value} (hb:V b=none) (hc:1≤cp):LR rI (kset V b ([.int .i64 1]++sp,(3,(0,0)))) ⟨some ⟨b,0,none⟩,1,cp⟩ [((1:Int),())] [b] :=
 (newI (V:=V) (b:=b) (cap:=cp) (o:=[((1:Int),())]) (spare:=sp) (t:=3) hb hc (by decide)).1
theorem rest_pos {r:List Lim} (h:Can r) {s:SlV} (hs:s.n=r.length):(decide ((s.n:Int) > 0)=true→0<valN r)∧(decide ((s.n:Int) > 0)=false→valN r=0):=by
 refine⟨fun k=>?_,fun k=>?_⟩
 ·have:=of_decide_eq_true k
  exact(can_pos h).1 (by omega)
 ·have:=of_decide_eq_false k
  exact(can_empty h).1 (by omega)
theorem cI_roundQuotient (V:Know) (c:Bool) (s s':SlV) (n d:List Lim) (f f':List Nat) (h:LR rI V s n f) (h':LR rI V s' d f') (hn:Can n) (hd:Can d) (ln:n.length≤40) (ld:0<d.length) (m:Int) (hm:RmP m) :
  CallX Tryz.prog V 265 [qv0 (c,s,()),Sc.val .l s',.int .i64 m] (RndPost V m c n d):=by
 refine CallX.of_fits Tryz.mix (fI_roundQuotient _ _ _) fun _=>?_
 simp only [tI_roundQuotient,T.wp]
 have dp:=(can_pos hd).1 ld
 refine(cI_natDiv V s s' n d f f' h h' hn hd (by omega) ld).mono ?_
 rintro V1 _ ⟨le1,s1,s2,q,r,f1,f2,rfl,L1,L2,O1,O2,Cq,Cr,hv,hr⟩
 have r0:=valN_nonneg Cr.1
 have q0:=valN_nonneg Cq.1
 have n0:=valN_nonneg hn.1
 obtain⟨eq1,eq2⟩:=quot_mod hv r0 hr
 have hqd:1*valN q≤valN d*valN q:=Int.mul_le_mul_of_nonneg_right (by omega) q0
 have hqd2:valN d*valN q=valN q*valN d:=Int.mul_comm _ _
 have lq:=can_len hn Cq (by omega)
 have ns2:=L2.1
 have fin:∀ V2,V1.le V2→∀ (s3:SlV) (o:List Lim) (f3:List Nat),LR rI V2 s3 o f3→Own V1 V2 f3∨(s3=s1∧o=q∧f3=f1)→Can o→valN o=rndN m c (valN n) (valN d) →
   CallX Tryz.prog V2 113 [.bool c,Sc.val .l s3] (fun V' r=>RndPost V m c n d V' r):=by
  intro V2 le2 s3 o f3 L3 hO C3 v3
  refine(cI_signed V2 c s3).mono ?_
  rintro V3 _ ⟨rfl,rfl⟩
  have hn3:=L3.1
  have ed:decide ((s3.n:Int) > 0)=decide (0<o.length):=decide_eq_decide.2 (by omega)
  refine⟨le1.trans le2,_,o,s3,f3,rfl,L3,?_,C3,v3,by rw [ed]⟩
  rcases hO with hO | ⟨rfl,rfl,rfl⟩
  ·exact hO.pre le1
  ·exact O1.post le2
 refine⟨nofun,(s1,s2,()),rfl,fun hp=>?_,fun hz=>?_⟩
 rotate_left
 ·have z:=(rest_pos Cr ns2).2 hz
  refine(fin V1 (Know.le.refl _) s1 q f1 L1 (.inr ⟨rfl,rfl,rfl⟩) Cq ?_).mono ?_
  ·rw [rnd_down,← eq1]
   rintro⟨k,_⟩
   omega
  ·rintro V2 r hR
   have hR':=hR
   obtain⟨le2,e,o,s3,f3,rfl,_⟩:=hR'
   exact⟨nofun,(e,s3,()),rfl,hR⟩
 have rp:=(rest_pos Cr ns2).1 hp
 refine(cI_roundModes V1).mono ?_
 rintro V2 _ ⟨rfl,rfl⟩
 have h17:=hm
 obtain⟨y,hy,hA⟩:=mode_row hm V2
 refine⟨fun _=>Know.le.refl _,modeRow,rfl,⟨hm.1,by have:=hm.2; omega⟩,y,hy,?_⟩
 have lr:=can_len hd Cr (by omega)
 refine(cI_natAdd V2 s2 s2 r r f2 f2 L2 L2 Cr.1 Cr.1 ?_ ?_).mono ?_
 ·have:=can_len hn Cr (by
   have e:valN n=valN q*valN d+valN r:=hv
   have:0≤valN q*valN d:=Int.mul_nonneg q0 (by omega)
   omega)
  omega
 ·have:=can_len hn Cr (by
   have e:valN n=valN q*valN d+valN r:=hv
   have:0≤valN q*valN d:=Int.mul_nonneg q0 (by omega)
   omega)
  omega
 rintro V3 _ ⟨le3,s3,o3,f3,rfl,L3,_,C3,v3,_⟩
 refine⟨fun _=>le3,s3,rfl,(cI_natCmp V3 s3 s' o3 d f3 f' L3 (h'.le (le1.trans le3))).mono ?_⟩
 rintro V4 _ ⟨rfl,rfl⟩
 refine⟨fun _=>Know.le.refl _,_,rfl,(cI_NatEven V4 s1 q f1 (L1.le le3) ⟨Cq,by omega⟩).mono ?_⟩
 rintro V5 _ ⟨rfl,rfl⟩
 obtain⟨y',hy',hA'⟩:=mode_row hm V5
 rw [hy] at hy'
 have ey:y=y':=by
  have e:=Option.some.inj hy'
  obtain⟨y1,y2,_⟩:=y
  obtain⟨z1,z2,_⟩:=y'
  have e':[Value.string y1,Value.func (.func y2) #[] #[]]=[Value.string z1,Value.func (.func z2) #[] #[]]:=e
  simp at e'
  rw [e'.1,e'.2]
 rw [← ey] at hA'
 refine⟨fun _=>Know.le.refl _,_,rfl,(hA' c _ _).mono ?_⟩
 rintro V6 _ ⟨rfl,rfl⟩
 have ecmp:cmpL o3 d=sgn (valN n % valN d+valN n % valN d-valN d):=by rw [cmpL_sgn C3 hd,v3,eq2]
 have eodd:(!(!decide (valN q % 2=1)))=decide (valN n / valN d % 2=1):=by rw [Bool.not_not,eq1]
 refine⟨fun _=>Know.le.refl _,_,rfl,fun hu=>?_,fun hu=>?_⟩
 ·rw [ecmp,eodd] at hu
  intro b cp sp hb hcp _
  have L7:=one_limb (sp:=sp) hb (show 1≤cp from hcp)
  have le7:=kset_le (x:=([Value.int .i64 1]++sp,((3:TypeId),((0,0):Nat × Nat)))) hb
  refine(cI_natAdd _ s1 ⟨some ⟨b,0,none⟩,1,cp⟩ q _ f1 [b] (L1.le (le3.trans le7)) L7 Cq.1 oneI_ok.1.1.1 (by omega) (by simp)).mono ?_
  rintro V8 _ ⟨le8,s8,o8,f8,rfl,L8,O8,C8,v8,_⟩
  have l8:=(le3.trans le7).trans le8
  refine⟨nofun,s8,rfl,(fin V8 l8 s8 o8 f8 L8 (.inl (O8.pre (le3.trans le7))) C8 ?_).mono ?_⟩
  ·rw [v8,valN_one,rnd_up ⟨by omega,hu⟩,eq1]
  ·rintro V9 r hR
   have hR':=hR
   obtain⟨_,e,o,s9,f9,rfl,_⟩:=hR'
   exact⟨nofun,(e,s9,()),rfl,hR⟩
 ·rw [ecmp,eodd] at hu
  refine(fin V6 le3 s1 q f1 (L1.le le3) (.inr ⟨rfl,rfl,rfl⟩) Cq ?_).mono ?_
  ·rw [rnd_down,← eq1]
   rintro⟨_,k⟩
   rw [k] at hu; cases hu
  ·rintro V7 r hR
   have hR':=hR
   obtain⟨_,e,o,s9,f9,rfl,_⟩:=hR'
   exact⟨nofun,(e,s9,()),rfl,hR⟩
theorem neg_ok {d:Bool} {m e:List Lim} (h:RatOkP d m e):RatOkP (!d && decide (0<m.length)) m e∧sval (!d && decide (0<m.length)) m=-sval d m:=by
 obtain⟨k1,k2⟩:=made_ok (q:=!d) h.1.1.1 (by have:=h.2.2.2.2.1; omega)
 refine⟨⟨k1,h.2⟩,?_⟩
 rw [k2]
 unfold sval
 cases d <;> simp
theorem rI_ratNeg (V:Know) (d:Bool) (s s':SlV) (m e:List Lim) (f f':List Nat) (h:LR rI V s m f) (h':LR rI V s' e f') (lm:m.length≤50) (le:e.length≤50) :
  CallX Tryz.prog V 57 [qv1 (d,s,s',())] (fun V' r=>V.le V'∧∃ t t' g g',r=qv1 (!d && decide (0<m.length),t,t',())∧LR rI V' t m g∧LR rI V' t' e g'∧Own V V' (g++(g'++[]))):=by
 refine CallX.of_fits Tryz.mix (fI_ratNeg _) fun _=>?_
 simp only [tI_ratNeg,T.wp]
 refine(cI_intNeg V d s m f h (by omega)).mono ?_
 rintro V1 _ ⟨le1,s1,f1,rfl,L1,O1⟩
 refine⟨fun _=>le1,_,rfl,(cI_natCopy V1 s' e f' (h'.le le1) (by omega)).mono ?_⟩
 rintro V2 _ ⟨le2,s2,f2,rfl,L2,O2⟩
 exact⟨fun _=>le2,s2,rfl,le1.trans le2,s1,s2,f1,f2,rfl,L1.le le2,L2,Own.append O1 (Own.append O2 Own.nil le2 (Know.le.refl _)) le1 le2⟩
theorem rI_RatSub (V:Know) (c0:Bool) (c1 c2:SlV) (d0:Bool) (d1 d2:SlV) (n d m e:List Lim) (f g f' g':List Nat) (h1:LR rI V c1 n f) (h2:LR rI V c2 d g) (h3:LR rI V d1 m f') (h4:LR rI V d2 e g') (hr:RatOkP c0 n d) (hs:RatOkP d0 m e) :
  CallX Tryz.prog V 15 [qv1 (c0,c1,c2,()),qv1 (d0,d1,d2,())] (RatPost V (sval c0 n*valN e-sval d0 m*valN d) (valN d*valN e)):=by
 refine CallX.of_fits Tryz.mix (fI_RatSub _ _) fun _=>?_
 simp only [tI_RatSub,T.wp]
 have z3:=hs.2.2.2.1
 have z4:=hs.2.2.2.2.1
 refine(cI_ratsOk V c0 c1 c2 d0 d1 d2 n d m e f g f' g' h1 h2 h3 h4 hr hs).mono ?_
 rintro V1 _ ⟨le1,rfl⟩
 refine⟨nofun,true,rfl,nofun,fun _=>(rI_ratNeg V1 d0 d1 d2 m e f' g' (h3.le le1) (h4.le le1) (by omega) (by omega)).mono ?_⟩
 rintro V2 _ ⟨le2,t,t',k,k',rfl,L2,L2',_⟩
 obtain⟨ok,es⟩:=neg_ok hs
 have l2:=le1.trans le2
 refine⟨fun _=>le2,_,rfl,(cI_RatAdd V2 c0 c1 c2 _ t t' n d m e f g k k' (h1.le l2) (h2.le l2) L2 L2' hr ok).mono ?_⟩
 rintro V3 _ ⟨le3,c4,x4,e4,f4,rfl,R4,O4,hx⟩
 rw [es,Int.neg_mul] at hx
 exact⟨fun _=>le3,(c4,e4,()),rfl,l2.trans le3,c4,x4,e4,f4,rfl,R4,O4.pre l2,hx⟩
abbrev MkPost (V:Know) (to:ByteArray) (e:Bool) (s:SlV) (q:List Lim):Know→Value→Prop:=fun V' r=>V.le V'∧((q.length≤4∧r=.tuple #[qv2 (to,e,s,()),.bool true])∨(¬ q.length≤4∧r=.tuple #[qv2 (ByteArray.empty,false,⟨none,0,0⟩,()),.bool false]))
theorem rI_moneyOf {V:Know} (hV:HcI V) (to:ByteArray) (e:Bool) (s:SlV) (q:List Lim) (f:List Nat) (h:LR rI V s q f) (k:known to=true) (ok:IntOkP e q) :
  CallX Tryz.prog V 52 [.string to,qv0 (e,s,())] (MkPost V to e s q):=by
 refine CallX.of_fits Tryz.mix (fI_moneyOf _ _) fun _=>?_
 simp only [tI_moneyOf,T.wp]
 refine(cI_MoneyOk hV to e s q f h).mono ?_
 rintro V1 _ ⟨le1,b,rfl,hb⟩
 refine⟨nofun,b,rfl,fun hy=>⟨le1,.inl ⟨(hb.1 hy).2.2,rfl⟩⟩,fun hn=>⟨le1,.inr ⟨fun kk=>?_,rfl⟩⟩⟩
 rw [hb.2 ⟨k,ok,kk⟩] at hn; cases hn
theorem known_len {x:ByteArray} (h:known x=true):x.size≤9223372036854775807:=by
 unfold known curFrom at h
 cases hf:(curI.drop 0).find? (curHas x) with
 | none=>rw [hf] at h; cases h
 | some r =>
  have h1:=List.find?_some hf
  have h2:=List.mem_of_find?_eq_some hf
  have h3:∀ r∈curI,r.1.size≤9223372036854775807:=by decide +kernel
  have e:r.1=x:=text_eq.1 h1
  rw [← e]
  exact h3 r (by simpa using h2)
abbrev nought:DRat:=(false,[],[((1:Int),())],())
theorem nought_ok:RatOkP nought.1 nought.2.1 nought.2.2.1:=zero_ok
end Go.Proofs.YtfiakghfncempaaGreatDoor
namespace Go.Proofs.YtfiakghfncempaaGreatDoor
open Sx
set_option maxRecDepth 100000
theorem cS_strLit {V0 V:Know} {b:Nat} {s:SlV} (hc:Cx V0 b s V) (ns:List ByteArray) (hn:0<ns.length) (hz:∀ n∈ns,n.size≤9223372036854775807) (hl:ns.length≤9223372036854775807) {b1 c1:Nat} {sp:List Value} {u:KTy} (hb1:V b1=none) (hc1:ns.length≤c1) :
  CallX Tryz.prog (kset V b1 (ns.map Value.string++sp,u)) 147 [.pointer (some ⟨b,0,none⟩),.slice (some ⟨b1,0,none⟩) ns.length c1] (fun V' r=>Dx V0 b s V V'∧∃ n∈ns,r=.string n):=by
 have le1:=kset_le (x:=(ns.map Value.string++sp,u)) hb1
 have hL:LR rNs (kset V b1 (ns.map Value.string++sp,u)) ⟨some ⟨b1,0,none⟩,ns.length,c1⟩ (ns.map fun n=>(n,())) [b1]:=lr_lit (fps:=[]) (post:=sp) (t:=u) (els_ns hz) (by rw [vals_ns]; exact kset_same) (by simp) (by simpa using hc1) (by simpa using hl)
 refine(cS_l01Str (hc.le le1) ⟨_,_,_⟩ _ [b1] hL (by simpa using fun e=>hc.some hb1 e.symm) (by simpa using hn)).mono ?_
 rintro V' _ ⟨d,x,hx,rfl⟩
 obtain⟨n,hn,rfl⟩:=List.mem_map.1 hx
 exact⟨(hc.dx le1).trans d,n,hn,rfl⟩
abbrev codes7:List ByteArray:=[⟨#[67,72,70]⟩,⟨#[69,85,82]⟩,⟨#[85,83,68]⟩,⟨#[74,80,89]⟩,⟨#[75,87,68]⟩,⟨#[72,85,70]⟩,⟨#[67,76,70]⟩]
abbrev codes2:List ByteArray:=[⟨#[67,72,70]⟩,⟨#[69,85,82]⟩]
abbrev codes3:List ByteArray:=[⟨#[69,85,82]⟩,⟨#[69,85,82]⟩,⟨#[85,83,68]⟩]
abbrev usd:ByteArray:=⟨#[85,83,68]⟩
theorem cS_l08Cur {V0 V:Know} {b:Nat} {s:SlV} (hc:Cx V0 b s V):CallX Tryz.prog V 98 [.pointer (some ⟨b,0,none⟩)] (fun V' r=>Dx V0 b s V V'∧∃ n,r=.string n∧known n=true):=by
 refine CallX.of_fits Tryz.mix (fS_l08Cur _) fun _=>?_
 simp only [tS_l08Cur,T.wp]
 intro b1 c1 sp hb1 hc1 _
 refine(cS_strLit hc codes7 (by decide) (by decide) (by decide) hb1 hc1).mono ?_
 rintro V1 _ ⟨d,n,hn,rfl⟩
 have hk:∀ n∈codes7,known n=true:=by decide +kernel
 exact⟨nofun,n,rfl,d,n,rfl,hk n hn⟩
def mask (b:Nat) (V:Know):Know:=fun k=>if k=b then none else V k
theorem mask_le (b:Nat) (V:Know):(mask b V).le V:=fun k x h=>by
 unfold mask at h
 split at h
 ·cases h
 ·exact h
theorem mask_but {b:Nat} {V V1 V':Know} (h1:V.le V1) (h:LeBut [b] V1 V'):(mask b V).le V':=fun k x hx=>by
 unfold mask at hx
 split at hx
 ·cases hx
 ·rename_i e
  exact h k x (by simpa using e) (h1 k x hx)
theorem cS_IntOfD (V:Know) (k:Int) (k1:0≤k) (k2:k≤1000000):CallX Tryz.prog V 149 [.int .i64 k] (fun V' r=>V.le V'∧∃ s o f,r=qv0 (false,s,())∧LR rI V' s o f∧Own V V' f∧Can o∧valN o=k∧o.length≤3):=by
 refine CallX.of_fits Tryz.mix (fS_IntOf _) fun _=>?_
 simp only [tS_IntOf,T.wp]
 refine⟨fun hb=>?_,fun _=>⟨fun hb=>?_,fun _=>(cS_NatOf V k ⟨by omega,by omega⟩).mono ?_⟩⟩
 ·have:k=-9223372036854775808:=by simpa using hb
  omega
 ·have:k<0:=of_decide_eq_true hb
  omega
 rintro V1 _ ⟨le1,s1,o1,f1,rfl,L1,_,C1,v1,n1⟩
 refine⟨nofun,s1,rfl,(cS_l04Make V1 false s1 o1 f1 L1 C1 (by omega)).mono ?_⟩
 rintro V2 _ ⟨le2,s2,f2,rfl,L2,O2⟩
 exact⟨nofun,_,rfl,le1.trans le2,s2,o1,f2,rfl,L2,O2.pre le1,C1,v1,n1⟩
theorem own_off {V0 V V1:Know} {b:Nat} {s:SlV} {f:List Nat} (hc:Cx V0 b s V) (O:Own V V1 f):∀ y∈f,y ∉ [b]:=fun y hy k=>by
 obtain rfl:y=b:=by simpa using k
 exact hc.some (O.2.1 y hy) rfl
def RateD (x:DRate):Prop:=x.2.2.1=false∧valN x.2.2.2.1≤3000∧x.2.2.2.2.1≤4∧known x.1=true∧known x.2.1=true∧x.2.2.2.1.length≤3
theorem cS_l10Draw {V0 V:Know} {b:Nat} {s:SlV} (hc:Cx V0 b s V):CallX Tryz.prog V 150 [.pointer (some ⟨b,0,none⟩)] (fun V' r=>Dx V0 b s V V'∧∃ c x f,r=qv6 c∧rRate.R V' c x f∧(∀ y∈f,y≠b)∧RateD x):=by
 refine CallX.of_fits Tryz.mix (fS_l10Draw _) fun _=>?_
 simp only [tS_l10Draw,T.wp]
 refine(cS_l08Cur hc).mono ?_
 rintro V1 _ ⟨d1,n1,rfl,k1⟩
 refine⟨nofun,n1,rfl,(cS_l08Cur d1.1).mono ?_⟩
 rintro V2 _ ⟨d2,n2,rfl,k2⟩
 refine⟨nofun,n2,rfl,?_⟩
 refine⟨fun y V'=>Dx V0 b s V V'∧known y.1=true∧known y.2.1=true,fun y _=>if y.1=y.2.1 then 1 else 0,⟨(n1,n2,()),rfl,d1.trans d2,k1,k2⟩,?_⟩
 rintro⟨(a1:ByteArray),(a2:ByteArray),u⟩ V3 ⟨d3,j1,j2⟩
 replace j1:known a1=true:=j1
 replace j2:known a2=true:=j2
 refine⟨fun he=>?_,fun _=>?_⟩
 ·have e:a1=a2:=text_eq.1 he
  intro b1 c1 sp hb1 hc1 _
  refine(cS_strLit d3.1 codes2 (by decide) (by decide) (by decide) hb1 hc1).mono ?_
  rintro V4 _ ⟨d4,n,hn,rfl⟩
  have hk:∀ n∈codes2,known n=true∧n≠usd:=by decide +kernel
  refine⟨nofun,n,rfl,_,rfl,(n,usd,()),rfl,⟨d3.trans d4,(hk n hn).1,(by decide +kernel:known usd=true)⟩,?_⟩
  show(if n=usd then 1 else 0)<(if a1=a2 then 1 else 0)
  rw [if_neg (hk n hn).2,if_pos e]
  omega
 refine(cS_l01Below d3.1 3000).mono ?_
 rintro V4 _ ⟨d4,x,rfl,x0,x1,_⟩
 have hx:=x1 (by omega)
 refine⟨nofun,x,rfl,?_⟩
 rw [wrap_i64 (by omega)]
 refine(cS_IntOfD V4 (1+x) (by omega) (by omega)).mono ?_
 rintro V5 _ ⟨le5,s5,o5,f5,rfl,L5,O5,C5,v5,n5⟩
 have d5:=(d3.trans d4).trans (d4.1.dx le5)
 refine⟨nofun,_,rfl,mask b V5,mask_le b V5,fun b6 hb6=>?_⟩
 have le6:=kset_le (x:=([Value.int .i64 0,.int .i64 1,.int .i64 2,.int .i64 3,.int .i64 4],((3:TypeId),((0,0):Nat × Nat)))) hb6
 have d6:=d5.trans (d5.1.dx le6)
 have hL:LR rI (kset V5 b6 ([Value.int .i64 0,.int .i64 1,.int .i64 2,.int .i64 3,.int .i64 4],((3:TypeId),((0,0):Nat × Nat)))) ⟨some ⟨b6,0,none⟩,5,5⟩ (([0,1,2,3,4]:List Int).map fun n=>(n,())) [b6]:=lr_lit (fps:=[]) (post:=[]) (cs:=([0,1,2,3,4]:List Int).map fun n=>(n,())) ⟨[],[],rfl,⟨rfl,rfl⟩,[],[],rfl,⟨rfl,rfl⟩,[],[],rfl,⟨rfl,rfl⟩,[],[],rfl,⟨rfl,rfl⟩,[],[],rfl,⟨rfl,rfl⟩,rfl⟩ kset_same rfl (by decide) (by decide)
 refine(cS_l01Pick d6.1 ⟨some ⟨b6,0,none⟩,5,5⟩ _ [b6] hL (by simpa using fun e=>d5.1.some hb6 e.symm) (by decide)).mono ?_
 rintro V7 _ ⟨d7,⟨n,u⟩,hn,rfl⟩
 have hk:n≤4:=by
  simp at hn
  omega
 have L7:=(L5.le le6).but (own_off d4.1 O5) d7.2
 refine⟨mask_but le6 d7.2,n,rfl,d6.trans d7,(a1,a2,false,s5,n,()),(a1,a2,false,o5,n,()),f5++[],rfl,⟨⟨rfl,known_len j1⟩,⟨rfl,known_len j2⟩,rfl,f5,[],rfl,L7,rfl,rfl⟩,fun y hy=>by
  rw [List.append_nil] at hy
  simpa using own_off d4.1 O5 y hy,rfl,by show valN o5≤3000; omega,hk,j1,j2,n5⟩
end Go.Proofs.YtfiakghfncempaaGreatDoor
