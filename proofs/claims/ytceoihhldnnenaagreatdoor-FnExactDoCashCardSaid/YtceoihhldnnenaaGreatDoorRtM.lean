/-
  Whole numbers and amounts as fractions, in the program and in the reference.
-/
import Derived.Test.YtceoihhldnnenaaGreatDoorTotB
import Derived.Test.YtceoihhldnnenaaGreatDoorDecB
namespace Go.Proofs.YtceoihhldnnenaaGreatDoor
open Sx
set_option maxRecDepth 100000
def sv (b:Bool) (z:Int):Int:=if b=true then -z else z
theorem sv_sval {b:Bool} {o:List Lim} {z:Int} (h:valN o=z):sval b o=sv b z:=by
 unfold sval sv
 rw [h]
theorem redS_small {S D:Int} {x:DRat} {e:Bool} {a b:List Lim} (h:RedS S D x e) (ha:Can a) (hb:Can b) (va:(S.natAbs:Int)=valN a) (vb:D=valN b) (hD:0<D) (la:a.length≤18) (lb:b.length≤18):e=true:=by
 obtain⟨p,q,hR,⟨_,_,he,_⟩ | ⟨hn,_,_⟩⟩:=h
 ·exact he
 ·exfalso
  have hg:=gcd_pos (N:=(S.natAbs:Int)) hD
  have p0:=valN_nonneg hR.1.1
  have q0:=valN_nonneg hR.2.1.1
  have hp:valN p≤valN a:=by
   rw [← va,← hR.2.2.1]
   have:valN p*1≤valN p*(Int.gcd (S.natAbs:Int) D:Int):=Int.mul_le_mul_of_nonneg_left (by omega) p0
   omega
  have hq:valN q≤valN b:=by
   rw [← vb]
   have e:=hR.2.2.2
   have:valN q*1≤valN q*(Int.gcd (S.natAbs:Int) D:Int):=Int.mul_le_mul_of_nonneg_left (by omega) q0
   omega
  have h1:=can_len ha hR.1 hp
  have h2:=can_len hb hR.2.1 hq
  exact hn ⟨by omega,by omega⟩
end Go.Proofs.YtceoihhldnnenaaGreatDoor
namespace Go.Proofs.YtceoihhldnnenaaGreatDoor
open Sx
set_option maxRecDepth 100000
theorem redS_len {S D:Int} {x:DRat} {e:Bool} (hD:0<D) (h:RedS S D x e) (k:Nat) (hk:0<k) (hS:(S.natAbs:Int)<1000000000 ^ k) (hDb:D<1000000000 ^ k) (hk18:k≤18):e=true∧x.2.1.length≤k∧x.2.2.1.length≤k:=by
 obtain⟨p,q,h1,h2⟩:=h
 have hg:=gcd_pos (N:=(S.natAbs:Int)) hD
 have p0:=valN_nonneg h1.1.1
 have q0:=valN_nonneg h1.2.1.1
 have bd:∀ {l:List Lim},Can l→∀ {N:Int},valN l*(Int.gcd (S.natAbs:Int) D:Int)=N→N<1000000000 ^ k→l.length≤k:=by
  intro l hl N hv hN
  by_cases kk:l.length≤k
  ·exact kk
  ·have g1:=can_ge hl (by omega)
   have g2:=pw_mono (show k≤l.length-1 by omega)
   have g3:valN l*1≤valN l*(Int.gcd (S.natAbs:Int) D:Int):=Int.mul_le_mul_of_nonneg_left (by omega) (valN_nonneg hl.1)
   omega
 have lp:=bd h1.1 h1.2.2.1 hS
 have lq:=bd h1.2.1 h1.2.2.2 hDb
 rcases h2 with ⟨_,_,c,rfl⟩ | ⟨hl,_,_⟩
 ·exact⟨c,lp,lq⟩
 ·exact absurd ⟨by omega,by omega⟩ hl
theorem redS_fits {S D:Int} {x:DRat} {e:Bool} (hD:0<D) (h:RedS S D x e) (hS:(S.natAbs:Int)<1000000000 ^ 18) (hDb:D<1000000000 ^ 18):e=true:=(redS_len hD h 18 (by omega) hS hDb (by omega)).1
def awayB (m:Int) (neg:Bool) (c:Int) (odd:Bool):Bool :=
 if m=0 then false else if m=1 then true else if m=2 then neg else if m=3 then !neg else if m=4 then decide (c > 0) else if m=5 then decide (c≥0) else decide (c > 0) || (decide (c=0) && odd)
def upN (m:Int) (neg:Bool) (n d:Int):Prop:=0<n % d∧awayB m neg (sgn (n % d+n % d-d)) (decide (n / d % 2=1))=true
noncomputable def rndN (m:Int) (neg:Bool) (n d:Int):Int:=by
 classical
 exact if upN m neg n d then n / d+1 else n / d
theorem rnd_up {m:Int} {neg:Bool} {n d:Int} (h:upN m neg n d):rndN m neg n d=n / d+1:=by
 unfold rndN; exact if_pos h
theorem rnd_down {m:Int} {neg:Bool} {n d:Int} (h:¬ upN m neg n d):rndN m neg n d=n / d:=by
 unfold rndN; exact if_neg h
theorem rnd_cases (m:Int) (neg:Bool) (n d:Int):(rndN m neg n d=n / d+1∧0<n % d)∨rndN m neg n d=n / d:=by
 by_cases h:upN m neg n d
 ·exact .inl ⟨rnd_up h,h.1⟩
 ·exact .inr (rnd_down h)
theorem quot_mod {n d q r:Int} (h:n=q*d+r) (h0:0≤r) (h1:r<d):q=n / d∧r=n % d:=by
 have e:=Int.mul_ediv_add_emod n d
 refine quot_unique h (q':=n / d) (r':=n % d) (by rw [Int.mul_comm]; exact e.symm) ⟨h0,h1⟩ ⟨Int.emod_nonneg _ (by omega),Int.emod_lt_of_pos _ (by omega)⟩
theorem rnd_diff {m:Int} {neg:Bool} {n d:Int} (hd:0<d):-d≤n-rndN m neg n d*d∧n-rndN m neg n d*d≤d:=by
 have e:=Int.mul_ediv_add_emod n d
 have h0:=Int.emod_nonneg n (show d≠0 by omega)
 have h1:=Int.emod_lt_of_pos n hd
 have e2:n / d*d=d*(n / d):=Int.mul_comm _ _
 rcases rnd_cases m neg n d with ⟨q,_⟩ | q
 ·rw [q,Int.add_mul,Int.one_mul,e2]; omega
 ·rw [q,e2]; omega
theorem rnd_le {m:Int} {neg:Bool} {n d:Int} (hn:0≤n) (hd:0<d):rndN m neg n d≤n:=by
 have e:=Int.mul_ediv_add_emod n d
 have h0:=Int.emod_nonneg n (show d≠0 by omega)
 have hq:=Int.ediv_nonneg hn (show 0≤d by omega)
 have h2:1*(n / d)≤d*(n / d):=Int.mul_le_mul_of_nonneg_right (by omega) hq
 rcases rnd_cases m neg n d with ⟨q,hr⟩ | q <;> omega
theorem val_par {l:List Lim} (h:0<l.length):valN l % 2=limb l 0 % 2:=by
 have key:∀ i,0<i→valTo l i % 2=limb l 0 % 2:=by
  intro i
  induction i with
  | zero=>intro h; omega
  | succ k ih =>
   intro _
   show(valTo l k+limb l k*1000000000 ^ k) % 2=_
   cases k with
   | zero=>simp [valTo]
   | succ j =>
    have:=ih (by omega)
    have e:limb l (j+1)*1000000000 ^ (j+1)=2*(limb l (j+1)*(500000000*1000000000 ^ j)):=by
     rw [pw_succ]
     have:(1000000000:Int)=2*500000000:=by decide
     rw [show(1000000000:Int)*1000000000 ^ j=2*(500000000*1000000000 ^ j) by omega]
     ac_rfl
    omega
 exact key _ h
end Go.Proofs.YtceoihhldnnenaaGreatDoor
namespace Go.Proofs.YtceoihhldnnenaaGreatDoor
open Sx
set_option maxRecDepth 100000
theorem cI_IntOf1 (V:Know):CallX Tryz.prog V 256 [.int .i64 1] (fun V' r=>V.le V'∧∃ s f,r=qv0 (false,s,())∧LR rI V' s [(1,())] f):=by
 refine CallX.of_fits Tryz.mix (fI_IntOf _) fun _=>?_
 simp only [tI_IntOf,T.wp]
 refine⟨fun h=>?_,fun _=>?_⟩
 ·have:(1:Int)<0:=of_decide_eq_true h
  omega
 rw [show IntKind.u64.wrap 1=1 from wrap_u64 (by omega)]
 refine(cI_natOf V 1 (by omega)).mono ?_
 rintro V1 _ ⟨le1,s,o,f,rfl,L,_,C,v,_⟩
 have e:o=[(1,())]:=can_inj C ⟨lims_one (by decide),.inr (by decide)⟩ (by rw [v,valN_one])
 subst e
 exact⟨nofun,s,rfl,le1,s,f,rfl,L⟩
theorem cS_IntOf1 (V:Know):CallX Tryz.prog V 86 [.int .i64 1] (fun V' r=>V.le V'∧∃ s f,r=qv0 (false,s,())∧LR rI V' s [(1,())] f):=by
 refine CallX.of_fits Tryz.mix (fS_IntOf _) fun _=>?_
 simp only [tS_IntOf,T.wp]
 refine⟨fun h=>?_,fun _=>⟨fun h=>?_,fun _=>?_⟩⟩
 ·have:(1:Int)=-9223372036854775808:=by simp at h
  omega
 ·have:(1:Int)<0:=of_decide_eq_true h
  omega
 refine(cS_NatOf V 1 (by omega)).mono ?_
 rintro V1 _ ⟨le1,s,o,f,rfl,L,_,C,v,_⟩
 have e:o=[(1,())]:=can_inj C ⟨lims_one (by decide),.inr (by decide)⟩ (by rw [v,valN_one])
 subst e
 refine⟨nofun,s,rfl,(cS_l04Make V1 false s _ f L C (by simp)).mono ?_⟩
 rintro V2 _ ⟨le2,s2,f2,rfl,L2,_⟩
 exact⟨nofun,(false,s2,()),rfl,le1.trans le2,s2,f2,rfl,L2⟩
theorem oneI_ok:IntOkP false [((1:Int),())]:=⟨⟨⟨lims_one (by decide),.inr (by decide)⟩,by simp⟩,fun h=>by cases h⟩
theorem cI_intsOk (V:Know) (c0:Bool) (c1:SlV) (d0:Bool) (d1:SlV) (a b:List Lim) (f g:List Nat) (h:LR rI V c1 a f) (h':LR rI V d1 b g) (ha:IntOkP c0 a) (hb:IntOkP d0 b) :
  CallX Tryz.prog V 262 [qv0 (c0,c1,()),qv0 (d0,d1,())] (fun V' r=>V'=V∧r=.bool true):=by
 refine CallX.of_fits Tryz.mix (fI_intsOk _ _) fun _=>?_
 simp only [tI_intsOk,T.wp]
 refine(cI_IntOk V c0 c1 a f h).mono ?_
 rintro V1 _ ⟨rfl,e,rfl,he⟩
 have he:=he.2 ha
 subst he
 refine⟨nofun,true,rfl,fun _=>(cI_IntOk V1 d0 d1 b g h').mono ?_,nofun⟩
 rintro V2 _ ⟨rfl,e,rfl,he⟩
 have he:=he.2 hb
 subst he
 exact⟨nofun,true,rfl,rfl,rfl⟩
theorem cI_RatInt (V:Know) (c0:Bool) (s:SlV) (n:List Lim) (f:List Nat) (h:LR rI V s n f) (hn:IntOkP c0 n):CallX Tryz.prog V 247 [qv0 (c0,s,())] (RatPost V (sval c0 n) 1):=by
 refine CallX.of_fits Tryz.mix (fI_RatInt _) fun _=>?_
 simp only [tI_RatInt,T.wp]
 refine(cI_IntOf1 V).mono ?_
 rintro V1 _ ⟨le1,s1,f1,rfl,L1⟩
 have key:CallX Tryz.prog V1 255 [qv0 (c0,s,()),qv0 (false,s1,())] (RatPost V1 (sval c0 n) 1):=by
  have hL:=h.le le1
  have hs:=hL.1
  have hs1:=L1.1
  have hlen:=hn.1.2
  refine CallX.of_fits Tryz.mix (fI_RatMake _ _) fun _=>?_
  simp only [tI_RatMake,T.wp]
  refine(cI_intsOk V1 c0 s false s1 n _ f f1 hL L1 hn oneI_ok).mono ?_
  rintro V2 _ ⟨rfl,rfl⟩
  refine⟨nofun,true,rfl,nofun,fun _=>⟨fun hz=>?_,fun _=>(cI_signed V2 _ s).mono ?_⟩⟩
  ·have:(s1.n:Int)=0:=by simpa using hz
   simp at hs1
   omega
  rintro V3 _ ⟨rfl,rfl⟩
  have e:((!c0 == false) && decide ((s.n:Int) > 0))=c0:=by
   cases c0 with
   | false=>rfl
   | true =>
    have:=hn.2 rfl
    have q:decide ((s.n:Int) > 0)=true:=decide_eq_true (by omega)
    rw [q]; rfl
  refine⟨fun _=>Know.le.refl _,(c0,s,()),by rw [e]; rfl,(cI_reduce V3 c0 s s1 n _ f f1 hL L1 hn.1.1 oneI_ok.1.1 (by rw [valN_one]; decide) (by omega) (by simp)).mono ?_⟩
  rintro V4 _ ⟨le4,c,x,e4,f4,rfl,R4,O4,hx⟩
  rw [valN_one] at hx
  exact⟨fun _=>le4,(c,e4,()),rfl,le4,c,x,e4,f4,rfl,R4,O4,hx⟩
 refine⟨fun _=>le1,(false,s1,()),rfl,key.mono ?_⟩
 rintro V4 _ ⟨le4,c,x,e4,f4,rfl,R4,O4,hx⟩
 exact⟨fun _=>le4,(c,e4,()),rfl,le1.trans le4,c,x,e4,f4,rfl,R4,O4.pre le1,hx⟩
theorem cS_RatInt (V:Know) (c0:Bool) (s:SlV) (n:List Lim) (f:List Nat) (h:LR rI V s n f) (hn:IntOkP c0 n):CallX Tryz.prog V 45 [qv0 (c0,s,())] (RatPost V (sval c0 n) 1):=by
 refine CallX.of_fits Tryz.mix (fS_RatInt _) fun _=>?_
 simp only [tS_RatInt,T.wp]
 refine(cS_IntOf1 V).mono ?_
 rintro V1 _ ⟨le1,s1,f1,rfl,L1⟩
 have key:CallX Tryz.prog V1 85 [qv0 (c0,s,()),qv0 (false,s1,())] (RatPost V1 (sval c0 n) 1):=by
  have hL:=h.le le1
  have hlen:=hn.1.2
  refine CallX.of_fits Tryz.mix (fS_RatMake _ _) fun _=>?_
  simp only [tS_RatMake,T.wp]
  refine(cS_IntOk V1 c0 s n f hL).mono ?_
  rintro V2 _ ⟨rfl,e,rfl,he⟩
  have he:=he.2 hn
  subst he
  refine⟨nofun,true,rfl,nofun,fun _=>(cS_IntOk V2 false s1 _ f1 L1).mono ?_⟩
  rintro V3 _ ⟨rfl,e,rfl,he⟩
  have he:=he.2 oneI_ok
  subst he
  have e:(!c0 == false)=c0:=by cases c0 <;> rfl
  refine⟨nofun,true,rfl,nofun,fun _=>?_⟩
  show CallX _ _ _ [Value.bool (!c0 == false),_,_] _
  rw [e]
  refine(cS_l05Low V3 c0 s s1 n _ f f1 hL L1 hn.1.1 oneI_ok.1.1 (by rw [valN_one]; decide) (by omega) (by simp)).mono ?_
  rintro V4 _ ⟨le4,c,x,e4,f4,rfl,R4,O4,hx⟩
  rw [valN_one] at hx
  exact⟨nofun,(c,e4,()),rfl,le4,c,x,e4,f4,rfl,R4,O4,hx⟩
 refine⟨fun _=>le1,(false,s1,()),rfl,key.mono ?_⟩
 rintro V4 _ ⟨le4,c,x,e4,f4,rfl,R4,O4,hx⟩
 exact⟨fun _=>le4,(c,e4,()),rfl,le1.trans le4,c,x,e4,f4,rfl,R4,O4.pre le1,hx⟩
def restOf:List DRest→ByteArray→DRat
 | [],_=>(false,[],[(1,())],())
 | r :: l,cur=>if r.1=cur then (r.2.1,r.2.2.1,r.2.2.2.1,()) else restOf l cur
theorem zero_ok:RatOkP false [] [((1:Int),())]:=⟨⟨⟨⟨lims_nil,.inl rfl⟩,by simp⟩,fun h=>by cases h⟩,⟨⟨lims_one (by decide),.inr (by decide)⟩,by simp⟩,by simp,by simp,by simp,by rw [valN_one]; rfl⟩
theorem zeroI (V:Know):CallX Tryz.prog V 275 [] (fun V' r=>V.le V'∧∃ c f,r=qv1 c∧rRat.R V' c (false,[],[(1,())],()) f):=by
 refine CallX.of_fits Tryz.mix fI_RatZero fun _=>?_
 simp only [tI_RatZero,T.wp]
 intro b cap spare hb hcap _
 have k:=newI (V:=V) (b:=b) (cap:=cap) (o:=[(1,())]) (spare:=spare) (t:=3) hb hcap (by simp)
 exact⟨kset_le hb,_,_,rfl,rat_mk lr_nil k.1⟩
theorem zeroS (V:Know):CallX Tryz.prog V 145 [] (fun V' r=>V.le V'∧∃ c f,r=qv1 c∧rRat.R V' c (false,[],[(1,())],()) f):=by
 refine CallX.of_fits Tryz.mix fS_RatZero fun _=>?_
 simp only [tS_RatZero,T.wp]
 intro b cap spare hb hcap _
 have k:=newI (V:=V) (b:=b) (cap:=cap) (o:=[(1,())]) (spare:=spare) (t:=3) hb hcap (by simp)
 exact⟨kset_le hb,_,_,rfl,rat_mk lr_nil k.1⟩
theorem copyI (V:Know) (b:Bool) (s s':SlV) (n d:List Lim) (f g:List Nat) (h:LR rI V s n f) (h':LR rI V s' d g) (ln:n.length≤1048576) (ld:d.length≤1048576) :
  CallX Tryz.prog V 191 [qv1 (b,s,s',())] (fun V' r=>V.le V'∧∃ c f,r=qv1 c∧rRat.R V' c (b,n,d,()) f):=by
 refine CallX.of_fits Tryz.mix (fI_ratCopy _) fun _=>?_
 simp only [tI_ratCopy,T.wp]
 have hc:CallX Tryz.prog V 207 [qv0 (b,s,())] (fun V' r=>V.le V'∧∃ s1 f1,r=qv0 (b,s1,())∧LR rI V' s1 n f1):=by
  refine CallX.of_fits Tryz.mix (fI_intCopy _) fun _=>?_
  simp only [tI_intCopy,T.wp]
  refine(cI_natCopy V s n f h ln).mono ?_
  rintro V1 _ ⟨le1,s1,f1,rfl,L1,_⟩
  exact⟨fun _=>le1,s1,rfl,le1,s1,f1,rfl,L1⟩
 refine hc.mono ?_
 rintro V1 _ ⟨le1,s1,f1,rfl,L1⟩
 refine⟨fun _=>le1,(b,s1,()),rfl,(cI_natCopy V1 s' d g (h'.le le1) ld).mono ?_⟩
 rintro V2 _ ⟨le2,s2,f2,rfl,L2,_⟩
 exact⟨fun _=>le2,s2,rfl,le1.trans le2,_,_,rfl,rat_mk (L1.le le2) L2⟩
theorem LR.rdA {V:Know} {s:SlV} {l:List Lim} {f:List Nat} (h:LR rI V s l f):(s.n=0∧l.map cellI=[])∨∃ ad,s.a=some ad∧loadV V ad (s.n*1)=some (l.map cellI):=by
 rcases h.rdI.1 with ⟨h0,_,h1⟩ | h1
 ·exact .inl ⟨h0,h1⟩
 ·exact .inr h1
theorem lr_es {V:Know} {b c:Nat} {l:List Lim} (h:l.length=0):LR rI V ⟨some ⟨b,0,none⟩,0,c⟩ l []:=⟨h.symm,Nat.zero_le _,Nat.zero_le _,.inl ⟨rfl,(fun h=>by cases h),rfl⟩⟩
theorem copyS (V:Know) (b:Bool) (s s':SlV) (n d:List Lim) (f g:List Nat) (h:LR rI V s n f) (h':LR rI V s' d g) (ln:n.length≤1048576) (ld:d.length≤1048576) :
  CallX Tryz.prog V 144 [qv1 (b,s,s',())] (fun V' r=>V.le V'∧∃ c f,r=qv1 c∧rRat.R V' c (b,n,d,()) f):=by
 refine CallX.of_fits Tryz.mix (fS_l19Rat _) fun _=>?_
 simp only [tS_l19Rat,T.wp]
 have hn:=h.1
 have hd:=h'.1
 intro b1 hb1
 have le1:=kset_le (x:=(([]:List Value),((3:TypeId),((0,0):Nat × Nat)))) hb1
 refine⟨n.map cellI,h.rdA,⟨one_int n,(by omega:s.n*8≤140737488355328),(by omega:s.n≤9223372036854775807)⟩,fun hz=>?_,fun hz=>?_⟩
 ·have hz':s.n=0:=of_decide_eq_true hz
  intro b3 hb3
  have le3:=kset_le (x:=(([]:List Value),((3:TypeId),((0,0):Nat × Nat)))) hb3
  refine⟨d.map cellI,h'.rdA,⟨one_int d,(by omega:s'.n*8≤140737488355328),(by omega:s'.n≤9223372036854775807)⟩,fun hy=>?_,fun hy=>?_⟩
  ·have hy':s'.n=0:=of_decide_eq_true hy
   exact⟨le1.trans le3,_,_,rfl,rat_mk (lr_es (by omega)) (lr_es (by omega))⟩
  ·intro b5 c5 sp5 hb5 hc5 _
   have hc5':s'.n≤c5:=hc5
   have k:=newI (b:=b5) (cap:=c5) (o:=d) (spare:=sp5) (t:=3) hb5 (by omega) (by omega)
   have k1:=k.1
   rw [← hd] at k1
   exact⟨(le1.trans le3).trans (kset_le hb5),_,_,rfl,rat_mk (lr_es (by omega)) k1⟩
 ·intro b3 c3 sp3 hb3 hc3 _
  have hc3':s.n≤c3:=hc3
  have k:=newI (b:=b3) (cap:=c3) (o:=n) (spare:=sp3) (t:=3) hb3 (by omega) (by omega)
  have k1:=k.1
  rw [← hn] at k1
  have le3:=kset_le (x:=(n.map cellI++sp3,((3:TypeId),((0,0):Nat × Nat)))) hb3
  intro b4 hb4
  have le4:=kset_le (x:=(([]:List Value),((3:TypeId),((0,0):Nat × Nat)))) hb4
  refine⟨d.map cellI,h'.rdA,⟨one_int d,(by omega:s'.n*8≤140737488355328),(by omega:s'.n≤9223372036854775807)⟩,fun hy=>?_,fun hy=>?_⟩
  ·have hy':s'.n=0:=of_decide_eq_true hy
   exact⟨(le1.trans le3).trans le4,_,_,rfl,rat_mk (k1.le le4) (lr_es (by omega))⟩
  ·intro b6 c6 sp6 hb6 hc6 _
   have hc6':s'.n≤c6:=hc6
   have k6:=newI (b:=b6) (cap:=c6) (o:=d) (spare:=sp6) (t:=3) hb6 (by omega) (by omega)
   have k61:=k6.1
   rw [← hd] at k61
   exact⟨((le1.trans le3).trans le4).trans (kset_le hb6),_,_,rfl,rat_mk ((k1.le le4).le (kset_le hb6)) k61⟩
theorem cS_RestOf (V:Know) (s:SlV) (l:List DRest) (f:List Nat) (h:LR rRest V s l f) (hok:∀ i,i<l.length→∃ h:i<l.length,RatOkP l[i].2.1 l[i].2.2.1 l[i].2.2.2.1) (cur:ByteArray) :
  CallX Tryz.prog V 94 [Sc.val .l s,.string cur] (fun V' r=>V.le V'∧∃ c f,r=qv1 c∧rRat.R V' c (restOf l cur) f):=by
 refine CallX.of_fits Tryz.mix (fS_RestOf _ _) fun _=>?_
 simp only [tS_RestOf,T.wp]
 have hn:=h.1
 have h63:=h.2.2.1
 refine⟨fun y V'=>V'=V∧∃ i:Nat,y.1=(i:Int)∧i≤l.length∧restOf (l.drop i) cur=restOf l cur,fun y=>((l.length:Int)-(y.1:Int)).toNat,
  ⟨((0:Int),false,(⟨none,0,0⟩:SlV),(⟨none,0,0⟩:SlV),()),rfl,rfl,0,rfl,by omega,by rw [List.drop_zero]⟩,?_⟩
 rintro⟨(i:Int),q,so,so',u⟩ V' ⟨rfl,k,hi,hk,hr⟩
 replace hi:i=(k:Int):=hi
 subst hi
 refine⟨fun hlt=>?_,fun hge=>?_⟩
 ·have hkl:k<l.length:=by
   have:(k:Int)<(s.n:Int):=of_decide_eq_true hlt
   omega
  obtain⟨b1,o1,c1,fc,a1,l1,hR,_⟩:=h.at hkl
  obtain⟨c2,c3,g,g',rfl,hc2,hc3⟩:=rest_elim hR
  obtain⟨_,ok⟩:=hok k hkl
  have z1:=ok.2.2.2.1
  have z2:=ok.2.2.2.2.1
  have e0:(k:Int).toNat=k:=by omega
  dsimp only
  rw [e0]
  rw [List.drop_eq_getElem_cons hkl,restOf] at hr
  refine⟨_,a1,by omega,by omega,(l[k].1,l[k].2.1,c2,c3,()),l1,fun hc=>?_,fun hc=>?_⟩
  ·rw [if_pos (text_eq.1 hc)] at hr
   refine(copyS V' l[k].2.1 c2 c3 l[k].2.2.1 l[k].2.2.2.1 g g' hc2 hc3 (by omega) (by omega)).mono ?_
   rintro V2 _ ⟨le2,c,fc,rfl,R2⟩
   rw [hr] at R2
   exact⟨nofun,c,rfl,le2,c,fc,rfl,R2⟩
  ·rw [if_neg (fun e=>by rw [text_eq.2 e] at hc; cases hc)] at hr
   refine⟨_,rfl,(((k+1:Nat):Int),q,so,so',()),by rw [nxt hkl (by omega)]; rfl,⟨rfl,k+1,rfl,hkl,hr⟩,?_⟩
   show((l.length:Int)-((k+1:Nat):Int)).toNat<((l.length:Int)-(k:Int)).toNat
   omega
 ·have hkl:k=l.length:=by
   have:¬ (k:Int)<(s.n:Int):=of_decide_eq_false hge
   omega
  subst hkl
  rw [List.drop_length,restOf] at hr
  refine(zeroS V').mono ?_
  rintro V2 _ ⟨le2,c,fc,rfl,R2⟩
  rw [hr] at R2
  exact⟨nofun,c,rfl,le2,c,fc,rfl,R2⟩
theorem cI_RestOf (V:Know) (s:SlV) (l:List DRest) (f:List Nat) (h:LR rRest V s l f) (hok:∀ i,i<l.length→∃ h:i<l.length,RatOkP l[i].2.1 l[i].2.2.1 l[i].2.2.2.1) (cur:ByteArray) :
  CallX Tryz.prog V 265 [Sc.val .l s,.string cur] (fun V' r=>V.le V'∧∃ c f,r=qv1 c∧rRat.R V' c (restOf l cur) f):=by
 refine CallX.of_fits Tryz.mix (fI_RestOf _ _) fun _=>?_
 simp only [tI_RestOf,T.wp]
 have hn:=h.1
 have h63:=h.2.2.1
 refine⟨fun y V'=>V'=V∧∃ i:Nat,y.1=(i:Int)∧i≤l.length∧restOf (l.drop i) cur=restOf l cur,fun y=>((l.length:Int)-(y.1:Int)).toNat,
  ⟨((0:Int),false,(⟨none,0,0⟩:SlV),(⟨none,0,0⟩:SlV),()),rfl,rfl,0,rfl,by omega,by rw [List.drop_zero]⟩,?_⟩
 rintro⟨(i:Int),q,so,so',u⟩ V' ⟨rfl,k,hi,hk,hr⟩
 replace hi:i=(k:Int):=hi
 subst hi
 refine⟨fun hlt=>?_,fun hge=>?_⟩
 ·have hkl:k<l.length:=by
   have:(k:Int)<(s.n:Int):=of_decide_eq_true hlt
   omega
  obtain⟨b1,o1,c1,fc,a1,l1,hR,_⟩:=h.at hkl
  obtain⟨c2,c3,g,g',rfl,hc2,hc3⟩:=rest_elim hR
  obtain⟨_,ok⟩:=hok k hkl
  have z1:=ok.2.2.2.1
  have z2:=ok.2.2.2.2.1
  have e0:(k:Int).toNat=k:=by omega
  dsimp only
  rw [e0]
  rw [List.drop_eq_getElem_cons hkl,restOf] at hr
  refine⟨_,a1,by omega,by omega,(l[k].1,l[k].2.1,c2,c3,()),l1,fun hc=>?_,fun hc=>?_⟩
  ·rw [if_pos (text_eq.1 hc)] at hr
   refine(copyI V' l[k].2.1 c2 c3 l[k].2.2.1 l[k].2.2.2.1 g g' hc2 hc3 (by omega) (by omega)).mono ?_
   rintro V2 _ ⟨le2,c,fc,rfl,R2⟩
   rw [hr] at R2
   exact⟨nofun,c,rfl,le2,c,fc,rfl,R2⟩
  ·rw [if_neg (fun e=>by rw [text_eq.2 e] at hc; cases hc)] at hr
   refine⟨_,rfl,(((k+1:Nat):Int),q,so,so',()),by rw [nxt hkl (by omega)]; rfl,⟨rfl,k+1,rfl,hkl,hr⟩,?_⟩
   show((l.length:Int)-((k+1:Nat):Int)).toNat<((l.length:Int)-(k:Int)).toNat
   omega
 ·have hkl:k=l.length:=by
   have:¬ (k:Int)<(s.n:Int):=of_decide_eq_false hge
   omega
  subst hkl
  rw [List.drop_length,restOf] at hr
  refine(zeroI V').mono ?_
  rintro V2 _ ⟨le2,c,fc,rfl,R2⟩
  rw [hr] at R2
  exact⟨nofun,c,rfl,le2,c,fc,rfl,R2⟩
theorem rat_elim {V:Know} {c:Scs [.b,.l,.l]} {x:DRat} {f:List Nat} (h:rRat.R V c x f):∃ s s' g g',c=(x.1,s,s',())∧LR rI V s x.2.1 g∧LR rI V s' x.2.2.1 g'∧f=g++(g'++[]):=by
 obtain⟨c0,c1,c2,cu⟩:=c
 obtain⟨x0,x1,x2,xu⟩:=x
 obtain⟨e0,h⟩:=h
 replace e0:c0=x0:=e0
 subst e0
 obtain⟨g,r,rfl,hs,h⟩:=h
 obtain⟨g',r',rfl,hs',h⟩:=h
 replace h:r'=[]:=h
 subst h
 exact⟨c1,c2,g,g',rfl,hs,hs',rfl⟩
theorem rests_rat {l:List DRest} (h:RestsOkP l):∀ i,i<l.length→∃ h:i<l.length,RatOkP l[i].2.1 l[i].2.2.1 l[i].2.2.2.1:=fun i hi=>by
 obtain⟨h1,_,h2,_⟩:=h i hi
 exact⟨h1,h2⟩
end Go.Proofs.YtceoihhldnnenaaGreatDoor
namespace Go.Proofs.YtceoihhldnnenaaGreatDoor
open Sx
set_option maxRecDepth 100000
end Go.Proofs.YtceoihhldnnenaaGreatDoor
