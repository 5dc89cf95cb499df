/-
  Rounding by the seven modes: a fraction, and what is left; in the program and in the reference. What is left by rounding; amounts of a currency out of fractions; in the program and in the reference.
-/
import Derived.Test.YtmppmpceccpdlaaGreatDoorDecM
import Derived.Test.YtmppmpceccpdlaaGreatDoorFracN
namespace Go.Proofs.YtmppmpceccpdlaaGreatDoor
open Sx
set_option maxRecDepth 100000
theorem cI_IntOf1 (V:Know):CallX Tryz.prog V 53 [.int .i64 1] (fun V' r=>V.le V'∧∃ s f,r=qv1 (false,s,())∧LR rI V' s [(1,())] f):=by
 refine CallX.of_fits Tryz.mix (fI_IntOf _) fun _=>?_
 simp only [tI_IntOf,T.wp]
 refine⟨fun h=>?_,fun _=>?_⟩
 ·have:(1:Int)<0:=of_decide_eq_true h
  omega
 rw [show IntKind.u64.wrap 1=1 from wrap_u64 (by omega)]
 refine(cI_natOf V 1 (by omega)).mono ?_
 rintro V1 _ ⟨le1,s,o,f,rfl,L,_,C,v,_⟩
 have e:o=[(1,())]:=can_inj C ⟨lims_one (by decide),.inr (by decide)⟩ (by rw [v,valN_one])
 subst e
 exact⟨nofun,s,rfl,le1,s,f,rfl,L⟩
theorem oneI_ok:IntOkP false [((1:Int),())]:=⟨⟨⟨lims_one (by decide),.inr (by decide)⟩,by simp⟩,fun h=>by cases h⟩
theorem cI_intsOk (V:Know) (c0:Bool) (c1:SlV) (d0:Bool) (d1:SlV) (a b:List Lim) (f g:List Nat) (h:LR rI V c1 a f) (h':LR rI V d1 b g) (ha:IntOkP c0 a) (hb:IntOkP d0 b) :
  CallX Tryz.prog V 119 [qv1 (c0,c1,()),qv1 (d0,d1,())] (fun V' r=>V'=V∧r=.bool true):=by
 refine CallX.of_fits Tryz.mix (fI_intsOk _ _) fun _=>?_
 simp only [tI_intsOk,T.wp]
 refine(cI_IntOk V c0 c1 a f h).mono ?_
 rintro V1 _ ⟨rfl,e,rfl,he⟩
 have he:=he.2 ha
 subst he
 refine⟨nofun,true,rfl,fun _=>(cI_IntOk V1 d0 d1 b g h').mono ?_,nofun⟩
 rintro V2 _ ⟨rfl,e,rfl,he⟩
 have he:=he.2 hb
 subst he
 exact⟨nofun,true,rfl,rfl,rfl⟩
theorem cI_RatInt (V:Know) (c0:Bool) (s:SlV) (n:List Lim) (f:List Nat) (h:LR rI V s n f) (hn:IntOkP c0 n):CallX Tryz.prog V 52 [qv1 (c0,s,())] (RatPost V (sval c0 n) 1):=by
 refine CallX.of_fits Tryz.mix (fI_RatInt _) fun _=>?_
 simp only [tI_RatInt,T.wp]
 refine(cI_IntOf1 V).mono ?_
 rintro V1 _ ⟨le1,s1,f1,rfl,L1⟩
 have key:CallX Tryz.prog V1 92 [qv1 (c0,s,()),qv1 (false,s1,())] (RatPost V1 (sval c0 n) 1):=by
  have hL:=h.le le1
  have hs:=hL.1
  have hs1:=L1.1
  have hlen:=hn.1.2
  refine CallX.of_fits Tryz.mix (fI_RatMake _ _) fun _=>?_
  simp only [tI_RatMake,T.wp]
  refine(cI_intsOk V1 c0 s false s1 n _ f f1 hL L1 hn oneI_ok).mono ?_
  rintro V2 _ ⟨rfl,rfl⟩
  refine⟨nofun,true,rfl,nofun,fun _=>⟨fun hz=>?_,fun _=>(cI_signed V2 _ s).mono ?_⟩⟩
  ·have:(s1.n:Int)=0:=by simpa using hz
   simp at hs1
   omega
  rintro V3 _ ⟨rfl,rfl⟩
  have e:((!c0 == false) && decide ((s.n:Int) > 0))=c0:=by
   cases c0 with
   | false=>rfl
   | true =>
    have:=hn.2 rfl
    have q:decide ((s.n:Int) > 0)=true:=decide_eq_true (by omega)
    rw [q]; rfl
  refine⟨fun _=>Know.le.refl _,(c0,s,()),by rw [e]; rfl,(cI_reduce V3 c0 s s1 n _ f f1 hL L1 hn.1.1 oneI_ok.1.1 (by rw [valN_one]; decide) (by omega) (by simp)).mono ?_⟩
  rintro V4 _ ⟨le4,c,x,e4,f4,rfl,R4,O4,hx⟩
  rw [valN_one] at hx
  exact⟨fun _=>le4,(c,e4,()),rfl,le4,c,x,e4,f4,rfl,R4,O4,hx⟩
 refine⟨fun _=>le1,(false,s1,()),rfl,key.mono ?_⟩
 rintro V4 _ ⟨le4,c,x,e4,f4,rfl,R4,O4,hx⟩
 exact⟨fun _=>le4,(c,e4,()),rfl,le1.trans le4,c,x,e4,f4,rfl,R4,O4.pre le1,hx⟩
def restOf:List DRest→ByteArray→DRat
 | [],_=>(false,[],[(1,())],())
 | r :: l,cur=>if r.1=cur then (r.2.1,r.2.2.1,r.2.2.2.1,()) else restOf l cur
theorem zero_ok:RatOkP false [] [((1:Int),())]:=⟨⟨⟨⟨lims_nil,.inl rfl⟩,by simp⟩,fun h=>by cases h⟩,⟨⟨lims_one (by decide),.inr (by decide)⟩,by simp⟩,by simp,by simp,by simp,by rw [valN_one]; rfl⟩
theorem zeroI (V:Know):CallX Tryz.prog V 25 [] (fun V' r=>V.le V'∧∃ c f,r=qv0 c∧rRat.R V' c (false,[],[(1,())],()) f):=by
 refine CallX.of_fits Tryz.mix fI_RatZero fun _=>?_
 simp only [tI_RatZero,T.wp]
 intro b cap spare hb hcap _
 have k:=newI (V:=V) (b:=b) (cap:=cap) (o:=[(1,())]) (spare:=spare) (t:=3) hb hcap (by simp)
 exact⟨kset_le hb,_,_,rfl,rat_mk lr_nil k.1⟩
theorem zeroS (V:Know):CallX Tryz.prog V 136 [] (fun V' r=>V.le V'∧∃ c f,r=qv0 c∧rRat.R V' c (false,[],[(1,())],()) f):=by
 refine CallX.of_fits Tryz.mix fS_RatZero fun _=>?_
 simp only [tS_RatZero,T.wp]
 intro b cap spare hb hcap _
 have k:=newI (V:=V) (b:=b) (cap:=cap) (o:=[(1,())]) (spare:=spare) (t:=3) hb hcap (by simp)
 exact⟨kset_le hb,_,_,rfl,rat_mk lr_nil k.1⟩
theorem LR.rdA {V:Know} {s:SlV} {l:List Lim} {f:List Nat} (h:LR rI V s l f):(s.n=0∧l.map cellI=[])∨∃ ad,s.a=some ad∧loadV V ad (s.n*1)=some (l.map cellI):=by
 rcases h.rdI.1 with ⟨h0,_,h1⟩ | h1
 ·exact .inl ⟨h0,h1⟩
 ·exact .inr h1
theorem lr_es {V:Know} {b c:Nat} {l:List Lim} (h:l.length=0):LR rI V ⟨some ⟨b,0,none⟩,0,c⟩ l []:=⟨h.symm,Nat.zero_le _,Nat.zero_le _,.inl ⟨rfl,(fun h=>by cases h),rfl⟩⟩
theorem copyS (V:Know) (b:Bool) (s s':SlV) (n d:List Lim) (f g:List Nat) (h:LR rI V s n f) (h':LR rI V s' d g) (ln:n.length≤1048576) (ld:d.length≤1048576) :
  CallX Tryz.prog V 159 [qv0 (b,s,s',())] (fun V' r=>V.le V'∧∃ c f,r=qv0 c∧rRat.R V' c (b,n,d,()) f):=by
 refine CallX.of_fits Tryz.mix (fS_l19Rat _) fun _=>?_
 simp only [tS_l19Rat,T.wp]
 have hn:=h.1
 have hd:=h'.1
 intro b1 hb1
 have le1:=kset_le (x:=(([]:List Value),((3:TypeId),((0,0):Nat × Nat)))) hb1
 refine⟨n.map cellI,h.rdA,⟨one_int n,(by omega:s.n*8≤140737488355328),(by omega:s.n≤9223372036854775807)⟩,fun hz=>?_,fun hz=>?_⟩
 ·have hz':s.n=0:=of_decide_eq_true hz
  intro b3 hb3
  have le3:=kset_le (x:=(([]:List Value),((3:TypeId),((0,0):Nat × Nat)))) hb3
  refine⟨d.map cellI,h'.rdA,⟨one_int d,(by omega:s'.n*8≤140737488355328),(by omega:s'.n≤9223372036854775807)⟩,fun hy=>?_,fun hy=>?_⟩
  ·have hy':s'.n=0:=of_decide_eq_true hy
   exact⟨le1.trans le3,_,_,rfl,rat_mk (lr_es (by omega)) (lr_es (by omega))⟩
  ·intro b5 c5 sp5 hb5 hc5 _
   have hc5':s'.n≤c5:=hc5
   have k:=newI (b:=b5) (cap:=c5) (o:=d) (spare:=sp5) (t:=3) hb5 (by omega) (by omega)
   have k1:=k.1
   rw [← hd] at k1
   exact⟨(le1.trans le3).trans (kset_le hb5),_,_,rfl,rat_mk (lr_es (by omega)) k1⟩
 ·intro b3 c3 sp3 hb3 hc3 _
  have hc3':s.n≤c3:=hc3
  have k:=newI (b:=b3) (cap:=c3) (o:=n) (spare:=sp3) (t:=3) hb3 (by omega) (by omega)
  have k1:=k.1
  rw [← hn] at k1
  have le3:=kset_le (x:=(n.map cellI++sp3,((3:TypeId),((0,0):Nat × Nat)))) hb3
  intro b4 hb4
  have le4:=kset_le (x:=(([]:List Value),((3:TypeId),((0,0):Nat × Nat)))) hb4
  refine⟨d.map cellI,h'.rdA,⟨one_int d,(by omega:s'.n*8≤140737488355328),(by omega:s'.n≤9223372036854775807)⟩,fun hy=>?_,fun hy=>?_⟩
  ·have hy':s'.n=0:=of_decide_eq_true hy
   exact⟨(le1.trans le3).trans le4,_,_,rfl,rat_mk (k1.le le4) (lr_es (by omega))⟩
  ·intro b6 c6 sp6 hb6 hc6 _
   have hc6':s'.n≤c6:=hc6
   have k6:=newI (b:=b6) (cap:=c6) (o:=d) (spare:=sp6) (t:=3) hb6 (by omega) (by omega)
   have k61:=k6.1
   rw [← hd] at k61
   exact⟨((le1.trans le3).trans le4).trans (kset_le hb6),_,_,rfl,rat_mk ((k1.le le4).le (kset_le hb6)) k61⟩
theorem cS_RestOf (V:Know) (s:SlV) (l:List DRest) (f:List Nat) (h:LR rRest V s l f) (hok:∀ i,i<l.length→∃ h:i<l.length,RatOkP l[i].2.1 l[i].2.2.1 l[i].2.2.2.1) (cur:ByteArray) :
  CallX Tryz.prog V 129 [Sc.val .l s,.string cur] (fun V' r=>V.le V'∧∃ c f,r=qv0 c∧rRat.R V' c (restOf l cur) f):=by
 refine CallX.of_fits Tryz.mix (fS_RestOf _ _) fun _=>?_
 simp only [tS_RestOf,T.wp]
 have hn:=h.1
 have h63:=h.2.2.1
 refine⟨fun y V'=>V'=V∧∃ i:Nat,y.1=(i:Int)∧i≤l.length∧restOf (l.drop i) cur=restOf l cur,fun y=>((l.length:Int)-(y.1:Int)).toNat,
  ⟨((0:Int),false,(⟨none,0,0⟩:SlV),(⟨none,0,0⟩:SlV),()),rfl,rfl,0,rfl,by omega,by rw [List.drop_zero]⟩,?_⟩
 rintro⟨(i:Int),q,so,so',u⟩ V' ⟨rfl,k,hi,hk,hr⟩
 replace hi:i=(k:Int):=hi
 subst hi
 refine⟨fun hlt=>?_,fun hge=>?_⟩
 ·have hkl:k<l.length:=by
   have:(k:Int)<(s.n:Int):=of_decide_eq_true hlt
   omega
  obtain⟨b1,o1,c1,fc,a1,l1,hR,_⟩:=h.at hkl
  obtain⟨c2,c3,g,g',rfl,hc2,hc3⟩:=rest_elim hR
  obtain⟨_,ok⟩:=hok k hkl
  have z1:=ok.2.2.2.1
  have z2:=ok.2.2.2.2.1
  have e0:(k:Int).toNat=k:=by omega
  dsimp only
  rw [e0]
  rw [List.drop_eq_getElem_cons hkl,restOf] at hr
  refine⟨_,a1,by omega,by omega,(l[k].1,l[k].2.1,c2,c3,()),l1,fun hc=>?_,fun hc=>?_⟩
  ·rw [if_pos (text_eq.1 hc)] at hr
   refine(copyS V' l[k].2.1 c2 c3 l[k].2.2.1 l[k].2.2.2.1 g g' hc2 hc3 (by omega) (by omega)).mono ?_
   rintro V2 _ ⟨le2,c,fc,rfl,R2⟩
   rw [hr] at R2
   exact⟨nofun,c,rfl,le2,c,fc,rfl,R2⟩
  ·rw [if_neg (fun e=>by rw [text_eq.2 e] at hc; cases hc)] at hr
   refine⟨_,rfl,(((k+1:Nat):Int),q,so,so',()),by rw [nxt hkl (by omega)]; rfl,⟨rfl,k+1,rfl,hkl,hr⟩,?_⟩
   show((l.length:Int)-((k+1:Nat):Int)).toNat<((l.length:Int)-(k:Int)).toNat
   omega
 ·have hkl:k=l.length:=by
   have:¬ (k:Int)<(s.n:Int):=of_decide_eq_false hge
   omega
  subst hkl
  rw [List.drop_length,restOf] at hr
  refine(zeroS V').mono ?_
  rintro V2 _ ⟨le2,c,fc,rfl,R2⟩
  rw [hr] at R2
  exact⟨nofun,c,rfl,le2,c,fc,rfl,R2⟩
theorem rat_elim {V:Know} {c:Scs [.b,.l,.l]} {x:DRat} {f:List Nat} (h:rRat.R V c x f):∃ s s' g g',c=(x.1,s,s',())∧LR rI V s x.2.1 g∧LR rI V s' x.2.2.1 g'∧f=g++(g'++[]):=by
 obtain⟨c0,c1,c2,cu⟩:=c
 obtain⟨x0,x1,x2,xu⟩:=x
 obtain⟨e0,h⟩:=h
 replace e0:c0=x0:=e0
 subst e0
 obtain⟨g,r,rfl,hs,h⟩:=h
 obtain⟨g',r',rfl,hs',h⟩:=h
 replace h:r'=[]:=h
 subst h
 exact⟨c1,c2,g,g',rfl,hs,hs',rfl⟩
theorem rests_rat {l:List DRest} (h:RestsOkP l):∀ i,i<l.length→∃ h:i<l.length,RatOkP l[i].2.1 l[i].2.2.1 l[i].2.2.2.1:=fun i hi=>by
 obtain⟨h1,_,h2,_⟩:=h i hi
 exact⟨h1,h2⟩
end Go.Proofs.YtmppmpceccpdlaaGreatDoor
namespace Go.Proofs.YtmppmpceccpdlaaGreatDoor
open Sx
set_option maxRecDepth 100000
theorem int_red {n:Bool} {m:List Lim} (h:IntOkP n m) (hl:m.length≤18):RedS (sval n m) 1 (n,m,[((1:Int),())],()) true:=by
 have h0:=valN_nonneg h.1.1.1
 refine⟨m,[(1,())],⟨h.1.1,oneI_ok.1.1,?_,by rw [valN_one,Int.gcd_one]; rfl⟩,.inl ⟨hl,by simp,rfl,?_⟩⟩
 ·rw [Int.gcd_one,sval_abs h.1.1.1]; simp
 ·have:decide (sval n m<0)=n:=by
   unfold sval
   cases n with
   | false=>simp; omega
   | true =>
    have:=(can_pos h.1.1).1 (h.2 rfl)
    simp; omega
  rw [this]
abbrev LegPost (V:Know) (S D:Int):Know→Value→Prop:=fun V' r=>V.le V'∧∃ c x f,r=qv0 c∧rRat.R V' c x f∧Own V V' f∧RedS S D x true
theorem cI_MoneyRat {V:Know} (hV:HcI V) (c:ByteArray) (n:Bool) (s:SlV) (m:List Lim) (f:List Nat) (h:LR rI V s m f) (ok:MoneyOkP c n m) :
  CallX Tryz.prog V 14 [qv2 (c,n,s,())] (LegPost V (sval n m) 1):=by
 refine CallX.of_fits Tryz.mix (fI_MoneyRat _) fun _=>?_
 simp only [tI_MoneyRat,T.wp]
 refine(cI_MoneyOk hV c n s m f h).mono ?_
 rintro V1 r ⟨le1,e,rfl,he⟩
 obtain rfl:e=true:=he.2 ok
 have l4:=ok.2.2
 refine⟨nofun,true,rfl,nofun,fun _=>?_⟩
 have hc:CallX Tryz.prog V1 46 [qv1 (n,s,())] (fun V' r=>V1.le V'∧∃ s' f',r=qv1 (n,s',())∧LR rI V' s' m f'∧Own V1 V' f'):=by
  refine CallX.of_fits Tryz.mix (fI_intCopy _) fun _=>?_
  simp only [tI_intCopy,T.wp]
  refine(cI_natCopy V1 s m f (h.le le1) (by omega)).mono ?_
  rintro V2 _ ⟨le2,s2,f2,rfl,L2,O2⟩
  exact⟨fun _=>le2,s2,rfl,le2,s2,f2,rfl,L2,O2⟩
 refine hc.mono ?_
 rintro V2 _ ⟨le2,s2,f2,rfl,L2,O2⟩
 refine⟨nofun,(n,s2,()),rfl,fun b cp sp hb hcp _=>?_⟩
 have hc':1≤cp:=hcp
 have nw:=newI (V:=V2) (b:=b) (cap:=cp) (o:=[((1:Int),())]) (spare:=sp) (t:=3) hb hc' (by decide)
 have kl:=kset_le (x:=([((1:Int),())].map cellI++sp,((3:TypeId),((0,0):Nat × Nat)))) hb
 exact⟨(le1.trans le2).trans kl,_,_,_,rfl,rat_mk (L2.le kl) nw.1,Own.append (O2.pre le1) (Own.append nw.2 Own.nil kl (Know.le.refl _)) (le1.trans le2) kl,int_red ok.2.1 (by omega)⟩
end Go.Proofs.YtmppmpceccpdlaaGreatDoor
namespace Go.Proofs.YtmppmpceccpdlaaGreatDoor
open Sx
set_option maxRecDepth 100000
def RmP (x:Int):Prop:=0≤x∧x≤6
theorem rI_isMode (V:Know) (x:Int):CallX Tryz.prog V 120 [.int .i64 x] (fun V' r=>V'=V∧r=.bool (decide (0≤x∧x≤6))):=by
 refine CallX.of_fits Tryz.mix (fI_isMode _) fun _=>?_
 simp only [tI_isMode,T.wp]
 refine⟨fun h=>⟨by trivial,?_⟩,fun h=>⟨by trivial,?_⟩⟩
 ·have h1:=of_decide_eq_true h
  show Value.bool _=Value.bool _
  congr 1
  exact decide_eq_decide.2 (by omega)
 ·have h1:=of_decide_eq_false h
  show Value.bool _=Value.bool _
  congr 1
  exact(decide_eq_false (by omega)).symm
theorem cmpL_sgn {a b:List Lim} (ha:Can a) (hb:Can b):cmpL a b=sgn (valN a-valN b):=by
 unfold sgn
 rcases cmpL_val ha hb with ⟨c,k⟩ | ⟨c,k⟩ | ⟨c,k⟩
 ·rw [if_pos (by omega),c]
 ·rw [if_neg (by omega),if_pos (by omega),c]
 ·rw [if_neg (by omega),if_neg (by omega),c]
theorem par_odd {l:List Lim} (h:Can l):(l.length=0→decide (valN l % 2=1)=false)∧(∀ h0:0<l.length,(!((l[0]'h0).1.tmod 2 == 0))=decide (valN l % 2=1)):=by
 refine⟨fun h0=>?_,fun h0=>?_⟩
 ·rw [(can_empty h).1 h0]; rfl
 ·rw [val_par h0,limb_lt h0]
  have:=h.1 0
  rw [limb_lt h0] at this
  rw [Int.tmod_eq_emod_of_nonneg this.1]
  by_cases e:(l[0]'h0).1 % 2=0
  ·rw [e]; rfl
  ·have e1:(l[0]'h0).1 % 2=1:=by omega
   rw [e1]; rfl
theorem cI_NatEven (V:Know) (s:SlV) (l:List Lim) (f:List Nat) (h:LR rI V s l f) (hc:NatOkP l):CallX Tryz.prog V 174 [Sc.val .l s] (fun V' r=>V'=V∧r=.bool (!decide (valN l % 2=1))):=by
 refine CallX.of_fits Tryz.mix (fI_NatEven _) fun _=>?_
 simp only [tI_NatEven,T.wp]
 have hn:=h.1
 refine(cI_NatOk V s l f h).mono ?_
 rintro V1 r ⟨rfl,e,rfl,he⟩
 obtain rfl:e=true:=he.2 hc
 refine⟨nofun,true,rfl,fun _=>⟨fun hz=>⟨rfl,?_⟩,fun hz=>?_⟩,nofun⟩
 ·have:(s.n:Int)=0:=by simpa using hz
  rw [(par_odd hc.1).1 (by omega)]; rfl
 ·have h1:¬ (s.n:Int)=0:=by simpa using hz
  have h0:0<l.length:=by omega
  obtain⟨b1,o1,a1,l1⟩:=h.int h0
  refine⟨_,a1,Int.le_refl _,by omega,l[0].1,l1,by decide,rfl,?_⟩
  rw [← (par_odd hc.1).2 h0,Bool.not_not]; rfl
abbrev ModeRow:Type:=Scs [.s,.f,.s,.f,.s,.f,.s,.f,.s,.f,.s,.f,.s,.f]
def modeRow:ModeRow:=(⟨#[100,111,119,110]⟩,176,⟨#[117,112]⟩,177,⟨#[102,108,111,111,114]⟩,178,⟨#[99,101,105,108]⟩,179,⟨#[104,97,108,102,100,111,119,110]⟩,180,⟨#[104,97,108,102,117,112]⟩,181,⟨#[104,97,108,102,101,118,101,110]⟩,182,())
theorem cI_roundModes (V:Know):CallX Tryz.prog V 173 [] (fun V' r=>V'=V∧r=Sh1.val (.g [.s,.f,.s,.f,.s,.f,.s,.f,.s,.f,.s,.f,.s,.f]) modeRow):=by
 refine CallX.of_fits Tryz.mix fI_roundModes fun _=>?_
 simp only [tI_roundModes,T.wp]
 exact⟨by trivial,rfl⟩
def AwayC (V:Know) (g:Nat) (m:Int):Prop:=∀ (n:Bool) (c:Int) (o:Bool),CallX Tryz.prog V g [.bool n,.int .i64 c,.bool o] (fun V' r=>V'=V∧r=.bool (awayB m n c o))
theorem away_1 (V:Know):AwayC V 176 0:=fun n c o=>CallX.of_fits Tryz.mix (fI_roundModes_1 n c o) fun _=>by simp only [tI_roundModes_1,T.wp]; exact⟨by trivial,rfl⟩
theorem away_2 (V:Know):AwayC V 177 1:=fun n c o=>CallX.of_fits Tryz.mix (fI_roundModes_2 n c o) fun _=>by simp only [tI_roundModes_2,T.wp]; exact⟨by trivial,rfl⟩
theorem away_3 (V:Know):AwayC V 178 2:=fun n c o=>CallX.of_fits Tryz.mix (fI_roundModes_3 n c o) fun _=>by simp only [tI_roundModes_3,T.wp]; exact⟨by trivial,rfl⟩
theorem away_4 (V:Know):AwayC V 179 3:=fun n c o=>CallX.of_fits Tryz.mix (fI_roundModes_4 n c o) fun _=>by simp only [tI_roundModes_4,T.wp]; exact⟨by trivial,rfl⟩
theorem away_5 (V:Know):AwayC V 180 4:=fun n c o=>CallX.of_fits Tryz.mix (fI_roundModes_5 n c o) fun _=>by simp only [tI_roundModes_5,T.wp]; exact⟨by trivial,rfl⟩
theorem away_6 (V:Know):AwayC V 181 5:=fun n c o=>CallX.of_fits Tryz.mix (fI_roundModes_6 n c o) fun _=>by simp only [tI_roundModes_6,T.wp]; exact⟨by trivial,rfl⟩
theorem away6 {n:Bool} {c:Int} {o:Bool}:awayB 6 n c o=(decide (c > 0) || (decide (c=0) && o)):=rfl
theorem away_7 (V:Know):AwayC V 182 6:=fun n c o=>CallX.of_fits Tryz.mix (fI_roundModes_7 n c o) fun _=>by
 simp only [tI_roundModes_7,T.wp]
 rw [away6]
 refine⟨fun h=>⟨by trivial,by rw [h]; rfl⟩,fun h=>⟨fun h2=>⟨by trivial,?_⟩,fun h2=>⟨by trivial,?_⟩⟩⟩
 ·have:c=0:=by simpa using h2
  subst this; rfl
 ·have:¬ c=0:=by simpa using h2
  rw [h,decide_eq_false this]; rfl
theorem mode_row {m:Int} (hm:RmP m) (V:Know):∃ y:Scs [.s,.f],cutv (Scs.vals [.s,.f,.s,.f,.s,.f,.s,.f,.s,.f,.s,.f,.s,.f] modeRow) (m.toNat*2) 2=some (Scs.vals [.s,.f] y)∧AwayC V y.2.1 m:=by
 obtain⟨h0,h1⟩:=hm
 have:m=0∨m=1∨m=2∨m=3∨m=4∨m=5∨m=6:=by omega
 rcases this with rfl | rfl | rfl | rfl | rfl | rfl | rfl
 ·exact⟨(⟨#[100,111,119,110]⟩,176,()),rfl,away_1 V⟩
 ·exact⟨(⟨#[117,112]⟩,177,()),rfl,away_2 V⟩
 ·exact⟨(⟨#[102,108,111,111,114]⟩,178,()),rfl,away_3 V⟩
 ·exact⟨(⟨#[99,101,105,108]⟩,179,()),rfl,away_4 V⟩
 ·exact⟨(⟨#[104,97,108,102,100,111,119,110]⟩,180,()),rfl,away_5 V⟩
 ·exact⟨(⟨#[104,97,108,102,117,112]⟩,181,()),rfl,away_6 V⟩
 ·exact⟨(⟨#[104,97,108,102,101,118,101,110]⟩,182,()),rfl,away_7 V⟩
abbrev RndPost (V:Know) (m:Int) (c:Bool) (n d:List Lim):Know→Value→Prop:=fun V' r=>V.le V'∧∃ e q s f,r=qv1 (e,s,())∧LR rI V' s q f∧Own V V' f∧Can q∧valN q=rndN m c (valN n) (valN d)∧e=(c && decide (0<q.length))
theorem one_limb {V:Know} {b cp:Nat} {sp:List Value} (hb:V b=none) (hc:1≤cp):LR rI (kset V b ([.int .i64 1]++sp,(3,(0,0)))) ⟨some ⟨b,0,none⟩,1,cp⟩ [((1:Int),())] [b] :=
 (newI (V:=V) (b:=b) (cap:=cp) (o:=[((1:Int),())]) (spare:=sp) (t:=3) hb hc (by decide)).1
theorem rest_pos {r:List Lim} (h:Can r) {s:SlV} (hs:s.n=r.length):(decide ((s.n:Int) > 0)=true→0<valN r)∧(decide ((s.n:Int) > 0)=false→valN r=0):=by
 refine⟨fun k=>?_,fun k=>?_⟩
 ·have:=of_decide_eq_true k
  exact(can_pos h).1 (by omega)
 ·have:=of_decide_eq_false k
  exact(can_empty h).1 (by omega)
theorem cI_roundQuotient (V:Know) (c:Bool) (s s':SlV) (n d:List Lim) (f f':List Nat) (h:LR rI V s n f) (h':LR rI V s' d f') (hn:Can n) (hd:Can d) (ln:n.length≤40) (ld:0<d.length) (m:Int) (hm:RmP m) :
  CallX Tryz.prog V 164 [qv1 (c,s,()),Sc.val .l s',.int .i64 m] (RndPost V m c n d):=by
 refine CallX.of_fits Tryz.mix (fI_roundQuotient _ _ _) fun _=>?_
 simp only [tI_roundQuotient,T.wp]
 have dp:=(can_pos hd).1 ld
 refine(cI_natDiv V s s' n d f f' h h' hn hd (by omega) ld).mono ?_
 rintro V1 _ ⟨le1,s1,s2,q,r,f1,f2,rfl,L1,L2,O1,O2,Cq,Cr,hv,hr⟩
 have r0:=valN_nonneg Cr.1
 have q0:=valN_nonneg Cq.1
 have n0:=valN_nonneg hn.1
 obtain⟨eq1,eq2⟩:=quot_mod hv r0 hr
 have hqd:1*valN q≤valN d*valN q:=Int.mul_le_mul_of_nonneg_right (by omega) q0
 have hqd2:valN d*valN q=valN q*valN d:=Int.mul_comm _ _
 have lq:=can_len hn Cq (by omega)
 have ns2:=L2.1
 have fin:∀ V2,V1.le V2→∀ (s3:SlV) (o:List Lim) (f3:List Nat),LR rI V2 s3 o f3→Own V1 V2 f3∨(s3=s1∧o=q∧f3=f1)→Can o→valN o=rndN m c (valN n) (valN d) →
   CallX Tryz.prog V2 42 [.bool c,Sc.val .l s3] (fun V' r=>RndPost V m c n d V' r):=by
  intro V2 le2 s3 o f3 L3 hO C3 v3
  refine(cI_signed V2 c s3).mono ?_
  rintro V3 _ ⟨rfl,rfl⟩
  have hn3:=L3.1
  have ed:decide ((s3.n:Int) > 0)=decide (0<o.length):=decide_eq_decide.2 (by omega)
  refine⟨le1.trans le2,_,o,s3,f3,rfl,L3,?_,C3,v3,by rw [ed]⟩
  rcases hO with hO | ⟨rfl,rfl,rfl⟩
  ·exact hO.pre le1
  ·exact O1.post le2
 refine⟨nofun,(s1,s2,()),rfl,fun hp=>?_,fun hz=>?_⟩
 rotate_left
 ·have z:=(rest_pos Cr ns2).2 hz
  refine(fin V1 (Know.le.refl _) s1 q f1 L1 (.inr ⟨rfl,rfl,rfl⟩) Cq ?_).mono ?_
  ·rw [rnd_down,← eq1]
   rintro⟨k,_⟩
   omega
  ·rintro V2 r hR
   have hR':=hR
   obtain⟨le2,e,o,s3,f3,rfl,_⟩:=hR'
   exact⟨nofun,(e,s3,()),rfl,hR⟩
 have rp:=(rest_pos Cr ns2).1 hp
 refine(cI_roundModes V1).mono ?_
 rintro V2 _ ⟨rfl,rfl⟩
 have h17:=hm
 obtain⟨y,hy,hA⟩:=mode_row hm V2
 refine⟨fun _=>Know.le.refl _,modeRow,rfl,⟨hm.1,by have:=hm.2; omega⟩,y,hy,?_⟩
 have lr:=can_len hd Cr (by omega)
 refine(cI_natAdd V2 s2 s2 r r f2 f2 L2 L2 Cr.1 Cr.1 ?_ ?_).mono ?_
 ·have:=can_len hn Cr (by
   have e:valN n=valN q*valN d+valN r:=hv
   have:0≤valN q*valN d:=Int.mul_nonneg q0 (by omega)
   omega)
  omega
 ·have:=can_len hn Cr (by
   have e:valN n=valN q*valN d+valN r:=hv
   have:0≤valN q*valN d:=Int.mul_nonneg q0 (by omega)
   omega)
  omega
 rintro V3 _ ⟨le3,s3,o3,f3,rfl,L3,_,C3,v3,_⟩
 refine⟨fun _=>le3,s3,rfl,(cI_natCmp V3 s3 s' o3 d f3 f' L3 (h'.le (le1.trans le3))).mono ?_⟩
 rintro V4 _ ⟨rfl,rfl⟩
 refine⟨fun _=>Know.le.refl _,_,rfl,(cI_NatEven V4 s1 q f1 (L1.le le3) ⟨Cq,by omega⟩).mono ?_⟩
 rintro V5 _ ⟨rfl,rfl⟩
 obtain⟨y',hy',hA'⟩:=mode_row hm V5
 rw [hy] at hy'
 have ey:y=y':=by
  have e:=Option.some.inj hy'
  obtain⟨y1,y2,_⟩:=y
  obtain⟨z1,z2,_⟩:=y'
  have e':[Value.string y1,Value.func (.func y2) #[] #[]]=[Value.string z1,Value.func (.func z2) #[] #[]]:=e
  simp at e'
  rw [e'.1,e'.2]
 rw [← ey] at hA'
 refine⟨fun _=>Know.le.refl _,_,rfl,(hA' c _ _).mono ?_⟩
 rintro V6 _ ⟨rfl,rfl⟩
 have ecmp:cmpL o3 d=sgn (valN n % valN d+valN n % valN d-valN d):=by rw [cmpL_sgn C3 hd,v3,eq2]
 have eodd:(!(!decide (valN q % 2=1)))=decide (valN n / valN d % 2=1):=by rw [Bool.not_not,eq1]
 refine⟨fun _=>Know.le.refl _,_,rfl,fun hu=>?_,fun hu=>?_⟩
 ·rw [ecmp,eodd] at hu
  intro b cp sp hb hcp _
  have L7:=one_limb (sp:=sp) hb (show 1≤cp from hcp)
  have le7:=kset_le (x:=([Value.int .i64 1]++sp,((3:TypeId),((0,0):Nat × Nat)))) hb
  refine(cI_natAdd _ s1 ⟨some ⟨b,0,none⟩,1,cp⟩ q _ f1 [b] (L1.le (le3.trans le7)) L7 Cq.1 oneI_ok.1.1.1 (by omega) (by simp)).mono ?_
  rintro V8 _ ⟨le8,s8,o8,f8,rfl,L8,O8,C8,v8,_⟩
  have l8:=(le3.trans le7).trans le8
  refine⟨nofun,s8,rfl,(fin V8 l8 s8 o8 f8 L8 (.inl (O8.pre (le3.trans le7))) C8 ?_).mono ?_⟩
  ·rw [v8,valN_one,rnd_up ⟨by omega,hu⟩,eq1]
  ·rintro V9 r hR
   have hR':=hR
   obtain⟨_,e,o,s9,f9,rfl,_⟩:=hR'
   exact⟨nofun,(e,s9,()),rfl,hR⟩
 ·rw [ecmp,eodd] at hu
  refine(fin V6 le3 s1 q f1 (L1.le le3) (.inr ⟨rfl,rfl,rfl⟩) Cq ?_).mono ?_
  ·rw [rnd_down,← eq1]
   rintro⟨_,k⟩
   rw [k] at hu; cases hu
  ·rintro V7 r hR
   have hR':=hR
   obtain⟨_,e,o,s9,f9,rfl,_⟩:=hR'
   exact⟨nofun,(e,s9,()),rfl,hR⟩
theorem neg_ok {d:Bool} {m e:List Lim} (h:RatOkP d m e):RatOkP (!d && decide (0<m.length)) m e∧sval (!d && decide (0<m.length)) m=-sval d m:=by
 obtain⟨k1,k2⟩:=made_ok (q:=!d) h.1.1.1 (by have:=h.2.2.2.2.1; omega)
 refine⟨⟨k1,h.2⟩,?_⟩
 rw [k2]
 unfold sval
 cases d <;> simp
theorem rI_ratNeg (V:Know) (d:Bool) (s s':SlV) (m e:List Lim) (f f':List Nat) (h:LR rI V s m f) (h':LR rI V s' e f') (lm:m.length≤50) (le:e.length≤50) :
  CallX Tryz.prog V 118 [qv0 (d,s,s',())] (fun V' r=>V.le V'∧∃ t t' g g',r=qv0 (!d && decide (0<m.length),t,t',())∧LR rI V' t m g∧LR rI V' t' e g'∧Own V V' (g++(g'++[]))):=by
 refine CallX.of_fits Tryz.mix (fI_ratNeg _) fun _=>?_
 simp only [tI_ratNeg,T.wp]
 refine(cI_intNeg V d s m f h (by omega)).mono ?_
 rintro V1 _ ⟨le1,s1,f1,rfl,L1,O1⟩
 refine⟨fun _=>le1,_,rfl,(cI_natCopy V1 s' e f' (h'.le le1) (by omega)).mono ?_⟩
 rintro V2 _ ⟨le2,s2,f2,rfl,L2,O2⟩
 exact⟨fun _=>le2,s2,rfl,le1.trans le2,s1,s2,f1,f2,rfl,L1.le le2,L2,Own.append O1 (Own.append O2 Own.nil le2 (Know.le.refl _)) le1 le2⟩
theorem rI_RatSub (V:Know) (c0:Bool) (c1 c2:SlV) (d0:Bool) (d1 d2:SlV) (n d m e:List Lim) (f g f' g':List Nat) (h1:LR rI V c1 n f) (h2:LR rI V c2 d g) (h3:LR rI V d1 m f') (h4:LR rI V d2 e g') (hr:RatOkP c0 n d) (hs:RatOkP d0 m e) :
  CallX Tryz.prog V 149 [qv0 (c0,c1,c2,()),qv0 (d0,d1,d2,())] (RatPost V (sval c0 n*valN e-sval d0 m*valN d) (valN d*valN e)):=by
 refine CallX.of_fits Tryz.mix (fI_RatSub _ _) fun _=>?_
 simp only [tI_RatSub,T.wp]
 have z3:=hs.2.2.2.1
 have z4:=hs.2.2.2.2.1
 refine(cI_ratsOk V c0 c1 c2 d0 d1 d2 n d m e f g f' g' h1 h2 h3 h4 hr hs).mono ?_
 rintro V1 _ ⟨le1,rfl⟩
 refine⟨nofun,true,rfl,nofun,fun _=>(rI_ratNeg V1 d0 d1 d2 m e f' g' (h3.le le1) (h4.le le1) (by omega) (by omega)).mono ?_⟩
 rintro V2 _ ⟨le2,t,t',k,k',rfl,L2,L2',_⟩
 obtain⟨ok,es⟩:=neg_ok hs
 have l2:=le1.trans le2
 refine⟨fun _=>le2,_,rfl,(cI_RatAdd V2 c0 c1 c2 _ t t' n d m e f g k k' (h1.le l2) (h2.le l2) L2 L2' hr ok).mono ?_⟩
 rintro V3 _ ⟨le3,c4,x4,e4,f4,rfl,R4,O4,hx⟩
 rw [es,Int.neg_mul] at hx
 exact⟨fun _=>le3,(c4,e4,()),rfl,l2.trans le3,c4,x4,e4,f4,rfl,R4,O4.pre l2,hx⟩
abbrev RoundPost (V:Know) (m:Int) (x:DRat):Know→Value→Prop:=fun V' r=>V.le V'∧∃ e q s f,r=.tuple #[qv1 (e,s,()),.bool true]∧LR rI V' s q f∧Own V V' f∧RndP m x e q
theorem cI_RatRound (V:Know) (x:DRat) (s s':SlV) (f f':List Nat) (h:LR rI V s x.2.1 f) (h':LR rI V s' x.2.2.1 f') (ok:RatOkP x.1 x.2.1 x.2.2.1) (m:Int) (hm:RmP m) :
  CallX Tryz.prog V 148 [qv0 (x.1,s,s',()),.int .i64 m] (RoundPost V m x):=by
 refine CallX.of_fits Tryz.mix (fI_RatRound _ _) fun _=>?_
 simp only [tI_RatRound,T.wp]
 have z:=ok.2.2.2.2.1
 refine(cI_RatOk V x.1 s s' x.2.1 x.2.2.1 f f' h h').mono ?_
 rintro V1 _ ⟨le1,e1,rfl,he⟩
 obtain rfl:e1=true:=he.2 ok
 refine⟨nofun,true,rfl,nofun,fun _=>(rI_isMode V1 m).mono ?_⟩
 rintro V2 _ ⟨rfl,rfl⟩
 refine⟨nofun,_,rfl,fun hn=>?_,fun _=>(cI_roundQuotient V2 x.1 s s' x.2.1 x.2.2.1 f f' (h.le le1) (h'.le le1) ok.1.1.1 ok.2.1.1 (by omega) ok.2.2.1 m hm).mono ?_⟩
 ·rw [decide_eq_true (show 0≤m∧m≤6 from hm)] at hn; cases hn
 rintro V3 _ ⟨le3,e,q,s3,f3,rfl,L3,O3,C3,v3,e3⟩
 exact⟨nofun,(e,s3,()),rfl,le1.trans le3,e,q,s3,f3,rfl,L3,O3.pre le1,C3,v3,e3⟩
theorem left_of {m:Int} {x w y:DRat} {e:Bool} {q:List Lim} {ey:Bool} (ok:RatOkP x.1 x.2.1 x.2.2.1) (hq:RndP m x e q) (hw:RedS (sval e q) 1 w true) (hy:RedS (sval x.1 x.2.1*valN w.2.2.1-sval w.1 w.2.1*valN x.2.2.1) (valN x.2.2.1*valN w.2.2.1) y ey):ey=true∧LeftP x e q y:=by
 have xp:=(can_pos ok.2.1.1).1 ok.2.2.1
 obtain⟨v1,wp,_⟩:=redS_val (by decide) hw
 rw [Int.mul_one] at v1
 have key:RedS (sval x.1 x.2.1-sval e q*valN x.2.2.1) (valN x.2.2.1) y ey:=by
  refine redS_cross (Int.mul_pos xp wp) xp ?_ hy
  rw [v1]
  grind
 obtain⟨b1,b2,b3⟩:=left_bd ok hq
 obtain rfl:=redS_fits b2 key b1 b3
 exact⟨rfl,key⟩
abbrev RestPost (V:Know) (m:Int) (x:DRat):Know→Value→Prop:=fun V' r=>V.le V'∧∃ e q s f y c g,r=.tuple #[qv1 (e,s,()),qv0 c,.bool true]∧LR rI V' s q f∧rRat.R V' c y g∧Own V V' (f++g)∧RndP m x e q∧LeftP x e q y
theorem cI_RatRest (V:Know) (x:DRat) (s s':SlV) (f f':List Nat) (h:LR rI V s x.2.1 f) (h':LR rI V s' x.2.2.1 f') (ok:RatOkP x.1 x.2.1 x.2.2.1) (m:Int) (hm:RmP m) :
  CallX Tryz.prog V 121 [qv0 (x.1,s,s',()),.int .i64 m] (RestPost V m x):=by
 refine CallX.of_fits Tryz.mix (fI_RatRest _ _) fun _=>?_
 simp only [tI_RatRest,T.wp]
 refine(cI_RatRound V x s s' f f' h h' ok m hm).mono ?_
 rintro V1 _ ⟨le1,e,q,s1,f1,rfl,L1,O1,hq⟩
 obtain⟨q1,q2,_⟩:=rnd_len ok hq
 refine⟨nofun,((e,s1,()),true,()),rfl,nofun,fun _=>(cI_RatInt V1 e s1 q f1 L1 q2).mono ?_⟩
 rintro V2 _ ⟨le2,c2,w,e2,f2,rfl,R2,O2,hw⟩
 obtain⟨_,ee⟩:=redS_inj (by decide) hw (int_red q2 q1)
 subst ee
 have l2:=le1.trans le2
 obtain⟨a5,b5,g5,g5',rfl,A5,B5,rfl⟩:=rat_elim R2
 refine⟨nofun,(_,true,()),rfl,(rI_RatSub V2 x.1 s s' w.1 a5 b5 x.2.1 x.2.2.1 w.2.1 w.2.2.1 f f' _ _ (h.le l2) (h'.le l2) A5 B5 ok (redS_ok (by decide) hw rfl)).mono ?_⟩
 rintro V3 _ ⟨le3,c3,y,e3,f3,rfl,R3,O3,hy⟩
 obtain⟨ee,hl⟩:=left_of ok hq hw hy
 subst ee
 exact⟨nofun,(c3,true,()),rfl,nofun,fun _=>⟨nofun,fun _=>⟨l2.trans le3,e,q,s1,f1,y,c3,f3,rfl,L1.le (le2.trans le3),R3,Own.append O1 (O3.pre le2) le1 (le2.trans le3),hq,hl⟩⟩⟩
abbrev MkPost (V:Know) (to:ByteArray) (e:Bool) (s:SlV) (q:List Lim):Know→Value→Prop:=fun V' r=>V.le V'∧((q.length≤4∧r=.tuple #[qv2 (to,e,s,()),.bool true])∨(¬ q.length≤4∧r=.tuple #[qv2 (ByteArray.empty,false,⟨none,0,0⟩,()),.bool false]))
theorem rI_moneyOf {V:Know} (hV:HcI V) (to:ByteArray) (e:Bool) (s:SlV) (q:List Lim) (f:List Nat) (h:LR rI V s q f) (k:known to=true) (ok:IntOkP e q) :
  CallX Tryz.prog V 56 [.string to,qv1 (e,s,())] (MkPost V to e s q):=by
 refine CallX.of_fits Tryz.mix (fI_moneyOf _ _) fun _=>?_
 simp only [tI_moneyOf,T.wp]
 refine(cI_MoneyOk hV to e s q f h).mono ?_
 rintro V1 _ ⟨le1,b,rfl,hb⟩
 refine⟨nofun,b,rfl,fun hy=>⟨le1,.inl ⟨(hb.1 hy).2.2,rfl⟩⟩,fun hn=>⟨le1,.inr ⟨fun kk=>?_,rfl⟩⟩⟩
 rw [hb.2 ⟨k,ok,kk⟩] at hn; cases hn
theorem known_len {x:ByteArray} (h:known x=true):x.size≤9223372036854775807:=by
 unfold known curFrom at h
 cases hf:(curI.drop 0).find? (curHas x) with
 | none=>rw [hf] at h; cases h
 | some r =>
  have h1:=List.find?_some hf
  have h2:=List.mem_of_find?_eq_some hf
  have h3:∀ r∈curI,r.1.size≤9223372036854775807:=by decide +kernel
  have e:r.1=x:=text_eq.1 h1
  rw [← e]
  exact h3 r (by simpa using h2)
abbrev AmtPost (V:Know) (to:ByteArray) (m:Int) (x:DRat):Know→Value→Prop:=fun V' r=>V.le V'∧∃ c mo f c' ra g ok,r=.tuple #[qv2 c,qv0 c',.bool ok]∧rMoney.R V' c mo f∧rRat.R V' c' ra g∧Own V V' (f++g)∧OutP to m x mo ra ok
theorem money_mk {V:Know} {to:ByteArray} {e:Bool} {s:SlV} {q:List Lim} {f:List Nat} (k:to.size≤9223372036854775807) (h:LR rI V s q f):rMoney.R V (to,e,s,()) (to,e,q,()) (f++[]):=⟨⟨rfl,k⟩,rfl,f,[],rfl,h,rfl⟩
theorem money_0 {V:Know}:rMoney.R V (ByteArray.empty,false,⟨none,0,0⟩,()) (ByteArray.empty,false,[],()) ([]++[]):=money_mk (by decide) lr_nil
theorem rat_0 {V:Know}:rRat.R V (false,⟨none,0,0⟩,⟨none,0,0⟩,()) (false,[],[],()) ([]++([]++[])):=rat_mk lr_nil lr_nil
theorem cI_RatMoney {V:Know} (hV:HcI V) (to:ByteArray) (x:DRat) (s s':SlV) (f f':List Nat) (h:LR rI V s x.2.1 f) (h':LR rI V s' x.2.2.1 f') (ok:RatOkP x.1 x.2.1 x.2.2.1) (m:Int) (hm:RmP m) (k:known to=true) :
  CallX Tryz.prog V 95 [.string to,qv0 (x.1,s,s',()),.int .i64 m] (AmtPost V to m x):=by
 refine CallX.of_fits Tryz.mix (fI_RatMoney _ _ _) fun _=>?_
 simp only [tI_RatMoney,T.wp]
 refine(cI_RatRest V x s s' f f' h h' ok m hm).mono ?_
 rintro V1 _ ⟨le1,e,q,s1,f1,y,c1,g1,rfl,L1,R1,O1,hq,hl⟩
 refine⟨nofun,((e,s1,()),c1,true,()),rfl,nofun,fun _=>(rI_moneyOf (hV.le le1) to e s1 q f1 L1 k (rnd_len ok hq).2.1).mono ?_⟩
 rintro V2 _ ⟨le2,⟨hy,rfl⟩ | ⟨hn,rfl⟩⟩
 ·refine⟨nofun,((to,e,s1,()),true,()),rfl,nofun,fun _=>⟨le1.trans le2,_,_,_,_,y,g1,true,rfl,money_mk (known_len k) (L1.le le2),rRat.le R1 le2,?_,e,q,hq,.inl ⟨hy,rfl,rfl,hl⟩⟩⟩
  rw [List.append_nil]; exact O1.post le2
 ·exact⟨nofun,((ByteArray.empty,false,⟨none,0,0⟩,()),false,()),rfl,fun _=>⟨le1.trans le2,_,_,_,_,_,_,false,rfl,money_0,rat_0,Own.nil,e,q,hq,.inr ⟨hn,rfl,rfl,rfl⟩⟩,nofun⟩
abbrev zeroM:DMoney:=(ByteArray.empty,false,[],())
abbrev zeroR:DRat:=(false,[],[],())
abbrev nought:DRat:=(false,[],[((1:Int),())],())
theorem nought_ok:RatOkP nought.1 nought.2.1 nought.2.2.1:=zero_ok
end Go.Proofs.YtmppmpceccpdlaaGreatDoor
