/-
  A rate is put into a table, in the program and in the reference; copies of tables that may grow. RatePut in the program and in the reference: a rate takes the place of the one with the same pair, or comes last.
-/
import Derived.Test.YtccnjccabllcaaaGreatDoorPut
import Derived.Test.YtccnjccabllcaaaGreatDoorCopy
import Derived.Test.YtccnjccabllcaaaGreatDoorLedB
namespace Go.Proofs.YtccnjccabllcaaaGreatDoor
open Sx
set_option maxRecDepth 100000
theorem rates_elim {V:Know} {c:Scs [.s,.l]} {x:DRates} {f:List Nat} (h:rRates.R V c x f):∃ s g,c=(x.1,s,())∧LR rRate V s x.2.1 g:=by
 obtain⟨c0,c1,cu⟩:=c
 obtain⟨⟨e0,_⟩,g,r,rfl,hs,_⟩:=h
 replace e0:c0=x.1:=e0
 subst e0
 exact⟨c1,g,rfl,hs⟩
abbrev ratT:TypeId:=60
abbrev GrowPost (V:Know) (x:DRates):Know→Value→Prop:=fun V' r=>V.le V'∧∃ s f,r=Sh1.val (.g [.s,.l]) (x.1,s,())∧GR rRate ratT V' s x.2.1 f∧Own V V' f
theorem growI_rates (V:Know) (c:Scs [.s,.l]) (x:DRates) (f:List Nat) (hx:rRates.R V c x f) (ht:rRates.tot x≤1048576):CallX Tryz.prog V gI_ratesCopy [Sh1.val (.g [.s,.l]) c] (GrowPost V x):=by
 obtain⟨p0,s,cu⟩:=c
 obtain⟨q0,l,xu⟩:=x
 obtain⟨⟨ep,zp⟩,hx⟩:=hx
 replace ep:p0=q0:=ep
 subst ep
 obtain⟨f1,fr1,ef,sc,hx⟩:=hx
 subst ef
 replace sc:LR rRate _ s l f1:=sc
 replace hx:_=[]:=hx
 subst hx
 replace ht:(p0.size+(l.length+totE rRate l+0))≤1048576:=ht
 have hn:=sc.1
 refine CallX.of_fits Tryz.mix (fI_ratesCopy _) fun _=>?_
 simp only [tI_ratesCopy,ap_d,T.wp]
 refine⟨fun y V'=>y.2.1=p0∧CopyI rRate ratT V l y.1 y.2.2.1 V',fun y _=>((l.length:Int)-(y.1:Int)).toNat,⟨((0:Int),p0,⟨none,0,0⟩,()),rfl,rfl,CopyI.start⟩,?_⟩
 rintro⟨(i:Int),p1,s1,u⟩ V' ⟨hp,hI⟩
 replace hp:p1=p0:=hp
 subst hp
 have hI':CopyI rRate ratT V l i s1 V':=hI
 refine⟨fun hlt=>?_,fun hge=>?_⟩
 ·have hI0:=hI'
  obtain⟨hle,k,f0,rfl,hk,_,_⟩:=hI'
  have h1:k<l.length:=by
   have:(k:Int)<(s.n:Int):=by simpa using hlt
   omega
  obtain⟨b1,o1,c1,fc,a1,l1,r1,_⟩:=(sc.le hle).at h1
  have htx:=totE_mem rRate h1
  refine⟨_,a1,(by omega:(0:Int)≤(k:Int)),(by omega:(k:Int)<(s.n:Int)),c1,l1,?_⟩
  refine(kI_rateCopy V' c1 l[k] fc r1 (by omega)).mono ?_
  rintro V2 r ⟨hle2,⟨c2,c3,c4,c5,c6,cv⟩,f2,rfl,hR,hO⟩
  refine⟨fun _=>hle2,(c2,c3,c4,c5,c6,()),rfl,rfl,rfl,?_⟩
  refine copy_end (sh:=[.s,.s,.b,.l,.i .i64]) (c:=(c2,c3,c4,c5,c6,())) hI0 h1 hle2 (e:=rRate) (bytes:=72) (fx:=f2) hR hO (by kernel_rfl) (by omega) (by omega) fun s' V3 h3=>?_
  refine⟨_,rfl,(((k+1:Nat):Int),p1,s',()),by rw [nxt h1 (by omega)]; rfl,⟨rfl,h3⟩,?_⟩
  show((l.length:Int)-((k+1:Nat):Int)).toNat<((l.length:Int)-(k:Int)).toNat
  omega
 ·have hi:¬ i<(l.length:Int):=by
   have:¬ i<(s.n:Int):=by simpa using hge
   omega
  obtain⟨hle,f3,hL,hO⟩:=hI'.finG hi
  exact⟨hle,s1,f3,rfl,hL,hO⟩
theorem kS_l10Rate (V:Know) (c:Scs [.s,.s,.b,.l,.i .i64]) (x:DRate) (f:List Nat) (h:rRate.R V c x f) (ok:RateOkP x) :
  CallX Tryz.prog V gS_l10Rate [Sh1.val (.g [.s,.s,.b,.l,.i .i64]) c] (fun V' r=>V.le V'∧∃ c' f',r=Sh1.val (.g [.s,.s,.b,.l,.i .i64]) c'∧rRate.R V' c' x f'∧Own V V' f'):=by
 obtain⟨c0,c1,c2,c3,c4,cu⟩:=c
 obtain⟨x0,x1,x2,x3,x4,xu⟩:=x
 obtain⟨⟨e0,z0⟩,h⟩:=h
 replace e0:c0=x0:=e0
 subst e0
 obtain⟨⟨e1,z1⟩,h⟩:=h
 replace e1:c1=x1:=e1
 subst e1
 obtain⟨e2,h⟩:=h
 replace e2:c2=x2:=e2
 subst e2
 obtain⟨g,g2,_,hs,h⟩:=h
 replace hs:LR rI V c3 x3 g:=hs
 obtain⟨e4,_⟩:=h
 replace e4:c4=x4:=e4
 subst e4
 have oi:IntOkP c2 x3:=ok.2.2.2.1.1
 refine CallX.of_fits Tryz.mix (fS_l10Rate _) fun _=>?_
 simp only [tS_l10Rate,T.wp]
 refine(cS_l04Make V c2 c3 x3 g hs oi.1.1 oi.1.2).mono ?_
 rintro V1 _ ⟨le1,s1,f1,rfl,L1,O1⟩
 refine⟨fun _=>le1,_,rfl,le1,(c0,c1,c2,s1,c4,()),_,?_,rStr.mk z0 (rStr.mk z1 (rBool.mk (rSl.mk L1 (rInt.mk rNil.mk)))),by simpa using O1⟩
 have:(c2 && decide (0<x3.length))=c2:=by
  cases c2
  ·rfl
  ·have:=oi.2 rfl
   simpa using this
 show Sh1.val (.g [.s,.s,.b,.l,.i .i64]) (c0,c1,(c2 && decide (0<x3.length)),s1,c4,())=_
 rw [this]
theorem growS_rates (V:Know) (c:Scs [.s,.l]) (x:DRates) (f:List Nat) (hx:rRates.R V c x f) (ht:rRates.tot x≤1048576) (ok:∀ i (h:i<x.2.1.length),RateOkP x.2.1[i]):CallX Tryz.prog V gS_l10Copy [Sh1.val (.g [.s,.l]) c] (GrowPost V x):=by
 obtain⟨p0,s,cu⟩:=c
 obtain⟨q0,l,xu⟩:=x
 obtain⟨⟨ep,zp⟩,hx⟩:=hx
 replace ep:p0=q0:=ep
 subst ep
 obtain⟨f1,fr1,ef,sc,hx⟩:=hx
 subst ef
 replace sc:LR rRate _ s l f1:=sc
 replace hx:_=[]:=hx
 subst hx
 replace ht:(p0.size+(l.length+totE rRate l+0))≤1048576:=ht
 have hn:=sc.1
 refine CallX.of_fits Tryz.mix (fS_l10Copy _) fun _=>?_
 simp only [tS_l10Copy,ap_d,T.wp]
 refine⟨fun y V'=>y.2.1=p0∧CopyI rRate ratT V l y.1 y.2.2.1 V',fun y _=>((l.length:Int)-(y.1:Int)).toNat,⟨((0:Int),p0,⟨none,0,0⟩,()),rfl,rfl,CopyI.start⟩,?_⟩
 rintro⟨(i:Int),p1,s1,u⟩ V' ⟨hp,hI⟩
 replace hp:p1=p0:=hp
 subst hp
 have hI':CopyI rRate ratT V l i s1 V':=hI
 refine⟨fun hlt=>?_,fun hge=>?_⟩
 ·have hI0:=hI'
  obtain⟨hle,k,f0,rfl,hk,_,_⟩:=hI'
  have h1:k<l.length:=by
   have:(k:Int)<(s.n:Int):=by simpa using hlt
   omega
  obtain⟨b1,o1,c1,fc,a1,l1,r1,_⟩:=(sc.le hle).at h1
  have htx:=totE_mem rRate h1
  refine⟨_,a1,(by omega:(0:Int)≤(k:Int)),(by omega:(k:Int)<(s.n:Int)),c1,l1,?_⟩
  refine(kS_l10Rate V' c1 l[k] fc r1 (ok k h1)).mono ?_
  rintro V2 r ⟨hle2,⟨c2,c3,c4,c5,c6,cv⟩,f2,rfl,hR,hO⟩
  refine⟨fun _=>hle2,(c2,c3,c4,c5,c6,()),rfl,rfl,rfl,?_⟩
  refine copy_end (sh:=[.s,.s,.b,.l,.i .i64]) (c:=(c2,c3,c4,c5,c6,())) hI0 h1 hle2 (e:=rRate) (bytes:=72) (fx:=f2) hR hO (by kernel_rfl) (by omega) (by omega) fun s' V3 h3=>?_
  refine⟨_,rfl,(((k+1:Nat):Int),p1,s',()),by rw [nxt h1 (by omega)]; rfl,⟨rfl,h3⟩,?_⟩
  show((l.length:Int)-((k+1:Nat):Int)).toNat<((l.length:Int)-(k:Int)).toNat
  omega
 ·have hi:¬ i<(l.length:Int):=by
   have:¬ i<(s.n:Int):=by simpa using hge
   omega
  obtain⟨hle,f3,hL,hO⟩:=hI'.finG hi
  exact⟨hle,s1,f3,rfl,hL,hO⟩
theorem kS_l20Rates:ToC Tryz.prog gS_l20Rates rRates:=by
 rintro V ⟨p0,s,cu⟩ ⟨q0,l,xu⟩ f hx ht
 obtain⟨⟨ep,zp⟩,hx⟩:=hx
 replace ep:p0=q0:=ep
 subst ep
 obtain⟨f1,fr1,ef,sc,hx⟩:=hx
 subst ef
 replace sc:LR rRate _ s l f1:=sc
 replace hx:_=[]:=hx
 subst hx
 replace ht:(p0.size+(l.length+totE rRate l+0))≤1048576:=ht
 have hn:=sc.1
 refine CallX.of_fits Tryz.mix (fS_l20Rates _) fun _=>?_
 show T.wp _ _ (T.lp [.o (.o (.i .i64)),.o (.o (.s)),.o (.o (.l))] [.v (.int .i64 (0:Int)),.v (.string p0),.v (.slice none 0 0)] fun y1=>.br (decide (y1.1<(s.n:Int))) (.el s.a s.n y1.1 fun y2=>.ld false (y2.add (Int.toNat y1.1*(5:Nat))) (.g [.s,.s,.b,.l,.i .i64]) fun y3=>.rg <| litT y3.2.2.2.1 fun s5 =>
  .rq ([Value.string y3.1,.string y3.2.1,.bool y3.2.2.1,.slice s5.a s5.n s5.c,.int .i64 y3.2.2.2.2.1].length=(1:Nat)*(5:Nat)) <| .rq (one [Value.string y3.1,.string y3.2.1,.bool y3.2.2.1,.slice s5.a s5.n s5.c,.int .i64 y3.2.2.2.2.1]=true) <|
  apD y1.2.2.1 5 72 [Value.string y3.1,.string y3.2.1,.bool y3.2.2.1,.slice s5.a s5.n s5.c,.int .i64 y3.2.2.2.2.1] 1 ratT fun y6=>.nx 0 [.v (.int .i64 (IntKind.i64.wrap (y1.1+(1:Int)))),.v (.string y1.2.1),.v (Sc.val .l y6)]) <| .ret [Sh1.val (.g [.s,.l]) y1.2]) V V []
 simp only [T.wp]
 refine⟨fun y V'=>y.2.1=p0∧CopyI rRate ratT V l y.1 y.2.2.1 V',fun y _=>((l.length:Int)-(y.1:Int)).toNat,⟨((0:Int),p0,⟨none,0,0⟩,()),rfl,rfl,CopyI.start⟩,?_⟩
 rintro⟨(i:Int),p1,s1,u⟩ V' ⟨hp,hI⟩
 replace hp:p1=p0:=hp
 subst hp
 have hI':CopyI rRate ratT V l i s1 V':=hI
 refine⟨fun hlt=>?_,fun hge=>?_⟩
 ·have hI0:=hI'
  obtain⟨hle,k,f0,rfl,hk,_,_⟩:=hI'
  have h1:k<l.length:=by
   have:(k:Int)<(s.n:Int):=by simpa using hlt
   omega
  obtain⟨b1,o1,c1,fc,a1,l1,r1,_⟩:=(sc.le hle).at h1
  have htx:=totE_mem rRate h1
  refine⟨_,a1,(by omega:(0:Int)≤(k:Int)),(by omega:(k:Int)<(s.n:Int)),c1,l1,?_⟩
  obtain⟨c2,c3,c4,c5,c6,cv⟩:=c1
  obtain⟨⟨e0,z0⟩,r2⟩:=r1
  replace e0:c2=l[k].1:=e0
  obtain⟨⟨e1,z1⟩,r2⟩:=r2
  replace e1:c3=l[k].2.1:=e1
  obtain⟨e2,r2⟩:=r2
  replace e2:c4=l[k].2.2.1:=e2
  obtain⟨g,g2,_,hs,r2⟩:=r2
  replace hs:LR rI V' c5 l[k].2.2.2.1 g:=hs
  obtain⟨e4,_⟩:=r2
  replace e4:c6=l[k].2.2.2.2.1:=e4
  have tq:l[k].2.2.2.1.length≤1048576:=by
   have e:rRate.tot l[k]=l[k].1.size+(l[k].2.1.size+(l[k].2.2.2.1.length+totE rI l[k].2.2.2.1+0)):=rfl
   omega
  refine litT_wp hs tq fun V2 s' f2 hle2 L2 O2=>⟨rfl,rfl,?_⟩
  refine copy_end (sh:=[.s,.s,.b,.l,.i .i64]) (c:=(c2,c3,c4,s',c6,())) hI0 h1 hle2 (e:=rRate) (bytes:=72) (fx:=f2++[]) ⟨⟨e0,z0⟩,⟨e1,z1⟩,e2,f2,[],rfl,L2,e4,rfl⟩ (by simpa using O2) (by kernel_rfl) (by omega) (by omega) fun s' V3 h3=>?_
  refine⟨_,rfl,(((k+1:Nat):Int),p1,s',()),by rw [nxt h1 (by omega)]; rfl,⟨rfl,h3⟩,?_⟩
  show((l.length:Int)-((k+1:Nat):Int)).toNat<((l.length:Int)-(k:Int)).toNat
  omega
 ·have hi:¬ i<(l.length:Int):=by
   have:¬ i<(s.n:Int):=by simpa using hge
   omega
  obtain⟨hle,f3,hL,hO⟩:=hI'.fin (by omega) hi
  exact⟨hle,(p1,s1,()),f3++[],rfl,rStr.mk zp (rSl.mk hL rNil.mk),by simpa using hO⟩
def putR (r:DRate):List DRate→List DRate
 | []=>[r]
 | x :: l=>if rkey x=rkey r then r :: l else x :: putR r l
theorem putR_at {r:DRate}:∀ {l:List DRate} {i:Nat} (h:i<l.length),rkey l[i]=rkey r→(∀ (j:Nat) (hj:j<l.length),j<i→rkey l[j]≠rkey r)→putR r l=l.set i r
 | x :: l,0,_,e,_=>by
  have e:rkey x=rkey r:=e
  rw [putR,if_pos e,List.set_cons_zero]
 | x :: l,i+1,h,e,hj=>by
  have h0:rkey x≠rkey r:=hj 0 (by simp) (by omega)
  rw [putR,if_neg h0,List.set_cons_succ,putR_at (l:=l) (i:=i) (by simpa using h) (by simpa using e) fun j hj' hji=>by
   have:=hj (j+1) (by simpa using hj') (by omega)
   simpa using this]
theorem putR_none {r:DRate}:∀ {l:List DRate},(∀ (j:Nat) (hj:j<l.length),rkey l[j]≠rkey r)→putR r l=l++[r]
 | [],_=>rfl
 | x :: l,h=>by
  have h0:rkey x≠rkey r:=h 0 (by simp)
  rw [putR,if_neg h0,putR_none (l:=l) fun j hj=>by
   have:=h (j+1) (by simpa using hj)
   simpa using this]
  rfl
theorem ratesOk_set {p:ByteArray} {l:List DRate} {r:DRate} (h:RatesOkP p l) (hr:RateOkP r) {i:Nat} (hi:i<l.length) (e:rkey l[i]=rkey r):RatesOkP p (l.set i r):=by
 have hk:∀ (j:Nat) (hj:j<(l.set i r).length),rkey (l.set i r)[j]=rkey (l[j]'(by simpa using hj)):=fun j hj=>by
  rw [List.getElem_set]
  split
  ·rename_i ij; subst ij; exact e.symm
  ·rfl
 refine⟨h.1,by rw [List.length_set]; exact h.2.1,fun j hj=>?_⟩
 obtain⟨q0,q1,q2⟩:=h.2.2 j (by simpa using hj)
 refine⟨hj,?_,fun m hm hmj=>by rw [hk,hk]; exact q2 m (by simpa using hm) hmj⟩
 rw [List.getElem_set]
 split
 ·exact hr
 ·exact q1
theorem ratesOk_snoc {p:ByteArray} {l:List DRate} {r:DRate} (h:RatesOkP p l) (hr:RateOkP r) (hn:∀ (j:Nat) (hj:j<l.length),rkey l[j]≠rkey r):RatesOkP p (l++[r])↔l.length+1≤12:=by
 refine⟨fun k=>by simpa using k.2.1,fun k=>⟨h.1,by simpa using k,fun j hj=>?_⟩⟩
 by_cases c:j<l.length
 ·obtain⟨q0,q1,q2⟩:=h.2.2 j c
  refine⟨hj,by rw [List.getElem_append_left c]; exact q1,fun m hm hmj=>?_⟩
  rw [List.getElem_append_left c,List.getElem_append_left (by omega)]
  exact q2 m (by omega) hmj
 ·obtain rfl:j=l.length:=by simp at hj; omega
  refine⟨hj,by simpa using hr,fun m hm hmj=>?_⟩
  rw [List.getElem_append_left hmj]
  simpa using hn m hmj
def PutOk (p:ByteArray) (l:List DRate) (r:DRate):Prop:=RatesOkP p l∧RateOkP r∧(putR r l).length≤12
open Classical in
noncomputable def putP (x:DRates) (r:DRate):DRates × Bool:=if PutOk x.1 x.2.1 r then ((x.1,putR r x.2.1,()),true) else ((ByteArray.empty,[],()),false)
theorem putP_ok {x:DRates} {r:DRate} (h:PutOk x.1 x.2.1 r):putP x r=((x.1,putR r x.2.1,()),true):=if_pos h
theorem putP_no {x:DRates} {r:DRate} (h:¬ PutOk x.1 x.2.1 r):putP x r=((ByteArray.empty,[],()),false):=if_neg h
abbrev PutPost (V:Know) (y:DRates × Bool):Know→Value→Prop:=fun V' v=>V.le V'∧∃ c f,v=.tuple #[Sh1.val (.g [.s,.l]) c,.bool y.2]∧rRates.R V' c y.1 f∧Own V V' f
theorem rates_nil (V:Know):rRates.R V (ByteArray.empty,⟨none,0,0⟩,()) (ByteArray.empty,[],()) []:=rStr.mk (by decide) (rSl.mk (f:=[]) ⟨rfl,Nat.le_refl _,by decide,.inl ⟨rfl,fun _=>rfl,rfl⟩⟩ rNil.mk)
theorem put_no {V V':Know} {x:DRates} {r:DRate} (le:V.le V') (h:¬ PutOk x.1 x.2.1 r):PutPost V (putP x r) V' (packed [Sh1.val (.g [.s,.l]) (ByteArray.empty,⟨none,0,0⟩,()),.bool false]):=by
 rw [putP_no h]
 exact⟨le,(ByteArray.empty,⟨none,0,0⟩,()),[],rfl,rates_nil V',Own.nil⟩
theorem rate_cell {V:Know} {c:Scs [.s,.s,.b,.l,.i .i64]} {x:DRate} {f:List Nat} (h:rRate.R V c x f):c.1=x.1∧c.2.1=x.2.1:=⟨h.1.1,h.2.1.1⟩
theorem cS_RatePut {V:Know} (hV:HcS V) (c:Scs [.s,.l]) (x:DRates) (f:List Nat) (h:rRates.R V c x f) (ht:rRates.tot x≤1048576) (d:Scs [.s,.s,.b,.l,.i .i64]) (r:DRate) (g:List Nat) (hr:rRate.R V d r g) (_:rRate.tot r≤1048576) :
  CallX Tryz.prog V gS_RatePut [Sh1.val (.g [.s,.l]) c,Sh1.val (.g [.s,.s,.b,.l,.i .i64]) d] (PutPost V (putP x r)):=by
 refine CallX.of_fits Tryz.mix (fS_RatePut _ _) fun _=>?_
 obtain⟨s,fl,rfl,hl⟩:=rates_elim h
 have hn:=hl.1
 obtain⟨s3,g3,rfl,hm⟩:=rate_elim hr
 simp only [tS_RatePut,ap_d,T.wp]
 refine(cS_RatesOk x.1 s x.2.1 fl hl).mono ?_
 rintro V1 _ ⟨le1,e1,rfl,he1⟩
 refine⟨nofun,e1,rfl,fun hf=>put_no le1 fun k=>?_,fun h1=>?_⟩
 ·rw [he1.2 k.1] at hf; cases hf
 have ok1:=he1.1 (by simpa using h1)
 refine(cS_RateOk (hV.le le1) r s3 g3 (hm.le le1)).mono ?_
 rintro V2 _ ⟨le2,e2,rfl,he2⟩
 have l2:=le1.trans le2
 refine⟨nofun,e2,rfl,fun hf=>put_no l2 fun k=>?_,fun h2=>?_⟩
 ·rw [he2.2 k.2.1] at hf; cases hf
 have ok2:=he2.1 (by simpa using h2)
 refine(growS_rates V2 _ x f (rRates.le h l2) ht (fun i hi=>by obtain⟨_,q,_⟩:=ok1.2.2 i hi; exact q)).mono ?_
 rintro V3 _ ⟨le3,s',f',rfl,G3,O3⟩
 have l3:=l2.trans le3
 have h12:=ok1.2.1
 refine⟨nofun,(x.1,s',()),rfl,(cS_l10AtX V3 s x.2.1 fl (hl.le l3) r.1 r.2.1).mono ?_⟩
 rintro V4 _ ⟨rfl,k,rfl,hk⟩
 have L3:=G3.lr (show x.2.1.length≤9223372036854775807 by omega)
 refine⟨nofun,k,rfl,fun hge=>?_,fun hlt=>?_⟩
 ·obtain⟨i,hi,rfl,hki,hj⟩:∃ (i:Nat) (hi:i<x.2.1.length),k=(i:Int)∧rkey x.2.1[i]=(r.1,r.2.1)∧∀ (j:Nat) (hj:j<x.2.1.length),j<i→rkey x.2.1[j]≠(r.1,r.2.1):=by
   rcases hk with hk | ⟨rfl,_⟩
   ·exact hk
   ·exact absurd (show(-1:Int)≥0 from of_decide_eq_true hge) (by omega)
  have hput:=putR_at hi hki hj
  have hok:PutOk x.1 x.2.1 r:=⟨ok1,ok2,by rw [hput,List.length_set]; exact h12⟩
  refine(kS_l10Rate V4 _ r g (rRate.le hr l3) ok2).mono ?_
  rintro V5 _ ⟨le5,c5,f5,rfl,R5,O5⟩
  obtain⟨b,o,cs,u,c6,fc,ha,hb,hlen,_,_,_,hset⟩:=(L3.le le5).putRow (V0:=V2) (O3.post le5) hi
  have l5:=l3.trans le5
  have hn':=L3.1
  have e0:(i:Int).toNat=i:=by omega
  obtain⟨q0,q1,q2,q3,q4,qu⟩:=c5
  obtain⟨fN,LN,ON,leN,_⟩:=hset (k:=0) (vs:=Scs.vals [.s,.s,.b,.l,.i .i64] (q0,q1,q2,q3,q4,())) (Know.le.refl _) (le3.trans le5) R5 (O3.append O5 le3 le5) (by simp [vals_len]) (setl_whole (by rw [vals_len,vals_len]))
  refine⟨fun _=>le5,_,rfl,_,ha,(by omega:(0:Int)≤(i:Int)),(by show(i:Int)<(s'.n:Int); omega),?_⟩
  rw [e0]
  simp only [addr_add_eq]
  refine⟨cs,u,trivial,hb,hlen,?_⟩
  refine(cS_RatesOk x.1 s' (x.2.1.set i r) fN LN).mono ?_
  rintro V6 _ ⟨le6,e6,rfl,he6⟩
  obtain rfl:e6=true:=he6.2 (ratesOk_set ok1 ok2 hi hki)
  refine⟨nofun,true,rfl,nofun,fun _=>?_⟩
  rw [putP_ok hok,hput]
  exact⟨l2.trans (leN.trans le6),(x.1,s',()),fN++[],rfl,rStr.mk (h.1.2) (rSl.mk (LN.le le6) rNil.mk),by simpa using (ON.post le6).pre l2⟩
 ·have hno:∀ (j:Nat) (hj:j<x.2.1.length),rkey x.2.1[j]≠(r.1,r.2.1):=by
   rcases hk with ⟨i,_,rfl,_⟩ | ⟨_,hk⟩
   ·exact absurd (show ¬ (i:Int)≥0 from of_decide_eq_false hlt) (by omega)
   ·exact hk
  have hput:=putR_none (r:=r) hno
  refine(kS_l10Rate V4 _ r g (rRate.le hr l3) ok2).mono ?_
  rintro V5 _ ⟨le5,⟨q0,q1,q2,q3,q4,qu⟩,f5,rfl,R5,O5⟩
  refine⟨fun _=>le5,_,rfl,rfl,rfl,?_⟩
  refine ap_row (r:=rRate) (sh:=[.s,.s,.b,.l,.i .i64]) (c:=(q0,q1,q2,q3,q4,())) (V0:=V2) (G3.le le5) R5 (O3.append O5 le3 le5) (le3.trans le5) (by kernel_rfl) (by omega) (by omega) fun s6 V6 f6 G6 O6 le6=>?_
  have L6:=G6.lr (by simp; omega)
  refine(cS_RatesOk x.1 s6 (x.2.1++[r]) f6 L6).mono ?_
  rintro V7 _ ⟨le7,e7,rfl,he7⟩
  have hl7:=l2.trans (le6.trans le7)
  refine⟨nofun,e7,rfl,fun hf=>put_no hl7 fun k=>?_,fun hT=>?_⟩
  ·have k3:=k.2.2
   rw [hput] at k3
   rw [he7.2 ((ratesOk_snoc ok1 ok2 hno).2 (by simpa using k3))] at hf
   cases hf
  ·have k7:=he7.1 (by simpa using hT)
   rw [putP_ok ⟨ok1,ok2,by rw [hput]; exact k7.2.1⟩,hput]
   exact⟨hl7,(x.1,s6,()),f6++[],rfl,rStr.mk (h.1.2) (rSl.mk (L6.le le7) rNil.mk),by simpa using (O6.post le7).pre l2⟩
theorem cI_RatePut {V:Know} (hV:HcI V) (c:Scs [.s,.l]) (x:DRates) (f:List Nat) (h:rRates.R V c x f) (ht:rRates.tot x≤1048576) (d:Scs [.s,.s,.b,.l,.i .i64]) (r:DRate) (g:List Nat) (hr:rRate.R V d r g) (tr:rRate.tot r≤1048576) :
  CallX Tryz.prog V gI_RatePut [Sh1.val (.g [.s,.l]) c,Sh1.val (.g [.s,.s,.b,.l,.i .i64]) d] (PutPost V (putP x r)):=by
 refine CallX.of_fits Tryz.mix (fI_RatePut _ _) fun _=>?_
 obtain⟨s,fl,rfl,hl⟩:=rates_elim h
 have hn:=hl.1
 obtain⟨s3,g3,rfl,hm⟩:=rate_elim hr
 simp only [tI_RatePut,ap_d,T.wp]
 refine(cI_RatesOk hV x.1 s x.2.1 fl hl).mono ?_
 rintro V1 _ ⟨le1,e1,rfl,he1⟩
 refine⟨nofun,e1,rfl,fun hf=>put_no le1 fun k=>?_,fun h1=>?_⟩
 ·rw [he1.2 k.1] at hf; cases hf
 have ok1:=he1.1 (by simpa using h1)
 refine(cI_RateOk (hV.le le1) r s3 g3 (hm.le le1)).mono ?_
 rintro V2 _ ⟨le2,e2,rfl,he2⟩
 have l2:=le1.trans le2
 refine⟨nofun,e2,rfl,fun hf=>put_no l2 fun k=>?_,fun h2=>?_⟩
 ·rw [he2.2 k.2.1] at hf; cases hf
 have ok2:=he2.1 (by simpa using h2)
 refine(growI_rates V2 _ x f (rRates.le h l2) ht).mono ?_
 rintro V3 _ ⟨le3,s',f',rfl,G3,O3⟩
 have l3:=l2.trans le3
 have h12:=ok1.2.1
 have L3:=G3.lr (show x.2.1.length≤9223372036854775807 by omega)
 have hn':=L3.1
 refine⟨nofun,(x.1,s',()),rfl,?_⟩
 refine⟨fun y V'=>V'=V3∧y.2.2.2=(x.1,s',())∧∃ i:Nat,y.1=(i:Int)∧i≤x.2.1.length∧∀ (j:Nat) (hj:j<x.2.1.length),j<i→rkey x.2.1[j]≠rkey r,fun y _=>((x.2.1.length:Int)-(y.1:Int)).toNat,⟨((0:Int),ByteArray.empty,⟨none,0,0⟩,x.1,s',()),rfl,rfl,rfl,0,rfl,Nat.zero_le _,fun j _ h=>by omega⟩,?_⟩
 rintro⟨(i:Int),y1,y2,y3,y4,yu⟩ V' ⟨rfl,hy,k,hk,hkl,hall⟩
 replace hk:i=(k:Int):=hk
 subst hk
 replace hy:(y3,y4,())=(x.1,s',()):=hy
 obtain⟨rfl,rfl⟩:y3=x.1∧y4=s':=by
  simp only [Prod.mk.injEq,and_true] at hy
  exact hy
 have e0:(k:Int).toNat=k:=by omega
 refine⟨fun hlt=>?_,fun hge=>?_⟩
 ·have hi:k<x.2.1.length:=by
   have:(k:Int)<(y4.n:Int):=of_decide_eq_true hlt
   omega
  have next:rkey x.2.1[k]≠rkey r→∃ y':LShs [.o (.o (.i .i64)),.o (.o (.s)),.o (.o (.l)),.o (.o (.s)),.o (.o (.l))],[LV.v (.int .i64 (IntKind.i64.wrap ((k:Int)+1))),.v (.string y1),.v (Sc.val .l y2),.v (.string x.1),.v (Sc.val .l y4)]=LShs.lvs _ y'∧(V'=V'∧y'.2.2.2=(x.1,y4,())∧∃ i:Nat,y'.1=(i:Int)∧i≤x.2.1.length∧∀ (j:Nat) (hj:j<x.2.1.length),j<i→rkey x.2.1[j]≠rkey r)∧((x.2.1.length:Int)-(y'.1:Int)).toNat<((x.2.1.length:Int)-(k:Int)).toNat:=by
   intro hp
   refine⟨(((k+1:Nat):Int),y1,y2,x.1,y4,()),by rw [nxt hi (by omega)]; rfl,⟨rfl,rfl,k+1,rfl,hi,fun j hj h2=>?_⟩,?_⟩
   ·by_cases e:j=k
    ·subst e; exact hp
    ·exact hall j hj (by omega)
   ·show((x.2.1.length:Int)-((k+1:Nat):Int)).toNat<((x.2.1.length:Int)-(k:Int)).toNat
    omega
  obtain⟨bb,oo,cc,fcc,a1,part,rc,_⟩:=L3.part hi
  obtain⟨rc0,rc1⟩:=rate_cell rc
  obtain⟨cc0,cc1,cc2,cc3,cc4,ccu⟩:=cc
  replace rc0:cc0=x.2.1[k].1:=rc0
  replace rc1:cc1=x.2.1[k].2.1:=rc1
  dsimp only
  rw [e0]
  refine⟨_,a1,by omega,by omega,cc0,part 0 1 _ rfl,fun h1=>⟨_,a1,by omega,by omega,cc1,part 1 1 _ rfl,fun h2=>?_,fun h2=>⟨_,rfl,next fun e=>?_⟩⟩,fun h1=>⟨_,rfl,next fun e=>?_⟩⟩
  ·have hki:rkey x.2.1[k]=rkey r:=rkey_eq.2 ⟨rc0.symm.trans (text_eq.1 h1),rc1.symm.trans (text_eq.1 h2)⟩
   have hput:=putR_at hi hki hall
   have hok:PutOk x.1 x.2.1 r:=⟨ok1,ok2,by rw [hput,List.length_set]; exact h12⟩
   refine(kI_rateCopy V' _ r g (rRate.le hr l3) tr).mono ?_
   rintro V5 _ ⟨le5,⟨q0,q1,q2,q3,q4,qu⟩,f5,rfl,R5,O5⟩
   obtain⟨b,o,cs,u,c6,fc,ha,hb,hlen,_,_,_,hset⟩:=(L3.le le5).putRow (V0:=V2) (O3.post le5) hi
   have l5:=l3.trans le5
   obtain⟨fN,LN,ON,leN,_⟩:=hset (k:=0) (vs:=Scs.vals [.s,.s,.b,.l,.i .i64] (q0,q1,q2,q3,q4,())) (Know.le.refl _) (le3.trans le5) R5 (O3.append O5 le3 le5) (by simp [vals_len]) (setl_whole (by rw [vals_len,vals_len]))
   refine⟨fun _=>le5,_,rfl,_,ha,by omega,by omega,?_⟩
   simp only [addr_add_eq]
   refine⟨cs,u,trivial,hb,hlen,?_⟩
   rw [putP_ok hok,hput]
   exact⟨l2.trans leN,(x.1,y4,()),fN++[],rfl,rStr.mk (h.1.2) (rSl.mk LN rNil.mk),by rw [List.append_nil]; exact ON.pre l2⟩
  ·have:=text_eq.2 (rc1.trans (rkey_eq.1 e).2)
   rw [this] at h2; cases h2
  ·have:=text_eq.2 (rc0.trans (rkey_eq.1 e).1)
   rw [this] at h1; cases h1
 ·have hi:k=x.2.1.length:=by
   have:¬ (k:Int)<(y4.n:Int):=of_decide_eq_false hge
   omega
  subst hi
  have hno:∀ (j:Nat) (hj:j<x.2.1.length),rkey x.2.1[j]≠(r.1,r.2.1):=fun j hj=>hall j hj hj
  have hput:=putR_none (r:=r) hno
  refine(kI_rateCopy V' _ r g (rRate.le hr l3) tr).mono ?_
  rintro V5 _ ⟨le5,⟨q0,q1,q2,q3,q4,qu⟩,f5,rfl,R5,O5⟩
  refine⟨fun _=>le5,_,rfl,rfl,rfl,?_⟩
  refine ap_row (r:=rRate) (sh:=[.s,.s,.b,.l,.i .i64]) (c:=(q0,q1,q2,q3,q4,())) (V0:=V2) (G3.le le5) R5 (O3.append O5 le3 le5) (le3.trans le5) (by kernel_rfl) (by omega) (by omega) fun s6 V6 f6 G6 O6 le6=>?_
  have L6:=G6.lr (by simp; omega)
  refine(cI_RatesOk (hV.le (l2.trans le6)) x.1 s6 (x.2.1++[r]) f6 L6).mono ?_
  rintro V7 _ ⟨le7,e7,rfl,he7⟩
  have hl7:=l2.trans (le6.trans le7)
  refine⟨nofun,e7,rfl,fun hf=>put_no hl7 fun k=>?_,fun hT=>?_⟩
  ·have k3:=k.2.2
   rw [hput] at k3
   rw [he7.2 ((ratesOk_snoc ok1 ok2 hno).2 (by simpa using k3))] at hf
   cases hf
  ·have k7:=he7.1 (by simpa using hT)
   rw [putP_ok ⟨ok1,ok2,by rw [hput]; exact k7.2.1⟩,hput]
   exact⟨hl7,(x.1,s6,()),f6++[],rfl,rStr.mk (h.1.2) (rSl.mk (L6.le le7) rNil.mk),by simpa using (O6.post le7).pre l2⟩
end Go.Proofs.YtccnjccabllcaaaGreatDoor
