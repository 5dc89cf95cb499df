/-
  Draws from bytes: tables of rates, two currencies, amounts and modes that the reference makes for the laws.
-/
import Derived.Test.YtmogkainbglpnaaGreatDoorCopy
import Derived.Test.YtmogkainbglpnaaGreatDoorTotA
import Derived.Test.YtmogkainbglpnaaGreatDoorCv
import Derived.Test.YtmogkainbglpnaaGreatDoorValid
namespace Go.Proofs.YtmogkainbglpnaaGreatDoor
open Sx
set_option maxRecDepth 100000
theorem rates_elim {V:Know} {c:Scs [.s,.l]} {x:DRates} {f:List Nat} (h:rRates.R V c x f):∃ s g,c=(x.1,s,())∧LR rRate V s x.2.1 g:=by
 obtain⟨c0,c1,cu⟩:=c
 obtain⟨⟨e0,_⟩,g,r,rfl,hs,_⟩:=h
 replace e0:c0=x.1:=e0
 subst e0
 exact⟨c1,g,rfl,hs⟩
theorem kS_l10Rate (V:Know) (c:Scs [.s,.s,.b,.l,.i .i64]) (x:DRate) (f:List Nat) (h:rRate.R V c x f) (ok:RateOkP x) :
  CallX Tryz.prog V 109 [qv4 c] (fun V' r=>V.le V'∧∃ c' f',r=qv4 c'∧rRate.R V' c' x f'∧Own V V' f'):=by
 obtain⟨c0,c1,c2,c3,c4,cu⟩:=c
 obtain⟨x0,x1,x2,x3,x4,xu⟩:=x
 obtain⟨⟨e0,z0⟩,h⟩:=h
 replace e0:c0=x0:=e0
 subst e0
 obtain⟨⟨e1,z1⟩,h⟩:=h
 replace e1:c1=x1:=e1
 subst e1
 obtain⟨e2,h⟩:=h
 replace e2:c2=x2:=e2
 subst e2
 obtain⟨g,g2,_,hs,h⟩:=h
 replace hs:LR rI V c3 x3 g:=hs
 obtain⟨e4,_⟩:=h
 replace e4:c4=x4:=e4
 subst e4
 have oi:IntOkP c2 x3:=ok.2.2.2.1.1
 refine CallX.of_fits Tryz.mix (fS_l10Rate _) fun _=>?_
 simp only [tS_l10Rate,T.wp]
 refine(cS_l04Make V c2 c3 x3 g hs oi.1.1 oi.1.2).mono ?_
 rintro V1 _ ⟨le1,s1,f1,rfl,L1,O1⟩
 refine⟨fun _=>le1,_,rfl,le1,(c0,c1,c2,s1,c4,()),_,?_,rStr.mk z0 (rStr.mk z1 (rBool.mk (rSl.mk L1 (rInt.mk rNil.mk)))),by simpa using O1⟩
 have:(c2 && decide (0<x3.length))=c2:=by
  cases c2
  ·rfl
  ·have:=oi.2 rfl
   simpa using this
 show qv4 (c0,c1,(c2 && decide (0<x3.length)),s1,c4,())=_
 rw [this]
theorem growS_rates (V:Know) (c:Scs [.s,.l]) (x:DRates) (f:List Nat) (hx:rRates.R V c x f) (ht:rRates.tot x≤1048576) (ok:∀ i (h:i<x.2.1.length),RateOkP x.2.1[i]):CallX Tryz.prog V 107 [qv2 c] (GrowPost V x):=by
 obtain⟨p0,s,cu⟩:=c
 obtain⟨q0,l,xu⟩:=x
 obtain⟨⟨ep,zp⟩,hx⟩:=hx
 replace ep:p0=q0:=ep
 subst ep
 obtain⟨f1,fr1,ef,sc,hx⟩:=hx
 subst ef
 replace sc:LR rRate _ s l f1:=sc
 replace hx:_=[]:=hx
 subst hx
 replace ht:(p0.size+(l.length+totE rRate l+0))≤1048576:=ht
 have hn:=sc.1
 refine CallX.of_fits Tryz.mix (fS_l10Copy _) fun _=>?_
 simp only [tS_l10Copy,ap_d,T.wp]
 refine⟨fun y V'=>y.2.1=p0∧CopyI rRate ratT V l y.1 y.2.2.1 V',fun y _=>((l.length:Int)-(y.1:Int)).toNat,⟨((0:Int),p0,⟨none,0,0⟩,()),rfl,rfl,CopyI.start⟩,?_⟩
 rintro⟨(i:Int),p1,s1,u⟩ V' ⟨hp,hI⟩
 replace hp:p1=p0:=hp
 subst hp
 have hI':CopyI rRate ratT V l i s1 V':=hI
 refine⟨fun hlt=>?_,fun hge=>?_⟩
 ·have hI0:=hI'
  obtain⟨hle,k,f0,rfl,hk,_,_⟩:=hI'
  have h1:k<l.length:=by
   have:(k:Int)<(s.n:Int):=by simpa using hlt
   omega
  obtain⟨b1,o1,c1,fc,a1,l1,r1,_⟩:=(sc.le hle).at h1
  have htx:=totE_mem rRate h1
  refine⟨_,a1,(by omega:(0:Int)≤(k:Int)),(by omega:(k:Int)<(s.n:Int)),c1,l1,?_⟩
  refine(kS_l10Rate V' c1 l[k] fc r1 (ok k h1)).mono ?_
  rintro V2 r ⟨hle2,⟨c2,c3,c4,c5,c6,cv⟩,f2,rfl,hR,hO⟩
  refine⟨fun _=>hle2,(c2,c3,c4,c5,c6,()),rfl,rfl,rfl,?_⟩
  refine copy_end (sh:=[.s,.s,.b,.l,.i .i64]) (c:=(c2,c3,c4,c5,c6,())) hI0 h1 hle2 (e:=rRate) (bytes:=72) (fx:=f2) hR hO (by kernel_rfl) (by omega) (by omega) fun s' V3 h3=>?_
  refine⟨_,rfl,(((k+1:Nat):Int),p1,s',()),by rw [nxt h1 (by omega)]; rfl,⟨rfl,h3⟩,?_⟩
  show((l.length:Int)-((k+1:Nat):Int)).toNat<((l.length:Int)-(k:Int)).toNat
  omega
 ·have hi:¬ i<(l.length:Int):=by
   have:¬ i<(s.n:Int):=by simpa using hge
   omega
  obtain⟨hle,f3,hL,hO⟩:=hI'.finG hi
  exact⟨hle,s1,f3,rfl,hL,hO⟩
def putR (r:DRate):List DRate→List DRate
 | []=>[r]
 | x :: l=>if rkey x=rkey r then r :: l else x :: putR r l
theorem putR_at {r:DRate}:∀ {l:List DRate} {i:Nat} (h:i<l.length),rkey l[i]=rkey r→(∀ (j:Nat) (hj:j<l.length),j<i→rkey l[j]≠rkey r)→putR r l=l.set i r
 | x :: l,0,_,e,_=>by
  have e:rkey x=rkey r:=e
  rw [putR,if_pos e,List.set_cons_zero]
 | x :: l,i+1,h,e,hj=>by
  have h0:rkey x≠rkey r:=hj 0 (by simp) (by omega)
  rw [putR,if_neg h0,List.set_cons_succ,putR_at (l:=l) (i:=i) (by simpa using h) (by simpa using e) fun j hj' hji=>by
   have:=hj (j+1) (by simpa using hj') (by omega)
   simpa using this]
theorem putR_none {r:DRate}:∀ {l:List DRate},(∀ (j:Nat) (hj:j<l.length),rkey l[j]≠rkey r)→putR r l=l++[r]
 | [],_=>rfl
 | x :: l,h=>by
  have h0:rkey x≠rkey r:=h 0 (by simp)
  rw [putR,if_neg h0,putR_none (l:=l) fun j hj=>by
   have:=h (j+1) (by simpa using hj)
   simpa using this]
  rfl
theorem ratesOk_set {p:ByteArray} {l:List DRate} {r:DRate} (h:RatesOkP p l) (hr:RateOkP r) {i:Nat} (hi:i<l.length) (e:rkey l[i]=rkey r):RatesOkP p (l.set i r):=by
 have hk:∀ (j:Nat) (hj:j<(l.set i r).length),rkey (l.set i r)[j]=rkey (l[j]'(by simpa using hj)):=fun j hj=>by
  rw [List.getElem_set]
  split
  ·rename_i ij; subst ij; exact e.symm
  ·rfl
 refine⟨h.1,by rw [List.length_set]; exact h.2.1,fun j hj=>?_⟩
 obtain⟨q0,q1,q2⟩:=h.2.2 j (by simpa using hj)
 refine⟨hj,?_,fun m hm hmj=>by rw [hk,hk]; exact q2 m (by simpa using hm) hmj⟩
 rw [List.getElem_set]
 split
 ·exact hr
 ·exact q1
theorem ratesOk_snoc {p:ByteArray} {l:List DRate} {r:DRate} (h:RatesOkP p l) (hr:RateOkP r) (hn:∀ (j:Nat) (hj:j<l.length),rkey l[j]≠rkey r):RatesOkP p (l++[r])↔l.length+1≤12:=by
 refine⟨fun k=>by simpa using k.2.1,fun k=>⟨h.1,by simpa using k,fun j hj=>?_⟩⟩
 by_cases c:j<l.length
 ·obtain⟨q0,q1,q2⟩:=h.2.2 j c
  refine⟨hj,by rw [List.getElem_append_left c]; exact q1,fun m hm hmj=>?_⟩
  rw [List.getElem_append_left c,List.getElem_append_left (by omega)]
  exact q2 m (by omega) hmj
 ·obtain rfl:j=l.length:=by simp at hj; omega
  refine⟨hj,by simpa using hr,fun m hm hmj=>?_⟩
  rw [List.getElem_append_left hmj]
  simpa using hn m hmj
def PutOk (p:ByteArray) (l:List DRate) (r:DRate):Prop:=RatesOkP p l∧RateOkP r∧(putR r l).length≤12
open Classical in
noncomputable def putP (x:DRates) (r:DRate):DRates × Bool:=if PutOk x.1 x.2.1 r then ((x.1,putR r x.2.1,()),true) else ((ByteArray.empty,[],()),false)
theorem putP_ok {x:DRates} {r:DRate} (h:PutOk x.1 x.2.1 r):putP x r=((x.1,putR r x.2.1,()),true):=if_pos h
theorem putP_no {x:DRates} {r:DRate} (h:¬ PutOk x.1 x.2.1 r):putP x r=((ByteArray.empty,[],()),false):=if_neg h
abbrev PutPost (V:Know) (y:DRates × Bool):Know→Value→Prop:=fun V' v=>V.le V'∧∃ c f,v=.tuple #[qv2 c,.bool y.2]∧rRates.R V' c y.1 f∧Own V V' f
theorem rates_nil (V:Know):rRates.R V (ByteArray.empty,⟨none,0,0⟩,()) (ByteArray.empty,[],()) []:=rStr.mk (by decide) (rSl.mk (f:=[]) ⟨rfl,Nat.le_refl _,by decide,.inl ⟨rfl,fun _=>rfl,rfl⟩⟩ rNil.mk)
theorem put_no {V V':Know} {x:DRates} {r:DRate} (le:V.le V') (h:¬ PutOk x.1 x.2.1 r):PutPost V (putP x r) V' (packed [qv2 (ByteArray.empty,⟨none,0,0⟩,()),.bool false]):=by
 rw [putP_no h]
 exact⟨le,(ByteArray.empty,⟨none,0,0⟩,()),[],rfl,rates_nil V',Own.nil⟩
theorem rate_cell {V:Know} {c:Scs [.s,.s,.b,.l,.i .i64]} {x:DRate} {f:List Nat} (h:rRate.R V c x f):c.1=x.1∧c.2.1=x.2.1:=⟨h.1.1,h.2.1.1⟩
theorem cS_RatePut {V:Know} (hV:HcS V) (c:Scs [.s,.l]) (x:DRates) (f:List Nat) (h:rRates.R V c x f) (ht:rRates.tot x≤1048576) (d:Scs [.s,.s,.b,.l,.i .i64]) (r:DRate) (g:List Nat) (hr:rRate.R V d r g) (_:rRate.tot r≤1048576) :
  CallX Tryz.prog V 66 [qv2 c,qv4 d] (PutPost V (putP x r)):=by
 refine CallX.of_fits Tryz.mix (fS_RatePut _ _) fun _=>?_
 obtain⟨s,fl,rfl,hl⟩:=rates_elim h
 have hn:=hl.1
 obtain⟨s3,g3,rfl,hm⟩:=rate_elim hr
 simp only [tS_RatePut,ap_d,T.wp]
 refine(cS_RatesOk x.1 s x.2.1 fl hl).mono ?_
 rintro V1 _ ⟨le1,e1,rfl,he1⟩
 refine⟨nofun,e1,rfl,fun hf=>put_no le1 fun k=>?_,fun h1=>?_⟩
 ·rw [he1.2 k.1] at hf; cases hf
 have ok1:=he1.1 (by simpa using h1)
 refine(cS_RateOk (hV.le le1) r s3 g3 (hm.le le1)).mono ?_
 rintro V2 _ ⟨le2,e2,rfl,he2⟩
 have l2:=le1.trans le2
 refine⟨nofun,e2,rfl,fun hf=>put_no l2 fun k=>?_,fun h2=>?_⟩
 ·rw [he2.2 k.2.1] at hf; cases hf
 have ok2:=he2.1 (by simpa using h2)
 refine(growS_rates V2 _ x f (rRates.le h l2) ht (fun i hi=>by obtain⟨_,q,_⟩:=ok1.2.2 i hi; exact q)).mono ?_
 rintro V3 _ ⟨le3,s',f',rfl,G3,O3⟩
 have l3:=l2.trans le3
 have h12:=ok1.2.1
 refine⟨nofun,(x.1,s',()),rfl,(cS_l10AtX V3 s x.2.1 fl (hl.le l3) r.1 r.2.1).mono ?_⟩
 rintro V4 _ ⟨rfl,k,rfl,hk⟩
 have L3:=G3.lr (show x.2.1.length≤9223372036854775807 by omega)
 refine⟨nofun,k,rfl,fun hge=>?_,fun hlt=>?_⟩
 ·obtain⟨i,hi,rfl,hki,hj⟩:∃ (i:Nat) (hi:i<x.2.1.length),k=(i:Int)∧rkey x.2.1[i]=(r.1,r.2.1)∧∀ (j:Nat) (hj:j<x.2.1.length),j<i→rkey x.2.1[j]≠(r.1,r.2.1):=by
   rcases hk with hk | ⟨rfl,_⟩
   ·exact hk
   ·exact absurd (show(-1:Int)≥0 from of_decide_eq_true hge) (by omega)
  have hput:=putR_at hi hki hj
  have hok:PutOk x.1 x.2.1 r:=⟨ok1,ok2,by rw [hput,List.length_set]; exact h12⟩
  refine(kS_l10Rate V4 _ r g (rRate.le hr l3) ok2).mono ?_
  rintro V5 _ ⟨le5,c5,f5,rfl,R5,O5⟩
  obtain⟨b,o,cs,u,c6,fc,ha,hb,hlen,_,_,_,hset⟩:=(L3.le le5).putRow (V0:=V2) (O3.post le5) hi
  have l5:=l3.trans le5
  have hn':=L3.1
  have e0:(i:Int).toNat=i:=by omega
  obtain⟨q0,q1,q2,q3,q4,qu⟩:=c5
  obtain⟨fN,LN,ON,leN,_⟩:=hset (k:=0) (vs:=Scs.vals [.s,.s,.b,.l,.i .i64] (q0,q1,q2,q3,q4,())) (Know.le.refl _) (le3.trans le5) R5 (O3.append O5 le3 le5) (by simp [vals_len]) (setl_whole (by rw [vals_len,vals_len]))
  refine⟨fun _=>le5,_,rfl,_,ha,(by omega:(0:Int)≤(i:Int)),(by show(i:Int)<(s'.n:Int); omega),?_⟩
  rw [e0]
  simp only [addr_add_eq]
  refine⟨cs,u,trivial,hb,hlen,?_⟩
  refine(cS_RatesOk x.1 s' (x.2.1.set i r) fN LN).mono ?_
  rintro V6 _ ⟨le6,e6,rfl,he6⟩
  obtain rfl:e6=true:=he6.2 (ratesOk_set ok1 ok2 hi hki)
  refine⟨nofun,true,rfl,nofun,fun _=>?_⟩
  rw [putP_ok hok,hput]
  exact⟨l2.trans (leN.trans le6),(x.1,s',()),fN++[],rfl,rStr.mk (h.1.2) (rSl.mk (LN.le le6) rNil.mk),by simpa using (ON.post le6).pre l2⟩
 ·have hno:∀ (j:Nat) (hj:j<x.2.1.length),rkey x.2.1[j]≠(r.1,r.2.1):=by
   rcases hk with ⟨i,_,rfl,_⟩ | ⟨_,hk⟩
   ·exact absurd (show ¬ (i:Int)≥0 from of_decide_eq_false hlt) (by omega)
   ·exact hk
  have hput:=putR_none (r:=r) hno
  refine(kS_l10Rate V4 _ r g (rRate.le hr l3) ok2).mono ?_
  rintro V5 _ ⟨le5,⟨q0,q1,q2,q3,q4,qu⟩,f5,rfl,R5,O5⟩
  refine⟨fun _=>le5,_,rfl,rfl,rfl,?_⟩
  refine ap_row (r:=rRate) (sh:=[.s,.s,.b,.l,.i .i64]) (c:=(q0,q1,q2,q3,q4,())) (V0:=V2) (G3.le le5) R5 (O3.append O5 le3 le5) (le3.trans le5) (by kernel_rfl) (by omega) (by omega) fun s6 V6 f6 G6 O6 le6=>?_
  have L6:=G6.lr (by simp; omega)
  refine(cS_RatesOk x.1 s6 (x.2.1++[r]) f6 L6).mono ?_
  rintro V7 _ ⟨le7,e7,rfl,he7⟩
  have hl7:=l2.trans (le6.trans le7)
  refine⟨nofun,e7,rfl,fun hf=>put_no hl7 fun k=>?_,fun hT=>?_⟩
  ·have k3:=k.2.2
   rw [hput] at k3
   rw [he7.2 ((ratesOk_snoc ok1 ok2 hno).2 (by simpa using k3))] at hf
   cases hf
  ·have k7:=he7.1 (by simpa using hT)
   rw [putP_ok ⟨ok1,ok2,by rw [hput]; exact k7.2.1⟩,hput]
   exact⟨hl7,(x.1,s6,()),f6++[],rfl,rStr.mk (h.1.2) (rSl.mk (L6.le le7) rNil.mk),by simpa using (O6.post le7).pre l2⟩
end Go.Proofs.YtmogkainbglpnaaGreatDoor
namespace Go.Proofs.YtmogkainbglpnaaGreatDoor
open Sx
set_option maxRecDepth 100000
abbrev tyC:TypeId:=74
def rIu {sh:List Sc} {α:Type} (r:Rp sh α):Rp (.i .u8 :: sh) (Int × α) where
 R V c x fp:=c.1=x.1∧r.R V c.2 x.2 fp
 tot x:=r.tot x.2
 loc h hb:=⟨h.1,r.loc h.2 hb⟩
 kn h:=r.kn h.2
abbrev rBy:Rp [.i .u8] (Int × Unit):=rIu rNil
abbrev cuCells (s:SlV) (i h:Int):List Value:=[Sc.val .l s,.int .i64 i,.int .i64 h]
def Cx (V0:Know) (b:Nat) (s:SlV) (V:Know):Prop:=V0.le V∧V0 b=none∧(∃ i h:Int,0≤i∧V b=some (cuCells s i h,(tyC,(0,0))))∧∃ l f,LR rBy V0 s l f
def Dx (V0:Know) (b:Nat) (s:SlV) (V V':Know):Prop:=Cx V0 b s V'∧LeBut [b] V V'
theorem Cx.le {V0 V V':Know} {b:Nat} {s:SlV} (h:Cx V0 b s V) (le:V.le V'):Cx V0 b s V':=by
 obtain⟨h1,h2,⟨i,k,hi,hb⟩,h3⟩:=h
 exact⟨h1.trans le,h2,⟨i,k,hi,le _ _ hb⟩,h3⟩
theorem Cx.dx {V0 V V':Know} {b:Nat} {s:SlV} (h:Cx V0 b s V) (le:V.le V'):Dx V0 b s V V':=⟨h.le le,.of_le le⟩
theorem Dx.trans {V0 V V1 V2:Know} {b:Nat} {s:SlV} (h:Dx V0 b s V V1) (k:Dx V0 b s V1 V2):Dx V0 b s V V2:=⟨k.1,h.2.trans k.2⟩
theorem Cx.some {V0 V:Know} {b:Nat} {s:SlV} (h:Cx V0 b s V) {b1:Nat} (k:V b1=none):b1≠b:=by
 rintro rfl
 obtain⟨_,_,⟨i,k',_,hb⟩,_⟩:=h
 rw [hb] at k; cases k
theorem ld_at {V:Know} {b:Nat} {cs:List Value} {t:KTy} (h:V b=some (cs,t)) (k n:Nat):loadV V ((⟨b,0,none⟩:Addr).add k) n=cutv cs k n:=by
 simp only [addr_add_eq,loadV,h,Nat.zero_add]
theorem ldV_le {V V':Know} {a:Addr} {k:Nat} {x:List Value} (h:V.le V') (hl:loadV V a k=some x):loadV V' a k=some x:=by
 unfold loadV at hl ⊢
 split at hl
 ·rename_i cs u h1 h2
  rw [h1,h _ _ h2]
  exact hl
 ·cases hl
theorem kset_but {V:Know} {b:Nat} {x}:LeBut [b] V (kset V b x):=.kset (by simp)
theorem kset_cx {V0 V:Know} {b:Nat} {s:SlV} {i h:Int} (hc:Cx V0 b s V) (hi:0≤i):Dx V0 b s V (kset V b (cuCells s i h,(tyC,(0,0)))):=by
 obtain⟨h1,h2,_,h3⟩:=hc
 exact⟨⟨le_but h1 (fun x hx=>by simp at hx; subst hx; exact h2) kset_but,h2,⟨i,h,hi,kset_same⟩,h3⟩,kset_but⟩
theorem bit_bd (a:BitVec 64):0≤IntKind.i64.wrap (((a &&& BitVec.ofInt 64 255).toNat:Nat):Int)∧IntKind.i64.wrap (((a &&& BitVec.ofInt 64 255).toNat:Nat):Int)≤255:=by
 have h:(a &&& BitVec.ofInt 64 255).toNat≤255:=by
  rw [BitVec.toNat_and]
  exact Nat.and_le_right
 rw [wrap_i64 (by omega)]
 omega
theorem cS_l01Byte {V0 V:Know} {b:Nat} {s:SlV} (hc:Cx V0 b s V):CallX Tryz.prog V 71 [.pointer (some ⟨b,0,none⟩)] (fun V' r=>Dx V0 b s V V'∧∃ x:Int,r=.int .i64 x∧0≤x∧x≤255):=by
 refine CallX.of_fits Tryz.mix (fS_l01Byte _) fun _=>?_
 simp only [tS_l01Byte,T.wp,if_true]
 have hc0:=hc
 obtain⟨le0,hn,⟨i,h,hi,hb⟩,l,f,hl⟩:=hc
 refine⟨h,ld_at hb 2 1,_,_,rfl,hb,Nat.le_refl 3,?_⟩
 generalize hz:IntKind.i64.wrap (IntKind.i64.wrap (h*6364136223846793005)+1442695040888963407)=z
 generalize hV1:kset V ((⟨b,0,none⟩:Addr).add 2).block (setl (cuCells s i h) ((⟨b,0,none⟩:Addr).add 2).off [Value.int IntKind.i64 z],(tyC,((0,0):Nat × Nat)))=V1
 have d1:Dx V0 b s V V1:=hV1 ▸ kset_cx hc0 hi
 have hb1:V1 b=some (cuCells s i z,(tyC,(0,0))):=by rw [← hV1]; exact kset_same
 refine⟨z,ld_at hb1 2 1,z,ld_at hb1 2 1,i,ld_at hb1 1 1,s,ld_at hb1 0 1,fun hlt=>?_,fun _=>⟨d1,_,rfl,bit_bd _⟩⟩
 have hlt':i<(s.n:Int):=of_decide_eq_true hlt
 have hn1:=hl.1
 have h63:=hl.2.2.1
 obtain⟨b2,o2,c2,fc,a1,l1,hR,_⟩:=hl.at (i:=i.toNat) (by omega)
 refine⟨s,ld_at hb1 0 1,i,ld_at hb1 1 1,_,a1,hi,hlt',c2.1,(ldV_le d1.1.1 l1),i,ld_at hb1 1 1,_,_,rfl,hb1,(by show 1+1≤3; omega),?_⟩
 refine⟨d1.trans (kset_cx (h:=z) d1.1 (i:=IntKind.i64.wrap (i+1)) ?_),_,rfl,bit_bd _⟩
 rw [wrap_i64 (by omega)]
 omega
abbrev NumP (V0:Know) (b:Nat) (s:SlV) (V:Know) (n:Int):Know→Value→Prop:=fun V' r=>Dx V0 b s V V'∧∃ x:Int,r=.int .i64 x∧0≤x∧(0<n→x<n)∧(n≤0→x=0)
theorem cS_l01Below {V0 V:Know} {b:Nat} {s:SlV} (hc:Cx V0 b s V) (n:Int):CallX Tryz.prog V 32 [.pointer (some ⟨b,0,none⟩),.int .i64 n] (NumP V0 b s V n):=by
 refine CallX.of_fits Tryz.mix (fS_l01Below _ _) fun _=>?_
 simp only [tS_l01Below,T.wp]
 refine⟨fun h=>⟨hc.dx (Know.le.refl _),0,rfl,by omega,fun k=>k,fun _=>rfl⟩,fun h=>?_⟩
 have h0:¬ n≤0:=of_decide_eq_false h
 have fin:∀ {V':Know} {x:Int},Dx V0 b s V V'→0≤x→NumP V0 b s V n V' (packed [.int .i64 (x.tmod n)]):=fun d hx=>⟨d,_,rfl,Int.tmod_nonneg _ hx,fun hn=>Int.tmod_lt_of_pos _ hn,fun k=>absurd k h0⟩
 refine⟨fun _=>(cS_l01Byte hc).mono ?_,fun _=>(cS_l01Byte hc).mono ?_⟩
 ·rintro V1 _ ⟨d1,x,rfl,x0,_⟩
  exact⟨nofun,x,rfl,by omega,fin d1 x0⟩
 rintro V1 _ ⟨d1,x1,rfl,p1,q1⟩
 refine⟨nofun,x1,rfl,(cS_l01Byte d1.1).mono ?_⟩
 rintro V2 _ ⟨d2,x2,rfl,p2,q2⟩
 refine⟨nofun,x2,rfl,(cS_l01Byte d2.1).mono ?_⟩
 rintro V3 _ ⟨d3,x3,rfl,p3,q3⟩
 refine⟨nofun,x3,rfl,(cS_l01Byte d3.1).mono ?_⟩
 rintro V4 _ ⟨d4,x4,rfl,p4,q4⟩
 refine⟨nofun,x4,rfl,by omega,fin (((d1.trans d2).trans d3).trans d4) ?_⟩
 rw [wrap_i64 (n:=x1*16777216) (by omega),wrap_i64 (n:=x2*65536) (by omega),wrap_i64 (n:=x3*256) (by omega),wrap_i64 (n:=x1*16777216+x2*65536) (by omega),wrap_i64 (n:=x1*16777216+x2*65536+x3*256) (by omega),wrap_i64 (by omega)]
 omega
theorem cS_l01Once {V0 V:Know} {b:Nat} {s:SlV} (hc:Cx V0 b s V) (n:Int):CallX Tryz.prog V 65 [.pointer (some ⟨b,0,none⟩),.int .i64 n] (fun V' r=>Dx V0 b s V V'∧∃ e,r=.bool e):=by
 refine CallX.of_fits Tryz.mix (fS_l01Once _ _) fun _=>?_
 simp only [tS_l01Once,T.wp]
 refine(cS_l01Below hc n).mono ?_
 rintro V1 _ ⟨d1,x,rfl,_⟩
 exact⟨nofun,x,rfl,d1,_,rfl⟩
abbrev rNs:Rp [.s] (ByteArray × Unit):=rStr rNil
theorem cS_l01Str {V0 V:Know} {b:Nat} {s:SlV} (hc:Cx V0 b s V) (t:SlV) (ns:List (ByteArray × Unit)) (g:List Nat) (h:LR rNs V t ns g) (hb:b ∉ g) (hn:0<ns.length) :
  CallX Tryz.prog V 63 [.pointer (some ⟨b,0,none⟩),Sc.val .l t] (fun V' r=>Dx V0 b s V V'∧∃ n∈ns,r=.string n.1):=by
 refine CallX.of_fits Tryz.mix (fS_l01Str _ _) fun _=>?_
 simp only [tS_l01Str,T.wp]
 have h1:=h.1
 refine(cS_l01Below hc _).mono ?_
 rintro V1 _ ⟨d1,x,rfl,p1,p2,_⟩
 have hx:=p2 (by omega)
 obtain⟨b2,o2,c2,fc,a1,l1,hR,_⟩:=(h.but (f:=[b]) (fun y hy k=>hb (by simp at k; exact k ▸ hy)) d1.2).at (i:=x.toNat) (by omega)
 have e:c2.1=ns[x.toNat].1:=hR.1.1
 refine⟨nofun,x,rfl,_,a1,p1,(by omega),c2.1,l1,d1,ns[x.toNat]'(by omega),List.getElem_mem _,by rw [e]; rfl⟩
theorem cS_l01Pick {V0 V:Know} {b:Nat} {s:SlV} (hc:Cx V0 b s V) (t:SlV) (ns:List Lim) (g:List Nat) (h:LR rI V t ns g) (hb:b ∉ g) (hn:0<ns.length) :
  CallX Tryz.prog V 104 [.pointer (some ⟨b,0,none⟩),Sc.val .l t] (fun V' r=>Dx V0 b s V V'∧∃ n∈ns,r=.int .i64 n.1):=by
 refine CallX.of_fits Tryz.mix (fS_l01Pick _ _) fun _=>?_
 simp only [tS_l01Pick,T.wp]
 have h1:=h.1
 refine(cS_l01Below hc _).mono ?_
 rintro V1 _ ⟨d1,x,rfl,p1,p2,_⟩
 have hx:=p2 (by omega)
 obtain⟨b2,o2,c2,fc,a1,l1,hR,_⟩:=(h.but (f:=[b]) (fun y hy k=>hb (by simp at k; exact k ▸ hy)) d1.2).at (i:=x.toNat) (by omega)
 have e:c2.1=ns[x.toNat].1:=hR.1
 refine⟨nofun,x,rfl,_,a1,p1,(by omega),c2.1,l1,d1,ns[x.toNat]'(by omega),List.getElem_mem _,by rw [e]; rfl⟩
end Go.Proofs.YtmogkainbglpnaaGreatDoor
namespace Go.Proofs.YtmogkainbglpnaaGreatDoor
open Sx
set_option maxRecDepth 100000
theorem lr_lit {sh:List Sc} {α:Type} {r:Rp sh α} {V:Know} {b n cap:Nat} {cs:List (Scs sh)} {l:List α} {fps:List Nat} {post:List Value} {t:KTy} (h:Els r V cs l fps) (hb:V b=some (cs.flatMap (Scs.vals sh)++post,t)) (hn:n=l.length) (hc:l.length≤cap) (hl:l.length≤9223372036854775807) :
  LR r V ⟨some ⟨b,0,none⟩,n,cap⟩ l (b :: fps):=by
 subst hn
 exact⟨rfl,hc,hl,.inr ⟨b,[],post,t,fps,cs,rfl,by simpa using hb,h,rfl⟩⟩
theorem els_ns {V:Know}:∀ {ns:List ByteArray},(∀ n∈ns,n.size≤9223372036854775807)→Els rNs V (ns.map fun n=>(n,())) (ns.map fun n=>(n,())) []
 | [],_=>rfl
 | n :: ns,h=>⟨[],[],rfl,⟨⟨rfl,h n (by simp)⟩,rfl⟩,els_ns fun m hm=>h m (by simp [hm])⟩
theorem vals_ns:∀ ns:List ByteArray,(ns.map fun n=>((n,()):Scs [.s])).flatMap (Scs.vals [.s])=ns.map Value.string
 | []=>rfl
 | n :: ns=>by
  rw [List.map_cons,List.flatMap_cons,vals_ns ns]
  rfl
theorem cS_strLit {V0 V:Know} {b:Nat} {s:SlV} (hc:Cx V0 b s V) (ns:List ByteArray) (hn:0<ns.length) (hz:∀ n∈ns,n.size≤9223372036854775807) (hl:ns.length≤9223372036854775807) {b1 c1:Nat} {sp:List Value} {u:KTy} (hb1:V b1=none) (hc1:ns.length≤c1) :
  CallX Tryz.prog (kset V b1 (ns.map Value.string++sp,u)) 63 [.pointer (some ⟨b,0,none⟩),.slice (some ⟨b1,0,none⟩) ns.length c1] (fun V' r=>Dx V0 b s V V'∧∃ n∈ns,r=.string n):=by
 have le1:=kset_le (x:=(ns.map Value.string++sp,u)) hb1
 have hL:LR rNs (kset V b1 (ns.map Value.string++sp,u)) ⟨some ⟨b1,0,none⟩,ns.length,c1⟩ (ns.map fun n=>(n,())) [b1]:=lr_lit (fps:=[]) (post:=sp) (t:=u) (els_ns hz) (by rw [vals_ns]; exact kset_same) (by simp) (by simpa using hc1) (by simpa using hl)
 refine(cS_l01Str (hc.le le1) ⟨_,_,_⟩ _ [b1] hL (by simpa using fun e=>hc.some hb1 e.symm) (by simpa using hn)).mono ?_
 rintro V' _ ⟨d,x,hx,rfl⟩
 obtain⟨n,hn,rfl⟩:=List.mem_map.1 hx
 exact⟨(hc.dx le1).trans d,n,hn,rfl⟩
abbrev codes7:List ByteArray:=[⟨#[67,72,70]⟩,⟨#[69,85,82]⟩,⟨#[85,83,68]⟩,⟨#[74,80,89]⟩,⟨#[75,87,68]⟩,⟨#[72,85,70]⟩,⟨#[67,76,70]⟩]
abbrev codes2:List ByteArray:=[⟨#[67,72,70]⟩,⟨#[69,85,82]⟩]
abbrev codes3:List ByteArray:=[⟨#[69,85,82]⟩,⟨#[69,85,82]⟩,⟨#[85,83,68]⟩]
abbrev codes5:List ByteArray:=[⟨#[]⟩,⟨#[99,104,102]⟩,⟨#[88,88,88]⟩,⟨#[67,72]⟩,⟨#[69,85,82,79]⟩]
abbrev usd:ByteArray:=⟨#[85,83,68]⟩
theorem cS_l08Cur {V0 V:Know} {b:Nat} {s:SlV} (hc:Cx V0 b s V):CallX Tryz.prog V 68 [.pointer (some ⟨b,0,none⟩)] (fun V' r=>Dx V0 b s V V'∧∃ n,r=.string n∧known n=true):=by
 refine CallX.of_fits Tryz.mix (fS_l08Cur _) fun _=>?_
 simp only [tS_l08Cur,T.wp]
 intro b1 c1 sp hb1 hc1 _
 refine(cS_strLit hc codes7 (by decide) (by decide) (by decide) hb1 hc1).mono ?_
 rintro V1 _ ⟨d,n,hn,rfl⟩
 have hk:∀ n∈codes7,known n=true:=by decide +kernel
 exact⟨nofun,n,rfl,d,n,rfl,hk n hn⟩
def mask (b:Nat) (V:Know):Know:=fun k=>if k=b then none else V k
theorem mask_le (b:Nat) (V:Know):(mask b V).le V:=fun k x h=>by
 unfold mask at h
 split at h
 ·cases h
 ·exact h
theorem mask_but {b:Nat} {V V1 V':Know} (h1:V.le V1) (h:LeBut [b] V1 V'):(mask b V).le V':=fun k x hx=>by
 unfold mask at hx
 split at hx
 ·cases hx
 ·rename_i e
  exact h k x (by simpa using e) (h1 k x hx)
theorem cS_IntOfD (V:Know) (k:Int) (k1:0≤k) (k2:k≤1000000):CallX Tryz.prog V 31 [.int .i64 k] (fun V' r=>V.le V'∧∃ s o f,r=qv1 (false,s,())∧LR rI V' s o f∧Own V V' f∧Can o∧valN o=k∧o.length≤3):=by
 refine CallX.of_fits Tryz.mix (fS_IntOf _) fun _=>?_
 simp only [tS_IntOf,T.wp]
 refine⟨fun hb=>?_,fun _=>⟨fun hb=>?_,fun _=>(cS_NatOf V k ⟨by omega,by omega⟩).mono ?_⟩⟩
 ·have:k=-9223372036854775808:=by simpa using hb
  omega
 ·have:k<0:=of_decide_eq_true hb
  omega
 rintro V1 _ ⟨le1,s1,o1,f1,rfl,L1,_,C1,v1,n1⟩
 refine⟨nofun,s1,rfl,(cS_l04Make V1 false s1 o1 f1 L1 C1 (by omega)).mono ?_⟩
 rintro V2 _ ⟨le2,s2,f2,rfl,L2,O2⟩
 exact⟨nofun,_,rfl,le1.trans le2,s2,o1,f2,rfl,L2,O2.pre le1,C1,v1,n1⟩
theorem own_off {V0 V V1:Know} {b:Nat} {s:SlV} {f:List Nat} (hc:Cx V0 b s V) (O:Own V V1 f):∀ y∈f,y ∉ [b]:=fun y hy k=>by
 obtain rfl:y=b:=by simpa using k
 exact hc.some (O.2.1 y hy) rfl
def RateD (x:DRate):Prop:=x.2.2.1=false∧valN x.2.2.2.1≤3000∧x.2.2.2.2.1≤4∧known x.1=true∧known x.2.1=true∧x.2.2.2.1.length≤3
theorem cS_l10Draw {V0 V:Know} {b:Nat} {s:SlV} (hc:Cx V0 b s V):CallX Tryz.prog V 64 [.pointer (some ⟨b,0,none⟩)] (fun V' r=>Dx V0 b s V V'∧∃ c x f,r=qv4 c∧rRate.R V' c x f∧(∀ y∈f,y≠b)∧RateD x):=by
 refine CallX.of_fits Tryz.mix (fS_l10Draw _) fun _=>?_
 simp only [tS_l10Draw,T.wp]
 refine(cS_l08Cur hc).mono ?_
 rintro V1 _ ⟨d1,n1,rfl,k1⟩
 refine⟨nofun,n1,rfl,(cS_l08Cur d1.1).mono ?_⟩
 rintro V2 _ ⟨d2,n2,rfl,k2⟩
 refine⟨nofun,n2,rfl,?_⟩
 refine⟨fun y V'=>Dx V0 b s V V'∧known y.1=true∧known y.2.1=true,fun y _=>if y.1=y.2.1 then 1 else 0,⟨(n1,n2,()),rfl,d1.trans d2,k1,k2⟩,?_⟩
 rintro⟨(a1:ByteArray),(a2:ByteArray),u⟩ V3 ⟨d3,j1,j2⟩
 replace j1:known a1=true:=j1
 replace j2:known a2=true:=j2
 refine⟨fun he=>?_,fun _=>?_⟩
 ·have e:a1=a2:=text_eq.1 he
  intro b1 c1 sp hb1 hc1 _
  refine(cS_strLit d3.1 codes2 (by decide) (by decide) (by decide) hb1 hc1).mono ?_
  rintro V4 _ ⟨d4,n,hn,rfl⟩
  have hk:∀ n∈codes2,known n=true∧n≠usd:=by decide +kernel
  refine⟨nofun,n,rfl,_,rfl,(n,usd,()),rfl,⟨d3.trans d4,(hk n hn).1,(by decide +kernel:known usd=true)⟩,?_⟩
  show(if n=usd then 1 else 0)<(if a1=a2 then 1 else 0)
  rw [if_neg (hk n hn).2,if_pos e]
  omega
 refine(cS_l01Below d3.1 3000).mono ?_
 rintro V4 _ ⟨d4,x,rfl,x0,x1,_⟩
 have hx:=x1 (by omega)
 refine⟨nofun,x,rfl,?_⟩
 rw [wrap_i64 (by omega)]
 refine(cS_IntOfD V4 (1+x) (by omega) (by omega)).mono ?_
 rintro V5 _ ⟨le5,s5,o5,f5,rfl,L5,O5,C5,v5,n5⟩
 have d5:=(d3.trans d4).trans (d4.1.dx le5)
 refine⟨nofun,_,rfl,mask b V5,mask_le b V5,fun b6 hb6=>?_⟩
 have le6:=kset_le (x:=([Value.int .i64 0,.int .i64 1,.int .i64 2,.int .i64 3,.int .i64 4],((3:TypeId),((0,0):Nat × Nat)))) hb6
 have d6:=d5.trans (d5.1.dx le6)
 have hL:LR rI (kset V5 b6 ([Value.int .i64 0,.int .i64 1,.int .i64 2,.int .i64 3,.int .i64 4],((3:TypeId),((0,0):Nat × Nat)))) ⟨some ⟨b6,0,none⟩,5,5⟩ (([0,1,2,3,4]:List Int).map fun n=>(n,())) [b6]:=lr_lit (fps:=[]) (post:=[]) (cs:=([0,1,2,3,4]:List Int).map fun n=>(n,())) ⟨[],[],rfl,⟨rfl,rfl⟩,[],[],rfl,⟨rfl,rfl⟩,[],[],rfl,⟨rfl,rfl⟩,[],[],rfl,⟨rfl,rfl⟩,[],[],rfl,⟨rfl,rfl⟩,rfl⟩ kset_same rfl (by decide) (by decide)
 refine(cS_l01Pick d6.1 ⟨some ⟨b6,0,none⟩,5,5⟩ _ [b6] hL (by simpa using fun e=>d5.1.some hb6 e.symm) (by decide)).mono ?_
 rintro V7 _ ⟨d7,⟨n,u⟩,hn,rfl⟩
 have hk:n≤4:=by
  simp at hn
  omega
 have L7:=(L5.le le6).but (own_off d4.1 O5) d7.2
 refine⟨mask_but le6 d7.2,n,rfl,d6.trans d7,(a1,a2,false,s5,n,()),(a1,a2,false,o5,n,()),f5++[],rfl,⟨⟨rfl,known_len j1⟩,⟨rfl,known_len j2⟩,rfl,f5,[],rfl,L7,rfl,rfl⟩,fun y hy=>by
  rw [List.append_nil] at hy
  simpa using own_off d4.1 O5 y hy,rfl,by show valN o5≤3000; omega,hk,j1,j2,n5⟩
end Go.Proofs.YtmogkainbglpnaaGreatDoor
namespace Go.Proofs.YtmogkainbglpnaaGreatDoor
open Sx
set_option maxRecDepth 100000
theorem cS_Curs (V:Know):CallX Tryz.prog V 110 [] (fun V' r=>V.le V'∧∃ t g,r=Sc.val .l t∧LR rNs V' t ((curS.map (·.1)).map fun n=>(n,())) g∧∀ y∈g,V y=none):=by
 refine CallX.of_fits Tryz.mix fS_Curs fun _=>?_
 simp only [tS_Curs,T.wp]
 refine(cS_l08Table V).mono ?_
 rintro V1 r ⟨b,c,spare,t,hb,rfl,rfl⟩
 refine⟨nofun,⟨some ⟨b,0,none⟩,20,c⟩,rfl,?_⟩
 refine⟨fun y V'=>V'=kset V b (curCells curS++spare,t)∧∃ k:Nat,y.2.1=(k:Int)∧k≤20∧y.1.1=k∧y.1.2=((curS.map (·.1)).take k).map Value.string,fun y _=>(20-(y.2.1:Int)).toNat,
  ⟨((0,[]),(0:Int),()),rfl,rfl,0,rfl,by omega,rfl,rfl⟩,?_⟩
 rintro⟨⟨(m:Nat),(ys:List Value)⟩,(i:Int),u⟩ V' ⟨rfl,k,hi,hk,hm,hy⟩
 replace hi:i=(k:Int):=hi
 replace hm:m=k:=hm
 replace hy:ys=((curS.map (·.1)).take k).map Value.string:=hy
 subst hi hm hy
 have hlen:curS.length=20:=rfl
 refine⟨fun h=>?_,fun h=>?_⟩
 ·have hb1:m<curS.length:=by (have:(m:Int)<20:=(by simpa using h); omega)
  dsimp only
  refine⟨_,rfl,by omega,(by omega:(m:Int)<20),curS[m],?_,rfl,⟨rfl,by omega,by omega⟩,?_⟩
  ·simp only [addr_add_eq,loadV,kset_same,Bool.false_eq_true,if_false,Nat.zero_add,Int.toNat_natCast]
   exact cur_at hb1 spare
  have hw:IntKind.i64.wrap ((m:Int)+1)=((m+1:Nat):Int):=by rw [wrap_i64 (by omega)]; omega
  refine⟨_,rfl,((m+1,((curS.map (·.1)).take m).map Value.string++[Value.string curS[m].1]),((m+1:Nat):Int),()),by rw [hw]; rfl,⟨rfl,m+1,rfl,by omega,rfl,?_⟩,?_⟩
  ·show((curS.map (·.1)).take m).map Value.string++[Value.string curS[m].1]=((curS.map (·.1)).take (m+1)).map Value.string
   rw [List.take_succ_eq_append_getElem (by simpa using hb1),List.map_append]
   simp
  ·show(20-((m+1:Nat):Int)).toNat<(20-(m:Int)).toNat
   omega
 ·have hn20:m=20:=by (have:¬ (m:Int)<20:=(by simpa using h); omega)
  subst hn20
  intro b3 c3 sp3 hb3 hc3 _
  have le1:=kset_le (x:=(curCells curS++spare,t)) hb
  refine⟨le1.trans (kset_le hb3),⟨some ⟨b3,0,none⟩,20,c3⟩,[b3],rfl,?_,fun y hy=>?_⟩
  ·refine lr_lit (fps:=[]) (cs:=(curS.map (·.1)).map fun n=>(n,())) (post:=sp3) (t:=(9,(0,0))) (els_ns (by decide)) ?_ rfl hc3 (by decide)
   rw [vals_ns]
   exact kset_same
  ·obtain rfl:y=b3:=by simpa using hy
   exact none_of_le le1 hb3
theorem cS_l08Any {V0 V:Know} {b:Nat} {s:SlV} (hc:Cx V0 b s V):CallX Tryz.prog V 67 [.pointer (some ⟨b,0,none⟩)] (fun V' r=>Dx V0 b s V V'∧∃ n:ByteArray,r=.string n∧n.size≤9223372036854775807):=by
 refine CallX.of_fits Tryz.mix (fS_l08Any _) fun _=>?_
 simp only [tS_l08Any,T.wp]
 refine(cS_l01Once hc 8).mono ?_
 rintro V1 _ ⟨d1,e,rfl⟩
 refine⟨nofun,e,rfl,fun _=>?_,fun _=>?_⟩
 ·intro b1 c1 sp hb1 hc1 _
  have hz:∀ n∈codes5,n.size≤9223372036854775807:=by decide
  refine(cS_strLit d1.1 codes5 (by decide) hz (by decide) hb1 hc1).mono ?_
  rintro V2 _ ⟨d2,n,hn,rfl⟩
  exact⟨nofun,n,rfl,d1.trans d2,n,rfl,hz n hn⟩
 ·refine(cS_Curs V1).mono ?_
  rintro V2 _ ⟨le2,t,g,rfl,L2,hg⟩
  refine⟨nofun,t,rfl,(cS_l01Str (d1.1.le le2) t _ g L2 (fun h=>d1.1.some (hg b h) rfl) (by decide)).mono ?_⟩
  rintro V3 _ ⟨d3,⟨n,u⟩,hn,rfl⟩
  have hz:∀ n∈(curS.map (·.1)).map (fun n=>(n,())),n.1.size≤9223372036854775807:=by decide
  exact⟨nofun,n,rfl,(d1.trans (d1.1.dx le2)).trans d3,n,rfl,hz _ hn⟩
theorem ratesOk_put {p:ByteArray} {l:List DRate} {r:DRate} (h:RatesOkP p l) (hr:RateOkP r) (hn:(putR r l).length≤12):RatesOkP p (putR r l):=by
 by_cases c:∃ (i:Nat) (hi:i<l.length),rkey l[i]=rkey r
 ·obtain⟨i,hi,e⟩:=c
  have hj:∀ (j:Nat) (hj:j<l.length),j<i→rkey l[j]≠rkey r:=fun j hj hji e2=>by
   obtain⟨_,_,q⟩:=h.2.2 i hi
   exact q j hj hji (e2.trans e.symm)
  rw [putR_at hi e hj]
  exact ratesOk_set h hr hi e
 ·have hno:∀ (j:Nat) (hj:j<l.length),rkey l[j]≠rkey r:=fun j hj e=>c ⟨j,hj,e⟩
  rw [putR_none hno] at hn ⊢
  exact(ratesOk_snoc h hr hno).2 (by simpa using hn)
theorem putR_mem {r:DRate}:∀ {l:List DRate} {x:DRate},x∈putR r l→x=r∨x∈l
 | [],x,h=>by
  rw [putR] at h
  exact .inl (by simpa using h)
 | y :: l,x,h=>by
  rw [putR] at h
  split at h
  ·rcases List.mem_cons.1 h with h | h
   ·exact .inl h
   ·exact .inr (by simp [h])
  ·rcases List.mem_cons.1 h with h | h
   ·exact .inr (by simp [h])
   ·rcases putR_mem h with h | h
    ·exact .inl h
    ·exact .inr (by simp [h])
def TabS (l:List DRate):Prop:=∀ r∈l,valN r.2.2.2.1≤3000∧r.2.2.2.2.1≤4
abbrev TabP (V0:Know) (b:Nat) (s:SlV) (V:Know):Know→Value→Prop:=fun V' r=>Dx V0 b s V V'∧∃ c p l f,r=qv2 c∧rRates.R V' c (p,l,()) f∧(∀ y∈f,y≠b)∧RatesOkP p l∧TabS l
theorem rate_totD {x:DRate} (h:RateD x):rRate.tot x≤1048576:=by
 have e:rRate.tot x=x.1.size+(x.2.1.size+(x.2.2.2.1.length+totE rI x.2.2.2.1+0)):=rfl
 have h1:=known_sz3 h.2.2.2.1
 have h2:=known_sz3 h.2.2.2.2.1
 have h3:=h.2.2.2.2.2
 rw [e,totE_rI]
 omega
theorem ratesOk_nil {p:ByteArray} (h:known p=true):RatesOkP p []:=⟨h,by decide,fun i hi=>absurd hi (by simp)⟩
theorem rates_mk {V:Know} {p:ByteArray} {t:SlV} {l:List DRate} {f:List Nat} (z:p.size≤9223372036854775807) (h:LR rRate V t l f):rRates.R V (p,t,()) (p,l,()) f:=by
 have e:f=f++[]:=by simp
 rw [e]
 exact rStr.mk z (rSl.mk h rNil.mk)
theorem rates_el {V:Know} {c:Scs [.s,.l]} {x:DRates} {f:List Nat} (h:rRates.R V c x f):∃ t,c=(x.1,t,())∧LR rRate V t x.2.1 f:=by
 obtain⟨c0,c1,cu⟩:=c
 obtain⟨⟨e0,_⟩,g,g',rfl,hs,hN⟩:=h
 replace e0:c0=x.1:=e0
 replace hN:g'=[]:=hN
 subst e0 hN
 rw [List.append_nil]
 exact⟨c1,rfl,hs⟩
theorem cS_l10Table {V0 V:Know} {b:Nat} {s:SlV} (hc:Cx V0 b s V):CallX Tryz.prog V 29 [.pointer (some ⟨b,0,none⟩)] (TabP V0 b s V):=by
 refine CallX.of_fits Tryz.mix (fS_l10Table _) fun _=>?_
 simp only [tS_l10Table,T.wp]
 intro b1 c1 sp hb1 hc1 _
 refine(cS_strLit hc codes3 (by decide) (by decide) (by decide) hb1 hc1).mono ?_
 rintro V1 _ ⟨d1,p0,hp0,rfl⟩
 have hk:∀ n∈codes3,known n=true:=by decide +kernel
 have kp0:=hk p0 hp0
 refine⟨nofun,p0,rfl,(cS_l01Below d1.1 7).mono ?_⟩
 rintro V2 _ ⟨d2,x,rfl,x0,x1,_⟩
 have hx:=x1 (by omega)
 refine⟨nofun,x,rfl,?_⟩
 refine⟨fun y V'=>∃ (k:Nat) (p:ByteArray) (t:SlV) (l:List DRate) (f:List Nat),(y.1:Int)=(k:Int)∧k≤7∧y.2.1=p∧y.2.2.1=t∧Dx V0 b s V V'∧LR rRate V' t l f∧(∀ z∈f,z≠b)∧RatesOkP p l∧TabS l,fun y _=>(y.1:Int).toNat,
  ⟨(x,p0,⟨none,0,0⟩,()),rfl,x.toNat,p0,_,[],[],(by show x=_; omega),by omega,rfl,rfl,d1.trans d2,⟨rfl,Nat.le_refl _,(by decide:0≤9223372036854775807),.inl ⟨rfl,fun _=>rfl,rfl⟩⟩,(fun _ h=>by cases h),ratesOk_nil kp0,(fun _ h=>by cases h)⟩,?_⟩
 rintro⟨(i:Int),y1,y2,yu⟩ V3 ⟨k,p,t,l,f,hi,hk7,e1,e2,d3,L3,hf,ok,td⟩
 replace hi:i=(k:Int):=hi
 replace e1:y1=p:=e1
 replace e2:y2=t:=e2
 subst hi e1 e2
 refine⟨fun hgt=>?_,fun _=>⟨d3,_,y1,l,f,rfl,rates_mk (known_len ok.1) L3,hf,ok,td⟩⟩
 have kpos:0<k:=by
  have:(k:Int) > 0:=of_decide_eq_true hgt
  omega
 have hw:IntKind.i64.wrap ((k:Int)-1)=((k-1:Nat):Int):=by rw [wrap_i64 (by omega)]; omega
 refine(cS_l10Draw d3.1).mono ?_
 rintro V4 _ ⟨d4,c,r,g,rfl,R4,hg,rd⟩
 refine⟨nofun,c,rfl,(cS_l01Once d4.1 2).mono ?_⟩
 rintro V5 _ ⟨d5,e,rfl⟩
 have dd:Dx V0 b s V V5:=(d3.trans d4).trans d5
 have fb:∀ {g:List Nat},(∀ y∈g,y≠b)→∀ y∈g,y ∉ [b]:=fun h y hy=>by simpa using h y hy
 have L5:=L3.but (fb hf) (d4.2.trans d5.2)
 have R5:=rRate.but R4 (fb hg) d5.2
 have put:∀ (c':Scs [.s,.s,.b,.l,.i .i64]) (r':DRate),rRate.R V5 c' r' g→RateD r'→∀ (K:Know→Value→Prop),
   (∀ V6 t6 l6 f6 ok6,V5.le V6→(ok6=true→Dx V0 b s V V6∧LR rRate V6 t6 l6 f6∧(∀ z∈f6,z≠b)∧RatesOkP y1 l6∧TabS l6)→∀ p6,(ok6=true→p6=y1)→K V6 (.tuple #[qv2 (p6,t6,()),.bool ok6])) →
   CallX Tryz.prog V5 66 [qv2 (y1,y2,()),qv4 c'] K:=by
  intro c' r' R' rd' K hK
  have hS5:HcS V5:=trivial
  refine(cS_RatePut hS5 (y1,y2,()) (y1,l,()) f (rates_mk (known_len ok.1) L5) (Nat.le_trans (rates_tot (x:=(y1,l,())) ok) (by decide)) c' r' g R' (rate_totD rd')).mono ?_
  rintro V6 _ ⟨le6,c6,f6,rfl,R6,O6⟩
  obtain⟨t6,rfl,L6⟩:=rates_el R6
  refine hK V6 t6 (putP (y1,l,()) r').1.2.1 f6 _ le6 (fun hok=>?_) _ (fun hok=>?_)
  ·by_cases q:PutOk y1 l r'
   ·rw [putP_ok (x:=(y1,l,())) q] at L6 ⊢
    refine⟨dd.trans (dd.1.dx le6),L6,fun z hz=>by simpa using own_off dd.1 O6 z hz,ratesOk_put q.1 q.2.1 q.2.2,fun z hz=>?_⟩
    rcases putR_mem hz with rfl | hz
    ·exact⟨rd'.2.1,rd'.2.2.1⟩
    ·exact td z hz
   ·rw [putP_no (x:=(y1,l,())) q] at hok
    cases hok
  ·by_cases q:PutOk y1 l r'
   ·rw [putP_ok (x:=(y1,l,())) q]
   ·rw [putP_no (x:=(y1,l,())) q] at hok
    cases hok
 have stay:∀ {V6:Know},V5.le V6→∃ (k':Nat) (p:ByteArray) (t:SlV) (l:List DRate) (f:List Nat),(((k-1:Nat):Int))=(k':Int)∧k'≤7∧y1=p∧y2=t∧Dx V0 b s V V6∧LR rRate V6 t l f∧(∀ z∈f,z≠b)∧RatesOkP p l∧TabS l :=
  fun le6=>⟨k-1,y1,y2,l,f,rfl,by omega,rfl,rfl,dd.trans (dd.1.dx le6),L5.le le6,hf,ok,td⟩
 refine⟨nofun,e,rfl,fun _=>⟨fun _=>?_,fun _=>?_⟩,fun _=>?_⟩
 ·refine put (c.1,y1,c.2.2) (r.1,y1,r.2.2) ⟨R5.1,⟨rfl,known_len ok.1⟩,R5.2.2⟩ ⟨rd.1,rd.2.1,rd.2.2.1,rd.2.2.2.1,ok.1,rd.2.2.2.2.2⟩ _ fun V6 t6 l6 f6 ok6 le6 h6 p6 hp6=>?_
  refine⟨nofun,((p6,t6,()),ok6,()),rfl,fun ht=>?_,fun _=>?_⟩
  ·have ht':ok6=true:=ht
   obtain⟨q1,q2,q3,q4,q5⟩:=h6 ht'
   obtain rfl:=hp6 ht'
   exact⟨_,rfl,(((k-1:Nat):Int),p6,t6,()),by rw [hw]; rfl,⟨k-1,p6,t6,l6,f6,rfl,by omega,rfl,rfl,q1,q2,q3,q4,q5⟩,by show((k-1:Nat):Int).toNat<(k:Int).toNat; omega⟩
  ·exact⟨_,rfl,(((k-1:Nat):Int),y1,y2,()),by rw [hw]; rfl,stay le6,by show((k-1:Nat):Int).toNat<(k:Int).toNat; omega⟩
 all_goals
  refine put c r R5 rd _ fun V6 t6 l6 f6 ok6 le6 h6 p6 hp6=>?_
  refine⟨nofun,((p6,t6,()),ok6,()),rfl,fun ht=>?_,fun _=>?_⟩
  ·have ht':ok6=true:=ht
   obtain⟨q1,q2,q3,q4,q5⟩:=h6 ht'
   obtain rfl:=hp6 ht'
   exact⟨_,rfl,(((k-1:Nat):Int),p6,t6,()),by rw [hw]; rfl,⟨k-1,p6,t6,l6,f6,rfl,by omega,rfl,rfl,q1,q2,q3,q4,q5⟩,by show((k-1:Nat):Int).toNat<(k:Int).toNat; omega⟩
  ·exact⟨_,rfl,(((k-1:Nat):Int),y1,y2,()),by rw [hw]; rfl,stay le6,by show((k-1:Nat):Int).toNat<(k:Int).toNat; omega⟩
end Go.Proofs.YtmogkainbglpnaaGreatDoor
