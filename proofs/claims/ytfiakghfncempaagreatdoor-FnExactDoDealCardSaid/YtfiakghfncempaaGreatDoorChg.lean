/-
  A book is changed under its lock.
-/
import Derived.Test.YtfiakghfncempaaGreatDoorShS
import Derived.Test.YtfiakghfncempaaGreatDoorEngD
import Derived.Test.YtfiakghfncempaaGreatDoorChecked
import Derived.Conc.MuLone
import Derived.KernelRfl
import Derived.Test.YtfiakghfncempaaGreatDoorCopy
import Derived.WalkKit
namespace Go.Proofs.YtfiakghfncempaaGreatDoor
open Sx
set_option maxRecDepth 100000
theorem natAbs_sg {c0:Bool} {z:Int} (h:0≤z):(((sg c0 z).natAbs:Nat):Int)=z:=by unfold sg; split <;> omega
theorem red_sign {c0:Bool} {z D:Int} {x:DRat} (h:RedS (sg c0 z) D x true) (hz:0≤z):x.1=(c0 && decide (0<z)):=by
 obtain⟨p,q,_,⟨_,_,_,rfl⟩ | ⟨_,k,_⟩⟩:=h
 ·show decide (sg c0 z<0)=_
  unfold sg
  cases c0 with
  | false =>
   have:¬ z<0:=by omega
   simp [this]
  | true =>
   by_cases k:0<z
   ·simp [k]
   ·simp [k]
 ·cases k
theorem lk_zero {D:Int} {z:DRat} (hz:z=nought):LkP 0 D z:=by
 subst hz
 refine⟨⟨⟨⟨⟨lims_nil,.inl rfl⟩,by simp⟩,(fun h=>by cases h)⟩,⟨⟨lims_one (by decide),.inr (by decide)⟩,by simp⟩,by simp,by simp,by simp,by decide⟩,?_⟩
 show(0:Int)*D=0*_
 simp
abbrev ShPostS (V:Know) (c0:Bool) (a w:List Lim):Know→Value→Prop:=fun V' r=>V.le V'∧∃ t out f,r=.tuple #[Sc.val .l t,.bool true]∧LR rSigned V' t out f∧ShOut c0 a w out
theorem cS_Shares (V:Know) (c0:Bool) (c1:SlV) (a:List Lim) (f:List Nat) (h:LR rI V c1 a f) (hi:IntOkP c0 a) (la:a.length≤4) (s:SlV) (w:List Lim) (g:List Nat) (hs:LR rI V s w g) (hw:WtP w) :
  CallX Tryz.prog V 131 [qv0 (c0,c1,()),Sc.val .l s] (ShPostS V c0 a w):=by
 refine CallX.of_fits Tryz.mix (fS_Shares (c0,c1,()) _) fun _=>?_
 simp only [tS_Shares,T.wp]
 have hn:=hs.1
 have h30:=hw.2.1
 have hD:=hw.2.2.2
 have hA0:0≤valN a:=valN_nonneg hi.1.1.1
 have hqn:∀ j,j<w.length→0≤qv (valN a) (smL w) w j:=fun j hj=>qv_nn hA0 hD hw.2.2.1 hj
 have hqA:∀ j,j<w.length→qv (valN a) (smL w) w j≤valN a:=fun j hj=>by
  have h7:=q_sum hA0 hw (k:=j+1) (by omega)
  have h8:sm (qv (valN a) (smL w) w) (j+1)=sm (qv (valN a) (smL w) w) j+qv (valN a) (smL w) w j:=rfl
  have h9:=sm_nn (r:=qv (valN a) (smL w) w) (n:=j) fun i hi'=>hqn i (by omega)
  omega
 refine⟨fun q V'=>V.le V'∧∃ (k:Nat) (P:List PtT) (K:List LkT) (out:List DSigned) (fps:List Nat),q.2.2.1=(k:Int)∧k≤w.length∧q.1.1=k∧q.1.2=P.flatMap (Scs.vals [.b,.l])∧q.2.1.1=k∧q.2.1.2=K.flatMap (Scs.vals [.b,.l,.l])∧P.length=k∧K.length=k∧out.length=k∧Els rSigned V' P out fps ∧
   (∀ j,(hj:j<out.length)→IntOkP out[j].1 out[j].2.1∧sval out[j].1 out[j].2.1=sg c0 (qv (valN a) (smL w) w j)∧out[j].2.1.length≤18) ∧
   ∀ j,j<k→∃ c z g',K[j]?=some c∧rRat.R V' c z g'∧LkP (rv (valN a) (smL w) w j) (smL w) z,fun q _=>((w.length:Int)-(q.2.2.1:Int)).toNat,
  ⟨((0,[]),(0,[]),(0:Int),()),rfl,Know.le.refl _,0,[],[],[],[],rfl,Nat.zero_le _,rfl,rfl,rfl,rfl,rfl,rfl,rfl,rfl,(fun j hj=>absurd hj (Nat.not_lt_zero j)),fun j hj=>absurd hj (Nat.not_lt_zero j)⟩,?_⟩
 rintro⟨⟨(pn:Nat),(pc:List Value)⟩,⟨(kn:Nat),(kc:List Value)⟩,(i:Int),u⟩ V6 ⟨le6,k,P,K,out,fps,e1,hk,e2,e3,e4,e5,hPl,hKl,hol,hE,hO,hK⟩
 replace e1:i=(k:Int):=e1
 replace e2:pn=k:=e2
 replace e3:pc=P.flatMap (Scs.vals [.b,.l]):=e3
 replace e4:kn=k:=e4
 replace e5:kc=K.flatMap (Scs.vals [.b,.l,.l]):=e5
 subst e1 e3 e5 e4 e2
 refine⟨fun hlt=>?_,fun hge=>?_⟩
 ·have h3:pn<w.length:=by
   have:(pn:Int)<(s.n:Int):=of_decide_eq_true hlt
   omega
  have hwk:=hw.2.2.1 pn h3
  have hz0:0≤valN a*limb w pn:=Int.mul_nonneg hA0 hwk.1
  refine(cS_FairShareA V6 c0 c1 a f (h.le le6) hi la s w g (hs.le le6) hw pn h3).mono ?_
  rintro V7 _ ⟨le7,c7,x,f7,rfl,R7,hR⟩
  have ok:=redS_ok hD hR rfl
  obtain⟨s1,s2,g1,g2,rfl,M1,M2,rfl⟩:=rat_elim R7
  refine⟨nofun,((x.1,s1,s2,()),true,()),rfl,(fun h=>by cases h),fun _=>(cS_RatRound V7 x s1 s2 _ _ M1 M2 ok 0 ⟨by decide,by decide⟩).mono ?_⟩
  rintro V8 _ ⟨le8,e,q,sq,fq,rfl,Lq,_,hq⟩
  obtain⟨q1,q2,q3⟩:=rnd_len ok hq
  obtain⟨v1,_,_⟩:=fair_rnd hD hR hq
  rw [natAbs_sg hz0] at v1
  have hqv:valN q=qv (valN a) (smL w) w pn:=v1
  have hsq:sval e q=sg c0 (qv (valN a) (smL w) w pn):=by
   rw [q3,red_sign hR hz0,← hqv]
   cases c0 with
   | false=>rfl
   | true =>
    by_cases k:0<valN a*limb w pn
    ·simp [k,sval,sg]
    ·have z0:valN a*limb w pn=0:=by omega
     have:valN q=0:=by rw [v1,z0]; simp
     simp [k,sval,sg,this]
  refine⟨nofun,((e,sq,()),true,()),rfl,rfl,⟨rfl,(by omega:(pn+1)*32≤140737488355328),(by omega:pn+1≤9223372036854775807)⟩,?_⟩
  have R8:=rRat.le R7 le8
  refine(cS_l12Size V8 (x.1,s1,s2,()) x _ R8 hD hR).mono ?_
  rintro V9 _ ⟨le9,c9,z9,g9,rfl,R9,hz9⟩
  rw [natAbs_sg hz0] at hz9
  have l69:=(le7.trans le8).trans le9
  refine⟨nofun,c9,rfl,rfl,⟨rfl,(by omega:(pn+1)*56≤140737488355328),(by omega:pn+1≤9223372036854775807)⟩,_,rfl,
   ((pn+1,(P++[((e,sq,()):PtT)]).flatMap (Scs.vals [.b,.l])),(pn+1,(K++[(c9:LkT)]).flatMap (Scs.vals [.b,.l,.l])),((pn+1:Nat):Int),()),?_,⟨le6.trans l69,pn+1,P++[(e,sq,())],K++[c9],out++[(e,q,())],fps++fq,rfl,h3,rfl,rfl,rfl,rfl,by simp [hPl],by simp [hKl],by simp [hol],?_,fun j hj=>?_,fun j hj=>?_⟩,?_⟩
  ·dsimp only
   rw [nxt h3 (by omega),List.flatMap_append,List.flatMap_append]
   rfl
  ·exact Els.snoc (r:=rSigned) ⟨rfl,fq,[],(List.append_nil fq).symm,Lq.le le9,rfl⟩ (hE.le l69)
  ·by_cases e0:j=pn
   ·subst e0
    have e5:(out++[((e,q,()):DSigned)])[j]=(e,q,()):=by
     rw [List.getElem_append_right (by omega)]; simp [hol]
    rw [e5]
    exact⟨q2,hsq,q1⟩
   ·have hj':j<out.length:=by simp at hj; omega
    rw [List.getElem_append_left hj']
    exact hO j hj'
  ·by_cases e0:j=pn
   ·subst e0
    exact⟨c9,z9,g9,by rw [List.getElem?_append_right (by omega),hKl]; simp,R9,hz9⟩
   ·obtain⟨c,z,g',k1,k2,k3⟩:=hK j (by omega)
    exact⟨c,z,g',by rw [List.getElem?_append_left (by omega)]; exact k1,rRat.le k2 l69,k3⟩
  ·show((w.length:Int)-((pn+1:Nat):Int)).toNat<((w.length:Int)-(pn:Int)).toNat
   omega
 have h3:pn=w.length:=by
  have:¬ (pn:Int)<(s.n:Int):=of_decide_eq_false hge
  omega
 subst h3
 obtain⟨left,hl1,hl2,hl3⟩:=left_ex hA0 hw
 refine(cS_WeightsOk V6 s w g (hs.le le6)).mono ?_
 rintro V1 _ ⟨rfl,e,rfl,he⟩
 have e1:e=true:=he.2 hw
 subst e1
 refine⟨nofun,true,rfl,(fun h=>by cases h),fun _=>(cS_IntOk V1 c0 c1 a f (h.le le6)).mono ?_⟩
 rintro V2 _ ⟨rfl,e,rfl,he2⟩
 have e1:e=true:=he2.2 hi
 subst e1
 refine⟨nofun,true,rfl,(fun h=>by cases h),fun _=>?_⟩
 intro b4 cp4 sp4 hb4 hc4 _ b5 cp5 sp5 hb5 hc5 _
 have le4:=kset_le (x:=(P.flatMap (Scs.vals [.b,.l])++sp4,((36:TypeId),((0,0):Nat × Nat)))) hb4
 have hne:b4≠b5:=fun e=>by rw [← e,kset_same] at hb5; cases hb5
 have hb5':V2 b5=none:=none_of_le le4 hb5
 have le5:=kset_le (x:=(K.flatMap (Scs.vals [.b,.l,.l])++sp5,((50:TypeId),((0,0):Nat × Nat)))) hb5
 have l25:=le4.trans le5
 have A4:AtR (sh:=[.b,.l]) V2 b4 36 sp4 P (kset (kset V2 b4 (P.flatMap (Scs.vals [.b,.l])++sp4,((36:TypeId),((0,0):Nat × Nat)))) b5 (K.flatMap (Scs.vals [.b,.l,.l])++sp5,((50:TypeId),((0,0):Nat × Nat)))):=⟨hb4,l25,by rw [kset_other hne,kset_same]⟩
 have A5:AtR (sh:=[.b,.l,.l]) V2 b5 50 sp5 K (kset (kset V2 b4 (P.flatMap (Scs.vals [.b,.l])++sp4,((36:TypeId),((0,0):Nat × Nat)))) b5 (K.flatMap (Scs.vals [.b,.l,.l])++sp5,((50:TypeId),((0,0):Nat × Nat)))):=⟨hb5',l25,kset_same⟩
 generalize (kset (kset V2 b4 (P.flatMap (Scs.vals [.b,.l])++sp4,((36:TypeId),((0,0):Nat × Nat)))) b5 (K.flatMap (Scs.vals [.b,.l,.l])++sp5,((50:TypeId),((0,0):Nat × Nat))))=V8 at A4 A5 l25 ⊢
 have LP:LR rSigned V8 ⟨some ⟨b4,0,none⟩,w.length,cp4⟩ out (b4 :: fps):=⟨hol.symm,hc4,by show w.length≤_; omega,.inr ⟨b4,[],sp4,(36,(0,0)),fps,P,rfl,A4.2.2,hE.le l25,rfl⟩⟩
 refine(cS_IntSumA V8 _ out _ LP (qf:=qv (valN a) (smL w) w) (c0:=c0) hi.1.1 la ⟨fun j hj=>⟨(hO j hj).1,(hO j hj).2.1,by have:=(hO j hj).2.2; omega⟩,fun k hk=>⟨sm_nn fun i hi'=>hqn i (by omega),q_sum hA0 hw (by omega)⟩⟩).mono ?_
 rintro V9 _ ⟨le9,e9,s9,o9,f9,rfl,L9,ok9,v9,l9⟩
 have l09:=(le6.trans l25).trans le9
 refine⟨fun _=>le9,(e9,s9,()),rfl,(cS_IntSubA V9 c0 c1 e9 s9 a o9 f f9 (h.le l09) L9 hi ok9 (by omega) (by omega)).mono ?_⟩
 rintro V10 _ ⟨le10,e10,s10,o10,f10,rfl,L10,ok10,v10,l10⟩
 refine⟨nofun,(e10,s10,()),rfl,(cS_IntAbsA V10 e10 s10 o10 f10 L10 ok10).mono ?_⟩
 rintro V11 _ ⟨le11,e11,s11,o11,f11,rfl,L11,ok11,v11,l11⟩
 have hv10:valN o10=(left:Int):=by
  rw [v9,hol] at v10
  refine sg_abs (c0:=c0) (e:=e10) ok10.1.1.1 (by omega) ?_
  rw [v10,hl1]
  unfold sval sg
  split <;> omega
 have hv11:valN o11=(left:Int):=by
  have:=sval_abs (c0:=e11) ok11.1.1.1
  rw [v11,hv10] at this
  omega
 refine⟨nofun,(e11,s11,()),rfl,(cS_IntNumA V11 e11 s11 o11 f11 L11 ok11 (len30 ok11.1.1 (by rw [hv11]; omega))).mono ?_⟩
 rintro V12 _ ⟨le12,rfl⟩
 rw [v11,hv10]
 refine⟨nofun,((left:Int),true,()),rfl,(cS_IntOfA V12 1 (.inl rfl)).mono ?_⟩
 rintro V13 _ ⟨le13,e13,s13,o13,f13,rfl,L13,N13,ok13,v13,l13⟩
 have l813:=(((le9.trans le10).trans le11).trans le12).trans le13
 have off:∀ {W:Know} {fx:List Nat},V8.le W→(∀ y∈fx,W y=none)→b4 ∉ fx∧b5 ∉ fx:=fun {W fx} hle hx=>by
  constructor
  ·intro hm
   have:=hle _ _ A4.2.2
   rw [hx b4 hm] at this; cases this
  ·intro hm
   have:=hle _ _ A5.2.2
   rw [hx b5 hm] at this; cases this
 have l812:=((le9.trans le10).trans le11).trans le12
 refine⟨nofun,(e13,s13,()),rfl,?_⟩
 refine⟨fun q V'=>V8.le V'∧∃ o f',LR rI V' q.2.1 o f'∧(b4 ∉ f'∧b5 ∉ f')∧IntOkP q.1 o∧sval q.1 o=sg c0 1∧o.length≤1,⟨fun hc=>?_,fun hc=>?_⟩,?_⟩
 ·have hc':c0=true:=hc
  refine(cS_IntOfA V13 (-1) (.inr rfl)).mono ?_
  rintro V14 _ ⟨le14,e14,s14,o14,f14,rfl,L14,N14,ok14,v14,l14⟩
  exact⟨nofun,(e14,s14,()),rfl,_,rfl,(e14,s14,()),rfl,l813.trans le14,o14,f14,L14,off l813 N14,ok14,by rw [v14,hc']; rfl,l14⟩
 ·have hc':c0=false:=hc
  exact⟨_,rfl,(e13,s13,()),rfl,l813,o13,f13,L13,off l812 N13,ok13,by rw [v13,hc']; rfl,l13⟩
 rintro⟨(e1:Bool),(s1:SlV),u1⟩ V15 ⟨l815,o1,f1,L1,off1,ok1,v1,l1⟩
 replace L1:LR rI V15 s1 o1 f1:=L1
 replace ok1:IntOkP e1 o1:=ok1
 replace v1:sval e1 o1=sg c0 1:=v1
 have nU:∀ {y:Nat} {fx:List Nat},(∀ z∈fx,∃ q,V2 z=some q)→(b4 ∉ fx∧b5 ∉ fx):=fun {y fx} hx=>by
  constructor
  ·intro hm
   obtain⟨q,hq⟩:=hx b4 hm
   rw [hb4] at hq; cases hq
  ·intro hm
   obtain⟨q,hq⟩:=hx b5 hm
   rw [hb5'] at hq; cases hq
 have hst:St2 V2 b4 b5 sp4 sp5 c0 a w s1 o1 f1 0 V15:=by
  refine⟨L1,P,K,fun _=>false,hPl,hKl,A4.le l815,A5.le l815,pick_zero,fun j hj=>?_,fun j hj=>?_⟩
  ·obtain⟨h',fj,hRj,hin⟩:=hE.at (i:=j) (by omega)
   obtain⟨k1,k2,k3⟩:=hO j (by omega)
   have hpj:P[j]?=some P[j]:=List.getElem?_eq_getElem h'
   generalize P[j]=row at hRj hpj
   obtain⟨re,rs,ru⟩:=row
   obtain⟨q1,fx,fy,hfj,Lx,hfy⟩:=hRj
   replace q1:re=out[j].1:=q1
   replace Lx:LR rI V2 rs out[j].2.1 fx:=Lx
   subst q1
   exact⟨out[j].1,rs,out[j].2.1,fx,hpj,Lx.le (l25.trans l815),nU (y:=0) Lx.kn,k1,by rw [k2]; show sg c0 _=sg c0 (_+0); rw [Int.add_zero],fun _=>k3⟩
  ·obtain⟨c,z,g',k1,k2,k3⟩:=hK j hj
   obtain⟨t1,t2,j1,j2,rfl,M1,M2,rfl⟩:=rat_elim k2
   exact⟨_,z,k1,⟨t1,t2,j1,j2,rfl,M1.le (l25.trans l815),M2.le (l25.trans l815),nU (y:=0) M1.kn,nU (y:=0) M2.kn⟩,k3⟩
 have fin:∀ {W:Know} {t:Nat},t=left→St2 V2 b4 b5 sp4 sp5 c0 a w s1 o1 f1 t W→V.le W→ShPostS V c0 a w W (packed [.slice (some ⟨b4,0,none⟩) w.length cp4,.bool true]):=fun {W t} ht hS hle=>by
  subst ht
  obtain⟨_,P',K',C,hP',_,B4,_,hPk,hrow,_⟩:=hS
  obtain⟨out',fps',hE',hl',hq'⟩:=els_rows (r:=rSigned) (V:=W) P' (fun j x=>IntOkP x.1 x.2.1∧sval x.1 x.2.1=sg c0 (qv (valN a) (smL w) w j+one01 (C j))) fun j c hc=>by
   have hj:j<w.length:=by have:=(List.getElem?_eq_some_iff.1 hc).1; omega
   obtain⟨e,s',o,f',k1,k2,_,k4,k5,_⟩:=hrow j hj
   rw [hc] at k1
   obtain rfl:=Option.some.inj k1
   exact⟨(e,o,()),f',⟨rfl,f',[],(List.append_nil f').symm,k2,rfl⟩,k4,k5⟩
  exact⟨hle,⟨some ⟨b4,0,none⟩,w.length,cp4⟩,out',b4 :: fps',rfl,⟨by rw [hl',hP'],hc4,by show w.length≤_; omega,.inr ⟨b4,[],sp4,(36,(0,0)),fps',P',rfl,B4.2.2,hE',rfl⟩⟩,by rw [hl',hP'],t,C,hl3,hPk,hq'⟩
 refine⟨fun q V'=>∃ t:Nat,q.1=((left-t:Nat):Int)∧t≤left∧St2 V2 b4 b5 sp4 sp5 c0 a w s1 o1 f1 t V',fun q _=>(q.1:Int).toNat,⟨((left:Int),()),rfl,0,by show(left:Int)=_; simp,Nat.zero_le _,hst⟩,?_⟩
 rintro⟨(zz:Int),u2⟩ W ⟨t,e3,ht,hS⟩
 replace e3:zz=((left-t:Nat):Int):=e3
 subst e3
 have hVW:V.le W:=by
  obtain⟨_,P',K',C,_,_,B4,_⟩:=hS
  exact le6.trans B4.2.1
 refine⟨fun hgt=>?_,fun hle=>fin (t:=t) (by
  have:¬ ((left-t:Nat):Int) > 0:=of_decide_eq_false hle
  omega) hS hVW⟩
 have htl:t<left:=by
  have:((left-t:Nat):Int) > 0:=of_decide_eq_true hgt
  omega
 obtain⟨L1W,P',K',C,hP',hK',B4,B5,hPk,hrow,hlk⟩:=hS
 have hr:=fun j=>rv_bd (A:=valN a) (w:=w) hD j
 have hv0:∀ j,0≤vv (rv (valN a) (smL w) w) C j:=fun j=>by
  unfold vv
  split
  ·exact Int.le_refl _
  ·exact(hr j).1
 refine⟨fun q V'=>W.le V'∧∃ i:Nat,q.2.1=(i:Int)∧i≤w.length∧BestI (vv (rv (valN a) (smL w) w) C) i q.1,fun q _=>((w.length:Int)-(q.2.1:Int)).toNat,⟨((-1:Int),(0:Int),()),rfl,Know.le.refl _,0,rfl,Nat.zero_le _,.inl ⟨rfl,fun j hj=>absurd hj (Nat.not_lt_zero j)⟩⟩,?_⟩
 rintro⟨(bx:Int),(ix:Int),u3⟩ V16 ⟨le16,i,e4,hi',hB⟩
 replace e4:ix=(i:Int):=e4
 replace hB:BestI (vv (rv (valN a) (smL w) w) C) i bx:=hB
 subst e4
 have B5':=B5.le le16
 refine⟨fun hlt=>?_,fun hge=>?_⟩
 ·have h5:i<w.length:=by
   have:(i:Int)<((w.length:Nat):Int):=of_decide_eq_true hlt
   omega
  obtain⟨c,z,k1,k2,k3⟩:=hlk i h5
  obtain⟨t1,t2,j1,j2,rfl,M1,M2,_⟩:=k2
  have nx1:IntKind.i64.wrap ((i:Int)+1)=((i+1:Nat):Int):=nxt h5 (by omega)
  have hmes:((w.length:Int)-((i+1:Nat):Int)).toNat<((w.length:Int)-(i:Int)).toNat:=by omega
  dsimp only
  rw [nx1]
  refine⟨_,rfl,(by omega:(0:Int)≤(i:Int)),(by omega:(i:Int)<((w.length:Nat):Int)),(z.1,t1,t2,()),B5'.ldA k1,(cS_RatSign V16 z.1 t1 t2 _ _ _ _ (M1.le le16) (M2.le le16) k3.1).mono ?_⟩
  rintro V17 _ ⟨le17,rfl⟩
  refine⟨fun _=>le17,_,rfl,fun hs=>?_,fun hs=>?_⟩
  ·have hpos:0<vv (rv (valN a) (smL w) w) C i:=(lk_pos hD k3).1 (sgn_pos.1 (of_decide_eq_true hs))
   refine⟨fun hb=>?_,fun hb=>?_⟩
   ·have hb':bx<0:=of_decide_eq_true hb
    rcases hB with ⟨_,hz⟩ | ⟨b,rfl,_⟩
    ·exact⟨_,rfl,((i:Int),((i+1:Nat):Int),()),rfl,⟨le16.trans le17,i+1,rfl,h5,.inr ⟨i,rfl,by omega,hpos,fun j hj hne=>.inl (by rw [hz j (by omega)]; exact hpos)⟩⟩,hmes⟩
    ·omega
   ·have hb':¬ bx<0:=of_decide_eq_false hb
    rcases hB with ⟨rfl,_⟩ | ⟨b,rfl,hbi,hbp,hbm⟩
    ·omega
    obtain⟨cb,zb,kb1,kb2,kb3⟩:=hlk b (by omega)
    obtain⟨tb1,tb2,jb1,jb2,rfl,Mb1,Mb2,_⟩:=kb2
    have l17:=le16.trans le17
    refine⟨_,rfl,(by omega:(0:Int)≤(b:Int)),(by omega:(b:Int)<((w.length:Nat):Int)),(zb.1,tb1,tb2,()),B5'.ldA kb1,(cS_RatCmp V17 z.1 t1 t2 zb.1 tb1 tb2 _ _ _ _ _ _ _ _ (M1.le l17) (M2.le l17) (Mb1.le l17) (Mb2.le l17) k3.1 kb3.1).mono ?_⟩
    rintro V18 _ ⟨le18,rfl⟩
    refine⟨nofun,_,rfl,fun hc=>?_,fun hc=>?_⟩
    ·have hgt2:=(lk_cmp hD k3 kb3).1 (sgn_pos.1 (of_decide_eq_true hc))
     refine⟨_,rfl,((i:Int),((i+1:Nat):Int),()),rfl,⟨l17.trans le18,i+1,rfl,h5,.inr ⟨i,rfl,by omega,hpos,fun j hj hne=>.inl ?_⟩⟩,hmes⟩
     by_cases e:j=b
     ·subst e; exact hgt2
     ·rcases hbm j (by omega) e with q | q <;> omega
    ·have hle2:¬ vv (rv (valN a) (smL w) w) C b<vv (rv (valN a) (smL w) w) C i:=fun q=>absurd (sgn_pos.2 ((lk_cmp hD k3 kb3).2 q)) (of_decide_eq_false hc)
     refine⟨_,rfl,((b:Int),((i+1:Nat):Int),()),rfl,⟨l17.trans le18,i+1,rfl,h5,.inr ⟨b,rfl,by omega,hbp,fun j hj hne=>?_⟩⟩,hmes⟩
     by_cases e:j=i
     ·subst e; omega
     ·exact hbm j (by omega) hne
  ·have hz:vv (rv (valN a) (smL w) w) C i=0:=by
    have h1:¬ 0<vv (rv (valN a) (smL w) w) C i:=fun q=>absurd (sgn_pos.2 ((lk_pos hD k3).2 q)) (of_decide_eq_false hs)
    have h2:=hv0 i
    omega
   refine⟨_,rfl,(bx,((i+1:Nat):Int),()),rfl,⟨le16.trans le17,i+1,rfl,h5,?_⟩,hmes⟩
   rcases hB with ⟨rfl,hzz⟩ | ⟨b,rfl,hbi,hbp,hbm⟩
   ·refine .inl ⟨rfl,fun j hj=>?_⟩
    by_cases e:j=i
    ·subst e; exact hz
    ·exact hzz j (by omega)
   ·refine .inr ⟨b,rfl,by omega,hbp,fun j hj hne=>?_⟩
    by_cases e:j=i
    ·subst e; exact .inl (by rw [hz]; exact hbp)
    ·exact hbm j (by omega) hne
 have hin:i=w.length:=by
  have:¬ (i:Int)<((w.length:Nat):Int):=of_decide_eq_false hge
  omega
 subst hin
 refine⟨fun hneg=>?_,fun hpos=>?_⟩
 ·have hb':bx<0:=of_decide_eq_true hneg
  rcases hB with ⟨_,hz⟩ | ⟨b,rfl,_⟩
  ·obtain⟨j,hj,hcj,hrj⟩:=pick_left hD (fun j _=>hr j) hl3 hPk htl
   have:=hz j hj
   unfold vv at this
   rw [hcj] at this
   simp at this
   omega
  ·omega
 have hb':¬ bx<0:=of_decide_eq_false hpos
 rcases hB with ⟨rfl,_⟩ | ⟨b,rfl,hbi,hbp,hbm⟩
 ·omega
 have hCb:C b=false:=by
  cases e:C b with
  | false=>rfl
  | true =>
   unfold vv at hbp
   rw [if_pos e] at hbp
   omega
 obtain⟨eb,sb,ob,fb,kb1,kb2,kb3,kb4,kb5,kb6⟩:=hrow b hbi
 have B4':=B4.le le16
 refine⟨_,rfl,(by omega:(0:Int)≤(b:Int)),(by omega:(b:Int)<((w.length:Nat):Int)),(eb,sb,()),B4'.ldA kb1,(cS_IntAdd V16 eb sb e1 s1 ob o1 fb f1 (kb2.le le16) (L1W.le le16) kb4 ok1 (by have:=kb6 hCb; omega) (by omega)).mono ?_⟩
 rintro V17 _ ⟨le17,e17,s17,o17,f17,rfl,L17,O17,ok17,v17,_⟩
 have off17:b4 ∉ f17∧b5 ∉ f17:=by
  constructor
  ·intro hm
   have:=O17.2.1 b4 hm
   rw [B4'.2.2] at this; cases this
  ·intro hm
   have:=O17.2.1 b5 hm
   rw [B5'.2.2] at this; cases this
 obtain⟨cs4,u4,sp1,h41,h42,A18⟩:=(B4'.le le17).stA (k:=b) (by omega) (e17,s17,())
 have A18':=(B5'.le le17).other (b':=((⟨b4,0,none⟩:Addr).add (b*[Sc.b,Sc.l].length)).block) (by rw [addr_add_eq]; exact hne) (by rw [addr_add_eq]; exact B4.1) (setl cs4 ((⟨b4,0,none⟩:Addr).add (b*[Sc.b,Sc.l].length)).off (Scs.vals [.b,.l] (e17,s17,())),(u4,(0,0)))
 refine⟨nofun,(e17,s17,()),rfl,_,rfl,(by omega:(0:Int)≤(b:Int)),(by omega:(b:Int)<((w.length:Nat):Int)),cs4,u4,sp1,h41,h42,(cS_RatZero _).mono ?_⟩
 rintro V19 _ ⟨le19,c19,g19,rfl,R19,N19⟩
 obtain⟨t1,t2,j1,j2,hc19,M1,M2,rfl⟩:=rat_elim R19
 have A19:=A18.le le19
 have A19':=A18'.le le19
 obtain⟨cs5,u5,sp2,h51,h52,A20'⟩:=A19'.stA (k:=b) (by omega) c19
 have A20:=A19.other (b':=((⟨b5,0,none⟩:Addr).add (b*[Sc.b,Sc.l,Sc.l].length)).block) (by rw [addr_add_eq]; exact fun e=>hne e.symm) (by rw [addr_add_eq]; exact B5.1) (setl cs5 ((⟨b5,0,none⟩:Addr).add (b*[Sc.b,Sc.l,Sc.l].length)).off (Scs.vals [.b,.l,.l] c19),(u5,(0,0)))
 have carry:∀ {s:SlV} {o:List Lim} {fx:List Nat},LR rI V17 s o fx→b4 ∉ fx∧b5 ∉ fx→LR rI (kset V19 ((⟨b5,0,none⟩:Addr).add (b*[Sc.b,Sc.l,Sc.l].length)).block (setl cs5 ((⟨b5,0,none⟩:Addr).add (b*[Sc.b,Sc.l,Sc.l].length)).off (Scs.vals [.b,.l,.l] c19),(u5,(0,0)))) s o fx:=fun {s o fx} hL hx=>((hL.off (b:=((⟨b4,0,none⟩:Addr).add (b*[Sc.b,Sc.l].length)).block) (by rw [addr_add_eq]; exact hx.1) _).le le19).off (b:=((⟨b5,0,none⟩:Addr).add (b*[Sc.b,Sc.l,Sc.l].length)).block) (by rw [addr_add_eq]; exact hx.2) _
 have carryR:∀ {c':Scs [.b,.l,.l]} {z':DRat},RatAt V17 b4 b5 c' z'→RatAt (kset V19 ((⟨b5,0,none⟩:Addr).add (b*[Sc.b,Sc.l,Sc.l].length)).block (setl cs5 ((⟨b5,0,none⟩:Addr).add (b*[Sc.b,Sc.l,Sc.l].length)).off (Scs.vals [.b,.l,.l] c19),(u5,(0,0)))) b4 b5 c' z':=fun {c' z'} hR=>by
  have h1:RatAt (kset V17 ((⟨b4,0,none⟩:Addr).add (b*[Sc.b,Sc.l].length)).block (setl cs4 ((⟨b4,0,none⟩:Addr).add (b*[Sc.b,Sc.l].length)).off (Scs.vals [.b,.l] (e17,s17,())),(u4,(0,0)))) b4 b5 c' z':=by
   rw [addr_add_eq]; exact hR.offL _
  have h2:=h1.le le19
  rw [addr_add_eq]; exact h2.offR _
 have l17:=le16.trans le17
 have n19:∀ {gx:List Nat},(∀ y∈gx,y∈j1++(j2++[]))→b4 ∉ gx∧b5 ∉ gx:=fun {gx} hx=>by
  constructor
  ·intro hm
   have:=A18.2.2.symm.trans (N19 b4 (hx b4 hm)); cases this
  ·intro hm
   have:=A18'.2.2.symm.trans (N19 b5 (hx b5 hm)); cases this
 refine⟨nofun,c19,rfl,_,rfl,(by omega:(0:Int)≤(b:Int)),(by omega:(b:Int)<((w.length:Nat):Int)),cs5,u5,sp2,h51,h52,_,rfl,(((left-(t+1):Nat):Int),()),?_,⟨t+1,rfl,htl,carry (L1W.le l17) off1,P'.set b (e17,s17,()),K'.set b c19,put1 C b,by rw [List.length_set]; exact hP',by rw [List.length_set]; exact hK',A20,A20',pick_put hPk hbi hCb fun j hj hcj hnej=>?_,fun j hj=>?_,fun j hj=>?_⟩,?_⟩
 ·have ew:IntKind.i64.wrap (((left-t:Nat):Int)-1)=((left-(t+1):Nat):Int):=by rw [wrap_i64 (by omega)]; omega
  dsimp only
  rw [ew]; rfl
 ·have h1:=hbm j hj hnej
  unfold vv at h1
  rw [hcj,hCb] at h1
  simp only [Bool.false_eq_true,if_false] at h1
  unfold Bf
  omega
 ·by_cases e:j=b
  ·subst e
   have e9:put1 C j j=true:=if_pos rfl
   refine⟨e17,s17,o17,f17,by rw [List.getElem?_set_self (by omega)],carry L17 off17,off17,ok17,?_,fun q=>by rw [e9] at q; cases q⟩
   rw [v17,kb5,v1,sg_add,hCb,e9]
   congr 1
   show _+0+1=_+1
   omega
  ·obtain⟨e',s',o',f',q1,q2,q3,q4,q5,q6⟩:=hrow j hj
   have e9:put1 C b j=C j:=if_neg e
   exact⟨e',s',o',f',by rw [List.getElem?_set_ne (fun q=>e q.symm)]; exact q1,carry (q2.le l17) q3,q3,q4,by rw [e9]; exact q5,by rw [e9]; exact q6⟩
 ·by_cases e:j=b
  ·subst e
   have e9:put1 C j j=true:=if_pos rfl
   have ev:vv (rv (valN a) (smL w) w) (put1 C j) j=0:=by unfold vv; rw [if_pos e9]
   refine⟨c19,nought,by rw [List.getElem?_set_self (by omega)],⟨t1,t2,j1,j2,hc19,M1.off (b:=((⟨b5,0,none⟩:Addr).add (j*[Sc.b,Sc.l,Sc.l].length)).block) (by rw [addr_add_eq]; exact(n19 (fun y hy=>by simp [hy])).2) _,M2.off (b:=((⟨b5,0,none⟩:Addr).add (j*[Sc.b,Sc.l,Sc.l].length)).block) (by rw [addr_add_eq]; exact(n19 (fun y hy=>by simp [hy])).2) _,n19 (fun y hy=>by simp [hy]),n19 (fun y hy=>by simp [hy])⟩,?_⟩
   rw [ev]
   exact lk_zero rfl
  ·obtain⟨c',z',q1,q2,q3⟩:=hlk j hj
   have e9:put1 C b j=C j:=if_neg e
   have ev:vv (rv (valN a) (smL w) w) (put1 C b) j=vv (rv (valN a) (smL w) w) C j:=by unfold vv; rw [e9]
   exact⟨c',z',by rw [List.getElem?_set_ne (fun q=>e q.symm)]; exact q1,carryR (q2.le l17),by rw [ev]; exact q3⟩
 ·show(((left-(t+1):Nat):Int)).toNat<(((left-t:Nat):Int)).toNat
  omega
end Go.Proofs.YtfiakghfncempaaGreatDoor
namespace Go.Proofs.YtfiakghfncempaaGreatDoor
open Sx
set_option maxRecDepth 100000
abbrev muL:Go.Conc.Locks.MuLink:={ lock:=327,unlock:=328,ilock:=331,iunlock:=332,lockSlow:=338,unlockSlow:=341,disable:=334,enable:=336,acquire:=337,relMerge:=339,cas32:=335,add32:=340,tIMutex:=335,tMutex:=337,tPMutex:=345,tPIMutex:=346,tPI32:=348,tUP:=350,tNoCopy:=333,tU32:=273 }
theorem muLib:Go.Conc.Locks.MuLib Tryz.prog muL :=
 ⟨Tryz.func327,Tryz.func328,Tryz.func331,Tryz.func332,Tryz.func334,Tryz.func336,Tryz.func337,Tryz.func339,Tryz.func335,Tryz.func340,
  by kernel_rfl,fun w=>prun_run (by kernel_rfl) w,fun w=>prun_run (by kernel_rfl) w,fun w=>prun_run (by kernel_rfl) w,fun w=>prun_run (by kernel_rfl) w,
  by kernel_rfl,fun w=>prun_run (by kernel_rfl) w,fun w=>prun_run (by kernel_rfl) w,fun w=>prun_run (by kernel_rfl) w,fun w=>prun_run (by kernel_rfl) w,
  by kernel_rfl,fun w=>prun_run (by kernel_rfl) w,fun w=>prun_run (by kernel_rfl) w,fun w=>prun_run (by kernel_rfl) w,fun w=>prun_run (by kernel_rfl) w,
  by kernel_rfl,fun w=>prun_run (by kernel_rfl) w,fun w=>prun_run (by kernel_rfl) w,fun w=>prun_run (by kernel_rfl) w,fun w=>prun_run (by kernel_rfl) w,
  by kernel_rfl,fun w=>prun_run (by kernel_rfl) w,fun w=>prun_run (by kernel_rfl) w,fun w=>prun_run (by kernel_rfl) w,fun w=>prun_run (by kernel_rfl) w,
  by kernel_rfl,fun w=>prun_run (by kernel_rfl) w,fun w=>prun_run (by kernel_rfl) w,fun w=>prun_run (by kernel_rfl) w,fun w=>prun_run (by kernel_rfl) w,
  by kernel_rfl,fun w=>prun_run (by kernel_rfl) w,fun w=>prun_run (by kernel_rfl) w,fun w=>prun_run (by kernel_rfl) w,fun w=>prun_run (by kernel_rfl) w,
  by kernel_rfl,fun w=>prun_run (by kernel_rfl) w,fun w=>prun_run (by kernel_rfl) w,fun w=>prun_run (by kernel_rfl) w,fun w=>prun_run (by kernel_rfl) w,
  by kernel_rfl⟩
end Go.Proofs.YtfiakghfncempaaGreatDoor
namespace Go.Proofs.YtfiakghfncempaaGreatDoor
open Sx Go.MuLone
set_option maxRecDepth 100000
theorem run_enter {P:Program} {n:Nat} (h:Enters P n) (args:Array Value) (w:World):(callFunc n args).run P w=.ok (.enter n args) w:=by
 obtain⟨fn,h1,h2,h3⟩:=h
 have h2':fn.body≠none:=fun e=>by rw [e] at h2; cases h2
 have h3' : ¬ fn.name = "runtime.NumGoroutine" := by simpa using h3
 simp [callFunc,h1,h2',h3']
set_option maxHeartbeats 800000 in
theorem change_any (b n:Nat) (cs:Array Value) (K:World→Bool→Prop) (w:World) (h0:w.cell? ⟨b,0,none⟩=some (.int .i32 0)) (f0:w.frozen? ⟨b,0,none⟩=false) (hn:Enters Tryz.prog n)
  (hc:Calls Tryz.prog n (#[.pointer (some ⟨b,2,none⟩)]++cs) (w.setCell ⟨b,0,none⟩ (.int .i32 1)) fun e w'=>∃ r,e=.returned (.bool r)∧w'.cell? ⟨b,0,none⟩=some (.int .i32 1)∧w'.frozen? ⟨b,0,none⟩=false∧K (w'.setCell ⟨b,0,none⟩ (.int .i32 0)) r) :
  Calls Tryz.prog 325 #[.pointer (some ⟨b,0,none⟩),.func (.func n) #[] cs] w fun e w'=>∃ r,e=.returned (.bool r)∧K w' r:=by
 go_enter_defers Tryz.func325,Tryz.ntmps325
 go_wp2_with (go_at_call 327; refine(lock_free muLib ⟨b,0,none⟩ _ h0 f0).mono ?_; rintro e w' ⟨rfl,rfl⟩)
 rw [run_enter hn]
 refine Calls.mono hc ?_
 rintro e w' ⟨r,rfl,h1,f1,hK⟩
 go_wp2
 refine leaves_cons (f:=328) (args:=#[.pointer (some ⟨b,0,none⟩)]) (by simp) (by simp [go_sem]) ?_
 refine(unlock_deferred muLib ⟨b,0,none⟩ .returning _ h1 f1).mono ?_
 rintro e u' w'' ⟨rfl,rfl,rfl⟩
 exact⟨_,results_tmp rfl _ _ _,r,rfl,hK⟩
theorem set_on {V:Know} {w:World} (hV:V.on w) {b:Nat} {x y:Value} {l:List Value} {t:TypeId} (hb:V b=some (x :: l,(t,(0,0)))) :
  (kset V b (y :: l,(t,(0,0)))).on (w.setCell ⟨b,0,none⟩ y)∧Fr V (kset V b (y :: l,(t,(0,0)))) w (w.setCell ⟨b,0,none⟩ y)∧w.cell? ⟨b,0,none⟩=some x∧w.frozen? ⟨b,0,none⟩=false:=by
 have h0:w.heap[b]?=some (.cells (x :: l).toArray t (0,0)):=by rw [hV b _ _ hb,objOf_rw]
 have hlt:b<w.heap.size:=(Array.getElem?_eq_some_iff.1 h0).1
 have hs:∀ k,k≠b→(w.setCell ⟨b,0,none⟩ y).heap[k]?=w.heap[k]?:=fun k hk=>by
  simp only [World.setCell,Array.getElem?_modify]
  rw [if_neg (fun e:b=k=>hk e.symm)]
 have hsb:(w.setCell ⟨b,0,none⟩ y).heap[b]?=some (.cells (y :: l).toArray t (0,0)):=by
  simp only [World.setCell,Array.getElem?_modify,if_true,h0]
  simp
 refine⟨fun k c u hk=>?_,⟨rfl,rfl,rfl,by simp [World.setCell],fun k _ hk=>hs k (fun e=>by rw [e,hb] at hk; cases hk),fun k _ hk=>?_⟩,?_,?_⟩
 ·by_cases e:k=b
  ·subst e
   rw [kset_same] at hk
   cases hk
   rw [hsb,objOf_rw]
  ·rw [kset_other e] at hk
   rw [hs k e]; exact hV k c u hk
 ·rw [kset_other (fun e=>by rw [e,hb] at hk; cases hk)]; exact hk
 ·simp [World.cell?,h0]
 ·simp [World.frozen?,h0]
abbrev gdT:TypeId:=339
theorem guard_change {V:Know} {b n:Nat} {cs:List Value} {q s:Value} (hb:V b=some ([.int .i32 0,q,s],(gdT,(0,0)))) {K:Know→Bool→Prop}
  (hc:CallX Tryz.prog (kset V b ([.int .i32 1,q,s],(gdT,(0,0)))) n (.pointer (some ⟨b,2,none⟩) :: cs) fun V' r=>∃ e q' s',r=.bool e∧V' b=some ([.int .i32 1,q',s'],(gdT,(0,0)))∧K (kset V' b ([.int .i32 0,q',s'],(gdT,(0,0)))) e) :
  CallX Tryz.prog V 325 [.pointer (some ⟨b,0,none⟩),.func (.func n) #[] cs.toArray] fun V' r=>∃ e,r=.bool e∧K V' e:=by
 refine⟨⟨_,Tryz.func325,by kernel_rfl,by kernel_rfl⟩,fun w hw=>?_⟩
 obtain⟨on1,fr1,c1,z1⟩:=set_on (y:=.int .i32 1) hw hb
 refine(change_any b n cs.toArray (fun w' e=>∃ V',Fr V V' w w'∧V'.on w'∧K V' e) w c1 z1 hc.1 ?_).mono ?_
 ·have h2:=hc.2 _ on1
  have ea:(.pointer (some ⟨b,2,none⟩) :: cs).toArray=#[Value.pointer (some ⟨b,2,none⟩)]++cs.toArray:=by simp
  rw [ea] at h2
  refine h2.mono ?_
  rintro e w' ⟨V',r,rfl,fr2,on2,e,q',s',rfl,hb2,hK⟩
  obtain⟨on3,fr3,c3,z3⟩:=set_on (y:=.int .i32 0) on2 hb2
  exact⟨e,rfl,c3,z3,_,(fr1.trans fr2).trans fr3,on3,hK⟩
 ·rintro e w' ⟨r,rfl,V',h1,h2,h3⟩
  exact⟨V',_,rfl,h1,h2,r,rfl,h3⟩
def Change (V:Know) (n:Nat) (cs:List Value) (l:List DAcct) (out:List DAcct) (ok:Bool):Prop :=
 ∀ (V1:Know) (b:Nat) (q:Value) (s:SlV) (f:List Nat),V.le V1→V b=none→GR rAcct acT V1 s l f→Own V V1 f→l.length≤1048576→b ∉ f→V1 b=some ([.int .i32 1,q,.slice s.a s.n s.c],(gdT,(0,0))) →
  CallX Tryz.prog V1 n (.pointer (some ⟨b,2,none⟩) :: cs) fun V2 r=>r=.bool ok∧V.le V2∧∃ s',V2 b=some ([.int .i32 1,q,.slice s'.a s'.n s'.c],(gdT,(0,0)))∧(ok=true→∃ f',LR rAcct V2 s' out f'∧Own V V2 f'∧b ∉ f')
abbrev BkPost (V:Know) (y:List DAcct × Bool):Know→Value→Prop:=fun V' v=>V.le V'∧∃ s f,v=.tuple #[qv4 (s,()),.bool y.2]∧LR rAcct V' s y.1 f∧Own V V' f
theorem kset_loc {V:Know} {b:Nat} {y:List Value × KTy} {g:List Nat} (h:b ∉ g):∀ b'∈g,kset V b y b'=V b':=fun b' hb'=>kset_other (fun e=>h (by rw [← e]; exact hb'))
theorem kset_le2 {V V':Know} {b:Nat} {y:List Value × KTy} (h:V.le V') (hb:V b=none):V.le (kset V' b y):=fun k z hk=>by
 rw [kset_other (fun e=>by rw [e,hb] at hk; cases hk)]
 exact h k z hk
theorem own_kset {V V':Know} {b:Nat} {y:List Value × KTy} {f:List Nat} (h:Own V V' f) (hb:b ∉ f):Own V (kset V' b y) f :=
 ⟨h.1,h.2.1,fun k hk=>by obtain⟨c,t,q⟩:=h.2.2 k hk; exact⟨c,t,by rw [kset_other (fun e=>hb (by rw [← e]; exact hk))]; exact q⟩⟩
theorem cI_changed {V:Know} (s:SlV) (l:List DAcct) (f:List Nat) (h:LR rAcct V s l f) (ht:l.length+totE rAcct l≤1048576) (n:Nat) (cs:List Value) (out:List DAcct) (ok:Bool) (hone:one [.func (.func n) #[] cs.toArray]=true) (hc:Change V n cs l out ok) :
  CallX Tryz.prog V 319 [qv4 (s,()),.func (.func n) #[] cs.toArray] (BkPost V (if ok=true then out else [],ok)):=by
 refine CallX.of_fits Tryz.mix (fI_changed (s,()) ⟨_,hone⟩) fun _=>?_
 simp only [tI_changed,T.wp]
 refine(growI_book V (s,()) (l,()) _ (rSl.mk h rNil.mk) (by show l.length+totE rAcct l+0≤1048576; omega)).mono ?_
 rintro V1 _ ⟨le1,s1,f1,rfl,r1,O1⟩
 refine⟨nofun,(s1,()),rfl,fun b hb=>?_⟩
 have hbV:V b=none:=none_of_le le1 hb
 have hbf:b ∉ f1:=fun hm=>by
  obtain⟨c,t,k⟩:=O1.2.2 b hm
  rw [hb] at k; cases k
 refine(guard_change (s:=.slice s1.a s1.n s1.c) (q:=.int .u32 0) (cs:=cs) (K:=fun V' e=>e=ok∧V.le V'∧∃ s',V' b=some ([.int .i32 0,.int .u32 0,.slice s'.a s'.n s'.c],(gdT,(0,0)))∧(ok=true→∃ f',LR rAcct V' s' out f'∧Own V V' f')) kset_same ?_).mono ?_
 ·refine(hc _ b (.int .u32 0) s1 f1 ?_ hbV (r1.loc (fun y hy=>(kset_loc hbf y hy).trans (kset_loc hbf y hy))) ?_ (by omega) hbf kset_same).mono ?_
  ·exact kset_le2 (kset_le2 le1 hbV) hbV
  ·exact own_kset (own_kset O1 hbf) hbf
  ·rintro V2 _ ⟨rfl,le2,s',h2,hok⟩
   refine⟨ok,_,_,rfl,h2,rfl,kset_le2 le2 hbV,s',kset_same,fun k=>?_⟩
   obtain⟨f',q1,q2,q3⟩:=hok k
   exact⟨f',q1.loc (kset_loc q3),own_kset q2 q3⟩
 ·rintro V2 _ ⟨e,rfl,rfl,le2,s',h2,hok⟩
  refine⟨nofun,e,rfl,fun hf=>?_,fun hT=>?_⟩
  ·have:e=false:=by simpa using hf
   subst this
   exact⟨le2,⟨none,0,0⟩,[],rfl,⟨rfl,Nat.le_refl _,by decide,.inl ⟨rfl,fun _=>rfl,rfl⟩⟩,Own.nil⟩
  ·have:e=true:=by simpa using hT
   subst this
   obtain⟨f',q1,q2⟩:=hok rfl
   refine⟨(s',()),?_,le2,s',f',rfl,q1,q2⟩
   simp only [addr_add_eq,loadV,Bool.false_eq_true,if_false,h2]
   rfl
end Go.Proofs.YtfiakghfncempaaGreatDoor
