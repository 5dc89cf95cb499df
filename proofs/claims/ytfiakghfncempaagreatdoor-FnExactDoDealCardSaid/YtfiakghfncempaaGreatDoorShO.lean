/-
  The reference's shares: fair shares, what they lack, numbers and their sums.
-/
import Derived.Test.YtfiakghfncempaaGreatDoorShJ
namespace Go.Proofs.YtfiakghfncempaaGreatDoor
open Sx Srt
set_option maxRecDepth 100000
theorem slL_set {mg:List SlV} {k:Nat} {s:SlV}:(slL mg).set k (Value.slice s.a s.n s.c)=slL (mg.set k s):=by
 rw [slL,slL,List.map_set]; rfl
def rhoL (rs:List (List Lim)):Int→List Lim:=fun i=>rs.getD i.toNat []
def Sh1I (V0:Know) (a w:List Lim) (k:Nat) (tl:SlV) (mn:Nat) (mc:List Value) (pn:Nat) (pc:List Value) (V:Know):Prop :=
 V0.le V∧mn=w.length∧pn=k∧∃ (mg:List SlV) (Z:List PrC) (rs:List (List Lim)) (lf:List Lim) (fl:List Nat),mc=slL mg∧mg.length=w.length∧pc=Z.flatMap (Scs.vals prSh)∧Z.length=k∧rs.length=k ∧
  (∀ j,j<k→∃ s o f,mg[j]?=some s∧LR rI V s o f∧Can o∧valN o=qv (valN a) (smL w) w j) ∧
  (∀ j,j<k→∃ s f,Z[j]?=some ((j:Int),s,())∧LR rI V s (rhoL rs (j:Int)) f∧Can (rhoL rs (j:Int))∧valN (rhoL rs (j:Int))=rv (valN a) (smL w) w j) ∧
  LR rI V tl lf fl∧Can lf∧lf.length≤4∧valN lf=valN a-sm (qv (valN a) (smL w) w) k
def Sh2I (V0:Know) (a w:List Lim) (Z:List PrC) (t:Nat) (mn:Nat) (mc:List Value) (V:Know):Prop :=
 V0.le V∧mn=w.length∧∃ (mg:List SlV) (C:Nat→Bool),mc=slL mg∧mg.length=w.length∧Pick (rv (valN a) (smL w) w) w.length t C∧(∀ j,j<w.length→(C j=true↔∃ u s,u<t∧Z[u]?=some ((j:Int),s,()))) ∧
  ∀ j,j<w.length→∃ s o f,mg[j]?=some s∧LR rI V s o f∧Can o∧valN o=qv (valN a) (smL w) w j+one01 (C j)
theorem rho_snoc {rs:List (List Lim)} {r:List Lim} {j:Nat}:rhoL (rs++[r]) (j:Int)=if j<rs.length then rhoL rs (j:Int) else if j=rs.length then r else []:=by
 unfold rhoL
 rw [Int.toNat_natCast]
 simp only [List.getD_eq_getElem?_getD]
 by_cases h:j<rs.length
 ·rw [if_pos h,List.getElem?_append_left h]
 ·rw [if_neg h,List.getElem?_append_right (by omega)]
  by_cases e:j=rs.length
  ·subst e; simp
  ·rw [if_neg e]
   have:¬ j-rs.length=0:=by omega
   rw [List.getElem?_eq_none (by simp; omega)]
   rfl
theorem signed_ok {c0:Bool} {o:List Lim} {s:SlV} (hc:Can o) (hl:o.length≤50) (hn:s.n=o.length):IntOkP (c0 && decide ((s.n:Int) > 0)) o∧sval (c0 && decide ((s.n:Int) > 0)) o=if c0=true then -valN o else valN o:=by
 refine⟨⟨⟨hc,hl⟩,fun h=>?_⟩,?_⟩
 ·rw [Bool.and_eq_true,decide_eq_true_eq] at h
  omega
 ·unfold sval
  cases c0 with
  | false=>simp
  | true =>
   by_cases k:0<s.n
   ·simp [k]
   ·have e:o=[]:=List.eq_nil_of_length_eq_zero (by omega)
    subst e
    have e2:valN []=0:=rfl
    simp [e2]
abbrev ShPost (V:Know) (c0:Bool) (a w:List Lim):Know→Value→Prop:=fun V' r=>V.le V'∧∃ t out f,r=.tuple #[Sc.val .l t,.bool true]∧LR rSigned V' t out f∧ShOut c0 a w out
theorem len1 {l:List Lim} (hc:Can l) (h:valN l≤30):l.length≤1:=by
 have c30:Can [((30:Int),())]:=⟨lims_one (by decide),.inr (by decide)⟩
 have v30:valN [((30:Int),())]=30:=by decide
 have:=can_len c30 hc (by rw [v30]; exact h)
 simpa using this
theorem cI_Shares (V:Know) (c0:Bool) (c1:SlV) (a:List Lim) (f:List Nat) (h:LR rI V c1 a f) (hi:IntOkP c0 a) (la:a.length≤4) (s:SlV) (w:List Lim) (g:List Nat) (hs:LR rI V s w g) (hw:WtP w) :
  CallX Tryz.prog V 310 [qv0 (c0,c1,()),Sc.val .l s] (ShPost V c0 a w):=by
 refine CallX.of_fits Tryz.mix (fI_Shares (c0,c1,()) _) fun _=>?_
 simp only [tI_Shares,T.wp]
 have hn:=hs.1
 have h30:=hw.2.1
 have h1w:=hw.1
 have hD:=hw.2.2.2
 have hA0:0≤valN a:=valN_nonneg hi.1.1.1
 have hsm:=wt_bd hw.2.2.1 (Nat.le_refl w.length)
 refine(cI_WeightsOk V s w g hs).mono ?_
 rintro V1 _ ⟨rfl,e,rfl,he⟩
 have e1:e=true:=he.2 hw
 subst e1
 refine⟨nofun,true,rfl,(fun h=>by cases h),fun _=>(cI_IntOk V1 c0 c1 a f h).mono ?_⟩
 rintro V2 _ ⟨rfl,e,rfl,he2⟩
 have e1:e=true:=he2.2 hi
 subst e1
 refine⟨nofun,true,rfl,(fun h=>by cases h),fun _=>(cI_sumInts V2 s w g hs hw.2.2.1 h30).mono ?_⟩
 rintro V3 _ ⟨rfl,rfl⟩
 refine⟨nofun,_,rfl,(cI_NatOf V3 (smL w) (by unfold smL; omega)).mono ?_⟩
 rintro V4 _ ⟨le4,s4,o4,f4,rfl,L4,_,C4,v4,l4⟩
 have hpos:0<valN o4:=by rw [v4]; exact hD
 have hne4:0<o4.length:=by
  refine Nat.pos_of_ne_zero fun e=>?_
  have:o4=[]:=List.eq_nil_of_length_eq_zero e
  subst this
  exact absurd hpos (by decide)
 refine⟨nofun,s4,rfl,(cI_natCopy V4 c1 a f (h.le le4) (by omega)).mono ?_⟩
 rintro V5 _ ⟨le5,s5,f5,rfl,L5,_⟩
 have l05:=le4.trans le5
 refine⟨nofun,s5,rfl,⟨by omega,Int.le_refl _,by omega,by omega⟩,?_⟩
 refine⟨fun q V'=>∃ k:Nat,q.2.2.2.1=(k:Int)∧k≤w.length∧Sh1I V5 a w k q.1 q.2.1.1 q.2.1.2 q.2.2.1.1 q.2.2.1.2 V',fun q _=>((w.length:Int)-(q.2.2.2.1:Int)).toNat,
  ⟨(s5,(w.length,slL (List.replicate w.length ⟨none,0,0⟩)),(0,[]),(0:Int),()),?_,0,rfl,Nat.zero_le _,Know.le.refl _,rfl,rfl,_,[],[],a,f5,rfl,by simp,rfl,rfl,rfl,(fun j hj=>absurd hj (Nat.not_lt_zero j)),(fun j hj=>absurd hj (Nat.not_lt_zero j)),L5,hi.1.1,la,by show valN a=valN a-0; omega⟩,?_⟩
 ·rw [hn,Int.toNat_natCast,Nat.mul_one,made_sl]; rfl
 rintro⟨(tl:SlV),⟨(mn:Nat),(mc:List Value)⟩,⟨(pn:Nat),(pc:List Value)⟩,(i:Int),u⟩ V6 ⟨k,e1,hk,hI⟩
 replace e1:i=(k:Int):=e1
 subst e1
 obtain⟨le6,hmn,hpn,mg,Z,rs,lf,fl,hmc,hml,hpc,hZl,hrl,hM,hP,LF,CF,lF,vF⟩:=hI
 replace hmn:mn=w.length:=hmn
 replace hpn:pn=k:=hpn
 replace hmc:mc=slL mg:=hmc
 replace hpc:pc=Z.flatMap (Scs.vals prSh):=hpc
 replace LF:LR rI V6 tl lf fl:=LF
 subst hmn hpn hmc hpc
 have l06:=l05.trans le6
 refine⟨fun hlt=>?_,fun hge=>?_⟩
 ·have h3:pn<w.length:=by
   have:(pn:Int)<(s.n:Int):=of_decide_eq_true hlt
   omega
  have hwk:=hw.2.2.1 pn h3
  refine(cI_FairShare V6 c0 c1 a f (h.le l06) hi la s w g (hs.le l06) hw pn h3).mono ?_
  rintro V7 _ ⟨le7,c7,rfl⟩
  have l07:=l06.trans le7
  obtain⟨b,o,ha,hl⟩:=(hs.le l07).int h3
  refine⟨nofun,(c7,true,()),rfl,(fun h=>by cases h),fun _=>⟨_,ha,(by omega:(0:Int)≤(pn:Int)),(by omega:(pn:Int)<(s.n:Int)),w[pn].1,hl,(cI_NatOf V7 _ (by rw [limb_at h3]; omega)).mono ?_⟩⟩
  rintro V8 _ ⟨le8,s8,o8,f8,rfl,L8,_,C8,v8,l8⟩
  have l08:=l07.trans le8
  refine⟨fun _=>le8,s8,rfl,(cI_natMul V8 c1 s8 a o8 f f8 (h.le l08) L8 hi.1.1.1 C8.1 (by omega) (by omega)).mono ?_⟩
  rintro V9 _ ⟨le9,s9,o9,b9,rfl,N9,_,C9,v9,_⟩
  have l9:=mul_len C8 C9 hi.1.1.1 v9
  have l09:=l08.trans le9
  refine⟨nofun,s9,rfl,(cI_natDiv V9 s9 s4 o9 o4 _ f4 N9.lr (L4.le (((le5.trans le6).trans le7).trans (le8.trans le9))) C9 C4 (by omega) hne4).mono ?_⟩
  rintro V10 _ ⟨le10,sq,sr,q,r,fq,fr,rfl,LQ,LRr,_,_,CQ,CR,vdiv,vr⟩
  have l610:=(le7.trans le8).trans (le9.trans le10)
  obtain⟨eq1,er1⟩:=div_of (x:=valN a*limb w pn) (q:=valN q) (r:=valN r) (D:=smL w) (by rw [← limb_at h3,← v8,← v9,vdiv,v4]) (valN_nonneg CR.1) (by rw [← v4]; exact vr)
  have hq1:valN q≤valN lf:=by
   have h4:=q_sum hA0 hw (k:=pn+1) h3
   have h5:sm (qv (valN a) (smL w) w) (pn+1)=sm (qv (valN a) (smL w) w) pn+qv (valN a) (smL w) w pn:=rfl
   rw [vF,eq1]
   unfold qv at h4 h5 ⊢
   omega
  refine⟨nofun,(sq,sr,()),rfl,⟨(by omega:(0:Int)≤(pn:Int)),(by omega:(pn:Int)<((w.length:Nat):Int))⟩,?_,?_⟩
  ·show Int.toNat (pn:Int)*1+1≤(slL mg).length
   rw [List.length_map,Int.toNat_natCast]
   omega
  refine(cI_natSub V10 tl sq lf q fl fq (LF.le l610) LQ CF.1 CQ.1 (by omega) (can_len CF CQ hq1) hq1).mono ?_
  rintro V11 _ ⟨le11,s11,o11,f11,rfl,L11,_,C11,v11,_⟩
  have l611:=l610.trans le11
  have hqn:=qv_nn hA0 hD hw.2.2.1 h3
  have eqq:qv (valN a) (smL w) w pn=valN q:=eq1.symm
  have l11:o11.length≤4:=Nat.le_trans (can_len hi.1.1 C11 (by
   have h4:=q_sum hA0 hw (k:=pn+1) h3
   have h6:=(sm_bd (r:=qv (valN a) (smL w) w) (B:=valN a) (n:=pn) fun i hi'=>⟨qv_nn hA0 hD hw.2.2.1 (by omega),by
    have h7:=q_sum hA0 hw (k:=i+1) (by omega)
    have h8:sm (qv (valN a) (smL w) w) (i+1)=sm (qv (valN a) (smL w) w) i+qv (valN a) (smL w) w i:=rfl
    have h9:=sm_nn (r:=qv (valN a) (smL w) w) (n:=i) fun j hj=>qv_nn hA0 hD hw.2.2.1 (by omega)
    omega⟩).1
   omega)) la
  refine⟨nofun,s11,rfl,rfl,⟨rfl,(by omega:(pn+1)*32≤140737488355328),(by omega:pn+1≤9223372036854775807)⟩,_,rfl,
   (s11,(w.length,slL (mg.set pn sq)),(pn+1,(Z++[(((pn:Int),sr,()):PrC)]).flatMap (Scs.vals prSh)),((pn+1:Nat):Int),()),?_,⟨pn+1,rfl,h3,le6.trans l611,rfl,rfl,mg.set pn sq,Z++[((pn:Int),sr,())],rs++[r],o11,f11,rfl,by rw [List.length_set]; exact hml,rfl,by simp [hZl],by simp [hrl],fun j hj=>?_,fun j hj=>?_,L11,C11,l11,?_⟩,?_⟩
  ·dsimp only
   rw [nxt h3 (by omega),Int.toNat_natCast,Nat.mul_one,setl_one (by rw [List.length_map]; omega),slL_set,List.flatMap_append]
   rfl
  ·by_cases e:j=pn
   ·subst e
    exact⟨sq,q,fq,by rw [List.getElem?_set_self (by omega)],LQ.le le11,CQ,eq1⟩
   ·obtain⟨s',o',f',g1,g2,g3⟩:=hM j (by omega)
    exact⟨s',o',f',by rw [List.getElem?_set_ne (fun q=>e q.symm)]; exact g1,g2.le l611,g3⟩
  ·rw [rho_snoc,hrl]
   by_cases e:j=pn
   ·subst e
    rw [if_neg (by omega),if_pos rfl]
    exact⟨sr,fr,by rw [List.getElem?_append_right (by omega),hZl]; simp,LRr.le le11,CR,er1⟩
   ·obtain⟨s',f',g1,g2,g3⟩:=hP j (by omega)
    rw [if_pos (by omega)]
    exact⟨s',f',by rw [List.getElem?_append_left (by omega)]; exact g1,g2.le l611,g3⟩
  ·show valN o11=valN a-(sm (qv (valN a) (smL w) w) pn+qv (valN a) (smL w) w pn)
   omega
  ·show((w.length:Int)-((pn+1:Nat):Int)).toNat<((w.length:Int)-(pn:Int)).toNat
   omega
 ·have h3:pn=w.length:=by
   have:¬ (pn:Int)<(s.n:Int):=of_decide_eq_false hge
   omega
  subst h3
  obtain⟨left,hl1,hl2,hl3⟩:=left_ex hA0 hw
  intro b7 c7 sp7 hb7 hc7 _
  have le7:=kset_le (x:=(Z.flatMap (Scs.vals prSh)++sp7,((322:TypeId),((0,0):Nat × Nat)))) hb7
  have hZat:∀ j,j<Z.length→∃ s f,Z[j]?=some ((j:Int),s,())∧LR rI V6 s (rhoL rs (j:Int)) f∧Can (rhoL rs (j:Int))∧valN (rhoL rs (j:Int))=rv (valN a) (smL w) w j:=fun j hj=>hP j (by omega)
  have lin:Lin (PrLt (rhoL rs)) Z:=by
   refine List.pairwise_iff_getElem.2 fun x y hx hy hxy=>?_
   obtain⟨s1,_,g1,_⟩:=hZat x hx
   obtain⟨s2,_,g2,_⟩:=hZat y hy
   rw [List.getElem?_eq_getElem hx] at g1
   rw [List.getElem?_eq_getElem hy] at g2
   rw [Option.some.inj g1,Option.some.inj g2]
   unfold PrLt
   show(valN (rhoL rs (y:Int))<valN (rhoL rs (x:Int))∨(valN (rhoL rs (x:Int))=valN (rhoL rs (y:Int))∧(x:Int)<(y:Int)))∨_
   show(valN (rhoL rs (y:Int))<valN (rhoL rs (x:Int))∨(valN (rhoL rs (x:Int))=valN (rhoL rs (y:Int))∧(x:Int)<(y:Int)))∨(valN (rhoL rs (x:Int))<valN (rhoL rs (y:Int))∨(valN (rhoL rs (y:Int))=valN (rhoL rs (x:Int))∧(y:Int)<(x:Int)))
   omega
  have key:=cI_sortBy (lt:=PrLt (rhoL rs)) PrLt.tr (c:=c7) (b:=b7) (Z:=Z) (post:=sp7) (t:=((322:TypeId),((0,0):Nat × Nat))) (V:=kset V6 b7 (Z.flatMap (Scs.vals prSh)++sp7,((322:TypeId),((0,0):Nat × Nat)))) kset_same (by omega) lin (cmp_parts fun c hc=>by
   obtain⟨j,hj,rfl⟩:=List.mem_iff_getElem.1 hc
   obtain⟨s1,f1,g1,g2,g3,_⟩:=hZat j hj
   rw [List.getElem?_eq_getElem hj] at g1
   rw [Option.some.inj g1]
   exact⟨⟨f1,g2.le le7⟩,g3⟩)
  rw [hZl] at key
  refine key.mono ?_
  rintro V9 _ ⟨b2,c2,post2,Z2,rfl,hc2,_,le9,hb2,perm,srt⟩
  have l69:=le7.trans le9
  have hz2l:Z2.length=w.length:=perm.length_eq.trans hZl
  refine⟨nofun,(⟨some ⟨b2,0,none⟩,w.length,c2⟩:SlV),rfl,(cI_NatInt V9 tl lf fl (LF.le l69) CF (len1 CF (by rw [vF]; omega))).mono ?_⟩
  rintro V10 _ ⟨le10,rfl⟩
  have evl:valN lf=(left:Int):=by rw [vF,hl1]
  have l610:=l69.trans le10
  refine⟨nofun,(valN lf,true,()),rfl,?_⟩
  dsimp only
  rw [evl]
  refine⟨⟨by decide,(by omega:(0:Int)≤(left:Int)),(by omega:(left:Int)≤(c2:Int)),Int.le_refl _⟩,?_⟩
  have hb2':=le10 _ _ hb2
  have ea:(if ((c2:Nat):Int).toNat=Int.toNat (0:Int) then (some ⟨b2,0,none⟩:Option Addr) else Option.map (fun x:Addr=>x.add (Int.toNat (0:Int)*Tryz.prog.types[(322:Nat)].size)) (some (⟨b2,0,none⟩:Addr)))=some (⟨b2,0,none⟩:Addr):=by
   split
   ·rfl
   ·show some ((⟨b2,0,none⟩:Addr).add (0*_))=_
    rw [Nat.zero_mul,addr_add_eq]
  rw [ea]
  have e0:Int.toNat (left:Int)-Int.toNat (0:Int)=left:=by
   rw [Int.toNat_natCast]; rfl
  rw [e0]
  -- the sorted parts
  have hZ2:∀ (u:Nat) (c:PrC),Z2[u]?=some c→∃ j:Nat,j<w.length∧c.1=(j:Int)∧valN (rhoL rs c.1)=rv (valN a) (smL w) w j:=fun u c hu=>by
   have hm:=perm.mem_iff.1 (List.mem_of_getElem? hu)
   obtain⟨j,hj,rfl⟩:=List.mem_iff_getElem.1 hm
   obtain⟨s1,f1,g1,_,_,g4⟩:=hZat j hj
   rw [List.getElem?_eq_getElem hj] at g1
   rw [Option.some.inj g1]
   exact⟨j,by omega,rfl,g4⟩
  have hall:∀ j,j<w.length→∃ u s,u<w.length∧Z2[u]?=some ((j:Int),s,()):=fun j hj=>by
   obtain⟨s1,f1,g1,_⟩:=hZat j (by omega)
   obtain⟨u,hu,e⟩:=List.mem_iff_getElem.1 (perm.mem_iff.2 (List.mem_of_getElem? g1))
   exact⟨u,s1,by omega,by rw [List.getElem?_eq_getElem hu,e]⟩
  have hbf:∀ (u v:Nat) (c d:PrC) (i j:Nat),u<v→v<w.length→Z2[u]?=some c→Z2[v]?=some d→c.1=(i:Int)→d.1=(j:Int)→Bf (rv (valN a) (smL w) w) i j:=fun u v c d i j h1 h2 hc hd e1 e2=>by
   have h3:=srt u v c d (Nat.zero_le _) h1 (by omega) hc hd
   obtain⟨i',_,e1',v1⟩:=hZ2 u c hc
   obtain⟨j',_,e2',v2⟩:=hZ2 v d hd
   have:i'=i:=by omega
   subst this
   have:j'=j:=by omega
   subst this
   unfold PrLt at h3
   unfold Bf
   rw [v1,v2] at h3
   omega
  refine⟨fun q V'=>∃ t:Nat,q.2.1=(t:Int)∧t≤left∧Sh2I V10 a w Z2 t q.1.1 q.1.2 V',fun q _=>((left:Int)-(q.2.1:Int)).toNat,
   ⟨((w.length,slL mg),(0:Int),()),rfl,0,rfl,Nat.zero_le _,Know.le.refl _,rfl,mg,fun _=>false,rfl,hml,pick_zero,fun j _=>⟨(fun h=>by cases h),fun⟨u,_,hu,_⟩=>absurd hu (Nat.not_lt_zero u)⟩,fun j hj=>?_⟩,?_⟩
  ·obtain⟨s',o',f',g1,g2,g3,g4⟩:=hM j hj
   exact⟨s',o',f',g1,g2.le l610,g3,by rw [g4]; show _=_+0; omega⟩
  rintro⟨⟨(mn:Nat),(mc:List Value)⟩,(i:Int),u⟩ V11 ⟨t,e1,ht,hI2⟩
  replace e1:i=(t:Int):=e1
  subst e1
  obtain⟨le11,hmn,mg2,C,hmc,hml2,hPk,hCi,hM2⟩:=hI2
  replace hmn:mn=w.length:=hmn
  replace hmc:mc=slL mg2:=hmc
  subst hmn hmc
  refine⟨fun hlt=>?_,fun hge=>?_⟩
  ·have h4:t<left:=by
    have:(t:Int)<(left:Int):=of_decide_eq_true hlt
    omega
   have hA2:AtR (sh:=prSh) (fun _=>none) b2 322 post2 Z2 V11:=⟨rfl,(fun _ _ h=>by cases h),le11 _ _ hb2'⟩
   obtain⟨ct,hct⟩:=at_ex (Z:=Z2) (k:=t) (by omega)
   obtain⟨j0,hj0,ej0,_⟩:=hZ2 t ct hct
   obtain⟨i0,s0,u0⟩:=ct
   replace ej0:i0=(j0:Int):=ej0
   subst ej0
   obtain⟨sj,oj,fj,g1,g2,g3,g4⟩:=hM2 j0 hj0
   have hC0:C j0=false:=by
    cases e:C j0 with
    | false=>rfl
    | true =>
     obtain⟨v,sv,hv,hvz⟩:=(hCi j0 hj0).1 e
     exact absurd (hbf v t _ _ j0 j0 hv (by omega) hvz hct rfl rfl) (fun q=>q.irr q)
   refine⟨_,rfl,(by omega:(0:Int)≤(t:Int)),(by omega:(t:Int)<((left:Nat):Int)),((j0:Int),s0,u0),hA2.ldA hct,⟨(by omega:(0:Int)≤(j0:Int)),(by omega:(j0:Int)<((w.length:Nat):Int))⟩,sj,by rw [Int.toNat_natCast,Nat.mul_one]; exact cut_sl g1,fun b14 hb14=>?_⟩
   have n1:=newI (V:=V11) (b:=b14) (cap:=1) (o:=[((1:Int),())]) (spare:=[]) (t:=3) hb14 (by decide) (by decide)
   have le14:=kset_le (x:=([Value.int .i64 1],((3:TypeId),((0,0):Nat × Nat)))) hb14
   have hoj:oj.length≤1000000:=by
    have h7:=q_sum hA0 hw (k:=j0+1) (by omega)
    have h8:sm (qv (valN a) (smL w) w) (j0+1)=sm (qv (valN a) (smL w) w) j0+qv (valN a) (smL w) w j0:=rfl
    have h9:=sm_nn (r:=qv (valN a) (smL w) w) (n:=j0) fun j hj=>qv_nn hA0 hD hw.2.2.1 (by omega)
    have h10:valN oj≤valN a:=by
     rw [g4,hC0]
     show qv (valN a) (smL w) w j0+0≤_
     omega
    have:=can_len hi.1.1 g3 h10
    omega
   refine(cI_natAdd _ sj (⟨some ⟨b14,0,none⟩,1,1⟩:SlV) oj [((1:Int),())] fj [b14] (g2.le le14) n1.1 g3.1 (lims_one (by decide)) hoj (by decide)).mono ?_
   rintro V15 _ ⟨le15,s15,o15,f15,rfl,L15,_,C15,v15,_⟩
   have l1115:=le14.trans le15
   have v1:valN [((1:Int),())]=1:=by decide
   refine⟨fun _=>le15,s15,rfl,⟨(by omega:(0:Int)≤(j0:Int)),(by omega:(j0:Int)<((w.length:Nat):Int))⟩,?_,_,rfl,((w.length,slL (mg2.set j0 s15)),((t+1:Nat):Int),()),?_,⟨t+1,rfl,h4,le11.trans l1115,rfl,mg2.set j0 s15,put1 C j0,rfl,by rw [List.length_set]; exact hml2,pick_put hPk hj0 hC0 fun j hj hcj hne=>?_,fun j hj=>?_,fun j hj=>?_⟩,?_⟩
   ·show Int.toNat (j0:Int)*1+1≤(slL mg2).length
    rw [List.length_map,Int.toNat_natCast]
    omega
   ·dsimp only
    rw [nxt h4 (by omega),Int.toNat_natCast,Nat.mul_one,setl_one (by rw [List.length_map]; omega),slL_set]
    rfl
   ·obtain⟨v,sv,hv,hvz⟩:=hall j hj
    have hvt:t<v:=by
     refine Classical.byContradiction fun q=>?_
     by_cases e:v=t
     ·subst e
      rw [hct] at hvz
      have:=congrArg Prod.fst (Option.some.inj hvz)
      exact hne (by have h9:(j0:Int)=(j:Int):=this; omega)
     ·have:=(hCi j hj).2 ⟨v,sv,by omega,hvz⟩
      rw [this] at hcj; cases hcj
    exact hbf t v _ _ j0 j hvt hv hct hvz rfl rfl
   ·unfold put1
    by_cases e:j=j0
    ·subst e
     rw [if_pos rfl]
     exact⟨fun _=>⟨t,s0,by omega,hct⟩,fun _=>rfl⟩
    ·rw [if_neg e,hCi j hj]
     constructor
     ·rintro⟨v,sv,hv,hvz⟩
      exact⟨v,sv,by omega,hvz⟩
     ·rintro⟨v,sv,hv,hvz⟩
      refine⟨v,sv,?_,hvz⟩
      by_cases e2:v=t
      ·subst e2
       rw [hct] at hvz
       have:=congrArg Prod.fst (Option.some.inj hvz)
       exact absurd (by have h9:(j0:Int)=(j:Int):=this; omega) e
      ·omega
   ·by_cases e:j=j0
    ·subst e
     refine⟨s15,o15,f15,by rw [List.getElem?_set_self (by omega)],L15,C15,?_⟩
     have e9:put1 C j j=true:=if_pos rfl
     rw [v15,v1,g4,hC0,e9]
     show _+0+1=_+1
     omega
    ·obtain⟨s',o',f',k1,k2,k3,k4⟩:=hM2 j hj
     have e9:put1 C j0 j=C j:=if_neg e
     exact⟨s',o',f',by rw [List.getElem?_set_ne (fun q=>e q.symm)]; exact k1,k2.le l1115,k3,by rw [e9]; exact k4⟩
   ·show((left:Int)-((t+1:Nat):Int)).toNat<((left:Int)-(t:Int)).toNat
    omega
  ·have h4:t=left:=by
    have:¬ (t:Int)<(left:Int):=of_decide_eq_false hge
    omega
   subst h4
   refine⟨fun q V'=>∃ (i:Nat) (cs:List (Scs [.b,.l])) (out:List DSigned) (fps:List Nat),q.2.1=(i:Int)∧i≤w.length∧V11.le V'∧q.1.1=i∧q.1.2=cs.flatMap (Scs.vals [.b,.l])∧cs.length=i∧out.length=i∧Els rSigned V' cs out fps ∧
     ∀ j,(hj:j<out.length)→IntOkP out[j].1 out[j].2.1∧sval out[j].1 out[j].2.1=if c0=true then -(qv (valN a) (smL w) w j+one01 (C j)) else qv (valN a) (smL w) w j+one01 (C j),fun q _=>((w.length:Int)-(q.2.1:Int)).toNat,
    ⟨((0,[]),(0:Int),()),rfl,0,[],[],[],rfl,Nat.zero_le _,Know.le.refl _,rfl,rfl,rfl,rfl,rfl,fun j hj=>absurd hj (Nat.not_lt_zero j)⟩,?_⟩
   rintro⟨⟨(on:Nat),(oc:List Value)⟩,(i:Int),u2⟩ V12 ⟨k,cs,out,fps,e1,hkl,le12,e2,e3,hcl,hol,hE,hO⟩
   replace e1:i=(k:Int):=e1
   replace e2:on=k:=e2
   replace e3:oc=cs.flatMap (Scs.vals [.b,.l]):=e3
   subst e1 e2 e3
   refine⟨fun hlt=>?_,fun hge=>?_⟩
   ·have h5:on<w.length:=by
     have:(on:Int)<((w.length:Nat):Int):=of_decide_eq_true hlt
     omega
    obtain⟨sj,oj,fj,g1,g2,g3,g4⟩:=hM2 on h5
    have hqb:qv (valN a) (smL w) w on≤valN a:=by
     have h7:=q_sum hA0 hw (k:=on+1) (by omega)
     have h8:sm (qv (valN a) (smL w) w) (on+1)=sm (qv (valN a) (smL w) w) on+qv (valN a) (smL w) w on:=rfl
     have h9:=sm_nn (r:=qv (valN a) (smL w) w) (n:=on) fun j hj=>qv_nn hA0 hD hw.2.2.1 (by omega)
     omega
    have hol5:oj.length≤50:=by
     by_cases hc:C on=true
     ·have hpp:=pick_pos hD (fun i _=>rv_bd hD i) hl3 hPk h5 hc
      have hlt:qv (valN a) (smL w) w on<valN a:=by
       refine Classical.byContradiction fun q=>?_
       have e9:qv (valN a) (smL w) w on=valN a:=by omega
       have e10:=Int.mul_ediv_add_emod (valN a*limb w on) (smL w)
       have e11:limb w on≤smL w:=by
        have k1:=sm_part (r:=limb w) (n:=on+1) (m:=w.length) (by omega) fun i hi'=>(hw.2.2.1 i hi').1
        have k2:=sm_nn (r:=limb w) (n:=on) fun i hi'=>(hw.2.2.1 i (by omega)).1
        have k3:sm (limb w) (on+1)=sm (limb w) on+limb w on:=rfl
        unfold smL
        omega
       have e12:=Int.mul_le_mul_of_nonneg_left e11 hA0
       unfold qv at e9
       unfold rv at hpp
       rw [e9,Int.mul_comm (smL w)] at e10
       omega
      have:=can_len hi.1.1 g3 (by rw [g4,hc]; show qv (valN a) (smL w) w on+1≤_; omega)
      omega
     ·have hc':C on=false:=by cases e:C on with
       | true=>exact absurd e hc
       | false=>rfl
      have:=can_len hi.1.1 g3 (by rw [g4,hc']; show qv (valN a) (smL w) w on+0≤_; omega)
      omega
    refine⟨⟨(by omega:(0:Int)≤(on:Int)),(by omega:(on:Int)<((w.length:Nat):Int))⟩,sj,by rw [Int.toNat_natCast,Nat.mul_one]; exact cut_sl g1,(cI_signed V12 c0 sj).mono ?_⟩
    rintro V13 _ ⟨rfl,rfl⟩
    have Lj:=g2.le le12
    obtain⟨k1,k2⟩:=signed_ok (c0:=c0) (s:=sj) g3 hol5 Lj.1
    refine⟨nofun,(c0 && decide ((sj.n:Int) > 0),sj,()),rfl,rfl,⟨rfl,(by omega:(on+1)*32≤140737488355328),(by omega:on+1≤9223372036854775807)⟩,_,rfl,
     ((on+1,(cs++[((c0 && decide ((sj.n:Int) > 0),sj,()):Scs [.b,.l])]).flatMap (Scs.vals [.b,.l])),((on+1:Nat):Int),()),?_,⟨on+1,cs++[(c0 && decide ((sj.n:Int) > 0),sj,())],out++[(c0 && decide ((sj.n:Int) > 0),oj,())],fps++fj,rfl,h5,le12,rfl,rfl,by simp [hcl],by simp [hol],?_,fun j hj=>?_⟩,?_⟩
    ·dsimp only
     rw [nxt h5 (by omega),List.flatMap_append]
     rfl
    ·exact Els.snoc (r:=rSigned) ⟨rfl,fj,[],(List.append_nil fj).symm,Lj,rfl⟩ hE
    ·by_cases e:j=on
     ·subst e
      have e5:(out++[((c0 && decide ((sj.n:Int) > 0),oj,()):DSigned)])[j]=(c0 && decide ((sj.n:Int) > 0),oj,()):=by
       rw [List.getElem_append_right (by omega)]; simp [hol]
      rw [e5]
      refine⟨k1,?_⟩
      rw [k2,g4]
     ·have hj':j<out.length:=by simp at hj; omega
      rw [List.getElem_append_left hj']
      exact hO j hj'
    ·show((w.length:Int)-((on+1:Nat):Int)).toNat<((w.length:Int)-(on:Int)).toNat
     omega
   ·have h5:on=w.length:=by
     have:¬ (on:Int)<((w.length:Nat):Int):=of_decide_eq_false hge
     omega
    intro b12 c12 sp12 hb12 hc12 _
    have le13:=kset_le (x:=(cs.flatMap (Scs.vals [.b,.l])++sp12,((36:TypeId),((0,0):Nat × Nat)))) hb12
    refine⟨(((l05.trans le6).trans l610).trans (le11.trans le12)).trans le13,⟨some ⟨b12,0,none⟩,on,c12⟩,out,b12 :: fps,rfl,⟨hol.symm,hc12,(by omega:on≤9223372036854775807),.inr ⟨b12,[],sp12,(36,(0,0)),fps,cs,rfl,kset_same,hE.le le13,rfl⟩⟩,by rw [hol]; exact h5,t,C,hl3,hPk,hO⟩
end Go.Proofs.YtfiakghfncempaaGreatDoor
namespace Go.Proofs.YtfiakghfncempaaGreatDoor
open Sx
set_option maxRecDepth 100000
theorem sval_not {e:Bool} {o:List Lim}:sval (!e) o=-sval e o:=by cases e <;> simp [sval]
abbrev IntQ (V:Know) (z:Int) (m:Nat):Know→Value→Prop:=fun V' r=>V.le V'∧∃ e s o f,r=qv0 (e,s,())∧LR rI V' s o f∧IntOkP e o∧sval e o=z∧o.length≤m
theorem cS_IntNegA (V:Know) (c0:Bool) (c1:SlV) (a:List Lim) (f:List Nat) (h:LR rI V c1 a f) (ha:IntOkP c0 a):CallX Tryz.prog V 132 [qv0 (c0,c1,())] (IntQ V (-sval c0 a) a.length):=by
 refine CallX.of_fits Tryz.mix (fS_IntNeg (c0,c1,())) fun _=>?_
 simp only [tS_IntNeg,T.wp]
 refine(cS_IntOk V c0 c1 a f h).mono ?_
 rintro V1 _ ⟨rfl,e,rfl,he⟩
 have le1:=Know.le.refl V1
 have e1:e=true:=he.2 ha
 subst e1
 refine⟨nofun,true,rfl,(fun h=>by cases h),fun _=>(cS_l04MakeL V1 (!c0) c1 a f (h.le le1) ha.1.1.1 ha.1.2).mono ?_⟩
 rintro V2 _ ⟨le2,e,s,o,f2,rfl,L2,_,ok,hv,hl⟩
 exact⟨nofun,(e,s,()),rfl,le1.trans le2,e,s,o,f2,rfl,L2,ok,hv.trans sval_not,hl⟩
theorem cS_IntAbsA (V:Know) (c0:Bool) (c1:SlV) (a:List Lim) (f:List Nat) (h:LR rI V c1 a f) (ha:IntOkP c0 a):CallX Tryz.prog V 182 [qv0 (c0,c1,())] (IntQ V (valN a) a.length):=by
 refine CallX.of_fits Tryz.mix (fS_IntAbs (c0,c1,())) fun _=>?_
 simp only [tS_IntAbs,T.wp]
 refine(cS_IntOk V c0 c1 a f h).mono ?_
 rintro V1 _ ⟨rfl,e,rfl,he⟩
 have le1:=Know.le.refl V1
 have e1:e=true:=he.2 ha
 subst e1
 refine⟨nofun,true,rfl,(fun h=>by cases h),fun _=>(cS_l04MakeL V1 false c1 a f (h.le le1) ha.1.1.1 ha.1.2).mono ?_⟩
 rintro V2 _ ⟨le2,e,s,o,f2,rfl,L2,_,ok,hv,hl⟩
 exact⟨nofun,(e,s,()),rfl,le1.trans le2,e,s,o,f2,rfl,L2,ok,hv,hl⟩
theorem cS_IntSubA (V:Know) (c0:Bool) (c1:SlV) (d0:Bool) (d1:SlV) (a b:List Lim) (f g:List Nat) (h:LR rI V c1 a f) (h':LR rI V d1 b g) (ha:IntOkP c0 a) (hb:IntOkP d0 b) (la:a.length≤49) (lb:b.length≤49) :
  CallX Tryz.prog V 183 [qv0 (c0,c1,()),qv0 (d0,d1,())] (IntQ V (sval c0 a-sval d0 b) 50):=by
 refine CallX.of_fits Tryz.mix (fS_IntSub (c0,c1,()) (d0,d1,())) fun _=>?_
 simp only [tS_IntSub,T.wp]
 refine(cS_IntOk V c0 c1 a f h).mono ?_
 rintro V1 _ ⟨rfl,e,rfl,he⟩
 have le1:=Know.le.refl V1
 have e1:e=true:=he.2 ha
 subst e1
 refine⟨nofun,true,rfl,(fun h=>by cases h),fun _=>(cS_IntOk V1 d0 d1 b g (h'.le le1)).mono ?_⟩
 rintro V2 _ ⟨rfl,e,rfl,he⟩
 have le2:=Know.le.refl V2
 have e1:e=true:=he.2 hb
 subst e1
 have l2:=le1.trans le2
 refine⟨nofun,true,rfl,(fun h=>by cases h),fun _=>(cS_IntNegA V2 d0 d1 b g (h'.le l2) hb).mono ?_⟩
 rintro V3 _ ⟨le3,e,s,o,f2,rfl,L2,ok,hv,hl⟩
 refine⟨fun _=>le3,(e,s,()),rfl,(cS_l04Add V3 c0 c1 e s a o f f2 (h.le (l2.trans le3)) L2 ha.1.1 ok.1.1 la (by omega)).mono ?_⟩
 rintro V4 _ ⟨le4,e4,s4,o4,f4,rfl,L4,_,ok4,hv4,hl4⟩
 exact⟨nofun,(e4,s4,()),rfl,(l2.trans le3).trans le4,e4,s4,o4,f4,rfl,L4,ok4,by rw [hv4,hv]; omega,hl4⟩
theorem cS_IntOfA (V:Know) (x:Int) (hx:x=1∨x=-1):CallX Tryz.prog V 149 [.int .i64 x] (fun V' r=>V.le V'∧∃ e s o f,r=qv0 (e,s,())∧LR rI V' s o f∧(∀ y∈f,V y=none)∧IntOkP e o∧sval e o=x∧o.length≤1):=by
 refine CallX.of_fits Tryz.mix (fS_IntOf _) fun _=>?_
 simp only [tS_IntOf,T.wp]
 refine⟨fun h=>?_,fun _=>⟨fun h=>?_,fun h=>?_⟩⟩
 ·have:x=-9223372036854775808:=beq_iff_eq.1 h
  omega
 ·have h':x<0:=of_decide_eq_true h
  have ex:x=-1:=by omega
  subst ex
  have ew:IntKind.i64.wrap ((0:Int) - -1)=1:=by decide
  rw [ew]
  refine(cS_NatOf V 1 (by decide)).mono ?_
  rintro V1 _ ⟨le1,s,o,f,rfl,L,_,C,v,l⟩
  have l1:=can_len (a:=[((1:Int),())]) ⟨lims_one (by decide),.inr (by decide)⟩ C (by rw [v,valN_one]; omega)
  refine⟨nofun,s,rfl,(cS_l04MakeL V1 true s o f L C.1 (by omega)).mono ?_⟩
  rintro V2 _ ⟨le2,e,s2,o2,f2,rfl,L2,O2,ok,hv,hl⟩
  exact⟨nofun,(e,s2,()),rfl,le1.trans le2,e,s2,o2,f2,rfl,L2,(fun y hy=>none_of_le le1 (O2.2.1 y hy)),ok,by rw [hv]; show -valN o=-1; rw [v],Nat.le_trans hl l1⟩
 ·have h':¬ x<0:=of_decide_eq_false h
  have ex:x=1:=by omega
  subst ex
  refine(cS_NatOf V 1 (by decide)).mono ?_
  rintro V1 _ ⟨le1,s,o,f,rfl,L,_,C,v,l⟩
  have l1:=can_len (a:=[((1:Int),())]) ⟨lims_one (by decide),.inr (by decide)⟩ C (by rw [v,valN_one]; omega)
  refine⟨nofun,s,rfl,(cS_l04MakeL V1 false s o f L C.1 (by omega)).mono ?_⟩
  rintro V2 _ ⟨le2,e,s2,o2,f2,rfl,L2,O2,ok,hv,hl⟩
  exact⟨nofun,(e,s2,()),rfl,le1.trans le2,e,s2,o2,f2,rfl,L2,(fun y hy=>none_of_le le1 (O2.2.1 y hy)),ok,by rw [hv]; show valN o=1; rw [v],Nat.le_trans hl l1⟩
theorem cS_RatNegA (V:Know) (x:DRat) (s s':SlV) (f f':List Nat) (h:LR rI V s x.2.1 f) (h':LR rI V s' x.2.2.1 f') (ok:RatOkP x.1 x.2.1 x.2.2.1) :
  CallX Tryz.prog V 219 [qv1 (x.1,s,s',())] (fun V' r=>V.le V'∧∃ c y g,r=.tuple #[qv1 c,.bool true]∧rRat.R V' c y g∧RatOkP y.1 y.2.1 y.2.2.1∧sval y.1 y.2.1=-sval x.1 x.2.1∧y.2.2.1=x.2.2.1):=by
 refine CallX.of_fits Tryz.mix (fS_RatNeg (x.1,s,s',())) fun _=>?_
 simp only [tS_RatNeg,T.wp]
 refine(cS_RatOk V x.1 s s' _ _ _ _ h h').mono ?_
 rintro V1 _ ⟨le1,e,rfl,he⟩
 have e1:e=true:=he.2 ok
 subst e1
 refine⟨nofun,true,rfl,(fun h=>by cases h),fun _=>(cS_IntNegA V1 x.1 s x.2.1 f (h.le le1) ok.1).mono ?_⟩
 rintro V2 _ ⟨le2,e,s2,o,f2,rfl,L2,oko,hv,hl⟩
 have l2:=le1.trans le2
 have D1:=h'.le le1
 have hn:=h'.1
 have h63:=h'.2.2.1
 have hdl:=ok.2.2.1
 have hd18:=ok.2.2.2.1
 have hy:RatOkP e o x.2.2.1:=by
  refine⟨oko,ok.2.1,ok.2.2.1,ok.2.2.2.1,Nat.le_trans hl ok.2.2.2.2.1,?_⟩
  have a1:=sval_abs (c0:=e) oko.1.1.1
  have a2:=sval_abs (c0:=x.1) ok.1.1.1.1
  rw [hv] at a1
  have e2:valN o=valN x.2.1:=by omega
  rw [e2]; exact ok.2.2.2.2.2
 refine⟨fun _=>le2,(e,s2,()),rfl,fun b3 hb3=>?_⟩
 have le3:=kset_le (x:=(([]:List Value),((3:TypeId),((0,0):Nat × Nat)))) hb3
 obtain⟨r1,r2⟩:=D1.rdI
 refine⟨x.2.2.1.map cellI,?_,⟨one_int _,(by omega:s'.n*8≤140737488355328),h63⟩,fun h0=>?_,fun h0=>?_⟩
 ·rcases r1 with ⟨k1,_,k2⟩ | k
  ·exact .inl ⟨k1,k2⟩
  ·exact .inr k
 ·have:s'.n=0:=of_decide_eq_true h0
  omega
 ·intro b5 c5 sp hb5 hc5 _
  have n1:=newI (V:=kset V2 b3 ([],(3,(0,0)))) (b:=b5) (cap:=c5) (o:=x.2.2.1) (spare:=sp) (t:=3) hb5 (by omega) (by omega)
  have le5:=kset_le (x:=(x.2.2.1.map cellI++sp,((3:TypeId),((0,0):Nat × Nat)))) hb5
  refine⟨(l2.trans le3).trans le5,(e,s2,⟨some ⟨b5,0,none⟩,s'.n,c5⟩,()),(e,o,x.2.2.1,()),f2++([b5]++[]),rfl,rat_mk ((L2.le le3).le le5) (by rw [hn]; exact n1.1),hy,hv,rfl⟩
end Go.Proofs.YtfiakghfncempaaGreatDoor
namespace Go.Proofs.YtfiakghfncempaaGreatDoor
open Sx
set_option maxRecDepth 100000
def sg (c0:Bool) (z:Int):Int:=if c0=true then -z else z
theorem cS_FairShareA (V:Know) (c0:Bool) (c1:SlV) (a:List Lim) (f:List Nat) (h:LR rI V c1 a f) (hi:IntOkP c0 a) (la:a.length≤4) (s:SlV) (w:List Lim) (g:List Nat) (hs:LR rI V s w g) (hw:WtP w) (i:Nat) (hiw:i<w.length) :
  CallX Tryz.prog V 178 [qv0 (c0,c1,()),Sc.val .l s,.int .i64 (i:Int)] (fun V' r=>V.le V'∧∃ c x f',r=.tuple #[qv1 c,.bool true]∧rRat.R V' c x f'∧RedS (sg c0 (valN a*limb w i)) (smL w) x true):=by
 refine CallX.of_fits Tryz.mix (fS_FairShare (c0,c1,()) _ _) fun _=>?_
 simp only [tS_FairShare,T.wp]
 have hn:=hs.1
 have h30:=hw.2.1
 have hwi:=hw.2.2.1 i hiw
 have hsm:=wt_bd hw.2.2.1 (Nat.le_refl w.length)
 refine(cS_WeightsOk V s w g hs).mono ?_
 rintro V1 _ ⟨rfl,e,rfl,he⟩
 have e1:e=true:=he.2 hw
 subst e1
 refine⟨nofun,true,rfl,(fun h=>by cases h),fun _=>(cS_In V1 _ _ _).mono ?_⟩
 rintro V2 _ ⟨rfl,e,rfl,he⟩
 have e1:e=true:=he.2 ⟨by omega,by rw [wrap_i64 (by omega)]; omega⟩
 subst e1
 refine⟨nofun,true,rfl,(fun h=>by cases h),fun _=>(cS_IntOk V2 c0 c1 a f h).mono ?_⟩
 rintro V3 _ ⟨rfl,e,rfl,he⟩
 have e1:e=true:=he.2 hi
 subst e1
 obtain⟨b,o,ha,hl⟩:=hs.int hiw
 refine⟨nofun,true,rfl,(fun h=>by cases h),fun _=>⟨_,ha,(by omega:(0:Int)≤(i:Int)),(by omega:(i:Int)<(s.n:Int)),w[i].1,hl,(cS_NatOf V3 _ (by rw [limb_at hiw]; omega)).mono ?_⟩⟩
 rintro V4 _ ⟨le4,s4,o4,f4,rfl,L4,_,C4,v4,l4⟩
 refine⟨fun _=>le4,s4,rfl,(cS_l02Mul V4 c1 s4 a o4 f f4 (h.le le4) L4 hi.1.1.1 C4.1 (by omega) (by omega)).mono ?_⟩
 rintro V5 _ ⟨le5,s5,o5,f5,rfl,L5,_,C5,v5⟩
 have l5:=mul_len C4 C5 hi.1.1.1 v5
 have l35:=le4.trans le5
 refine⟨fun _=>le5,s5,rfl,(cS_l12Sum V5 s w g (hs.le l35) hw.2.2.1 h30).mono ?_⟩
 rintro V6 _ ⟨rfl,rfl⟩
 refine⟨fun _=>Know.le.refl _,_,rfl,(cS_NatOf V6 (smL w) (by unfold smL; omega)).mono ?_⟩
 rintro V7 _ ⟨le7,s7,o7,f7,rfl,L7,_,C7,v7,l7⟩
 have hpos:0<valN o7:=by rw [v7]; exact hw.2.2.2
 refine⟨fun _=>le7,s7,rfl,(cS_l05Low V7 c0 s5 s7 o5 o7 f5 f7 (L5.le le7) L7 C5 C7 hpos (by omega) (by omega)).mono ?_⟩
 rintro V8 _ ⟨le8,c8,x8,e8,f8,rfl,R8,_,hR⟩
 have he8:e8=true:=redS_small hR C5 C7 (sval_abs C5.1) rfl hpos (by omega) (by omega)
 subst he8
 refine⟨nofun,(c8,true,()),rfl,(l35.trans le7).trans le8,c8,x8,f8,rfl,R8,?_⟩
 have es:sval c0 o5=sg c0 (valN a*limb w i):=by
  unfold sval sg
  rw [v5,v4,limb_at hiw]
 rw [es,v7] at hR
 exact hR
theorem frac_div {N d B D:Int} (hd:0<d) (hD:0<D) (h:N*D=B*d):N / d=B / D∧(N % d)*D=(B % D)*d:=by
 have h1:=Int.mul_ediv_add_emod B D
 have h2:=Int.emod_nonneg B (show D≠0 by omega)
 have h3:=Int.emod_lt_of_pos B hD
 have hm:(N-B / D*d)*D=(B % D)*d:=by
  have e:B=D*(B / D)+B % D:=h1.symm
  have e2:B*d=D*(B / D)*d+(B % D)*d:=by conv=>lhs; rw [e,Int.add_mul]
  rw [Int.sub_mul,h,e2]
  have e3:B / D*d*D=D*(B / D)*d:=by rw [Int.mul_assoc,Int.mul_comm d D,← Int.mul_assoc,Int.mul_comm (B / D) D]
  omega
 have m0:0≤N-B / D*d:=by
  refine Classical.byContradiction fun q=>?_
  have:(N-B / D*d)*D<0:=Int.mul_neg_of_neg_of_pos (by omega) hD
  have:=Int.mul_nonneg h2 (show 0≤d by omega)
  omega
 have m1:N-B / D*d<d:=by
  refine Classical.byContradiction fun q=>?_
  have k1:d*D≤(N-B / D*d)*D:=Int.mul_le_mul_of_nonneg_right (by omega) (by omega)
  have k2:(B % D)*d<D*d:=Int.mul_lt_mul_of_pos_right h3 hd
  rw [Int.mul_comm d D] at k1
  omega
 obtain⟨e1,e2⟩:=div_of (x:=N) (q:=B / D) (r:=N-B / D*d) (D:=d) (by omega) m0 m1
 exact⟨e1.symm,by rw [← e2]; exact hm⟩
theorem rnd_zero {neg:Bool} {n d:Int}:rndN 0 neg n d=n / d:=rnd_down fun h=>by
 have:=h.2
 simp [awayB] at this
theorem fair_rnd {S D:Int} {x:DRat} {e:Bool} {q:List Lim} (hD:0<D) (h:RedS S D x true) (hq:RndP 0 x e q):valN q=(S.natAbs:Int) / D∧(valN x.2.1 % valN x.2.2.1)*D=((S.natAbs:Int) % D)*valN x.2.2.1∧valN q=valN x.2.1 / valN x.2.2.1:=by
 have ok:=redS_ok hD h rfl
 obtain⟨hv,hd,_⟩:=redS_val hD h
 have ha:=sval_abs (c0:=x.1) ok.1.1.1.1
 have hN:valN x.2.1*D=(S.natAbs:Int)*valN x.2.2.1:=by
  have k:((sval x.1 x.2.1*D).natAbs:Int)=((S*valN x.2.2.1).natAbs:Int):=by rw [hv]
  rw [Int.natAbs_mul,Int.natAbs_mul,Int.natCast_mul,Int.natCast_mul,ha] at k
  have d1:(D.natAbs:Int)=D:=by omega
  have d2:((valN x.2.2.1).natAbs:Int)=valN x.2.2.1:=by omega
  rw [d1,d2] at k
  exact k
 obtain⟨k1,k2⟩:=frac_div hd hD hN
 have e2:valN q=valN x.2.1 / valN x.2.2.1:=hq.2.1.trans rnd_zero
 exact⟨e2.trans k1,k2,e2⟩
theorem fair_left {S D:Int} {x:DRat} {e:Bool} {q:List Lim} {y:DRat} (hD:0<D) (h:RedS S D x true) (hq:RndP 0 x e q) (hl:LeftP x e q y):RatOkP y.1 y.2.1 y.2.2.1∧sval y.1 y.2.1*D=sg x.1 (((S.natAbs:Int) % D)*valN y.2.2.1):=by
 have ok:=redS_ok hD h rfl
 obtain⟨_,hd,_⟩:=redS_val hD h
 obtain⟨k1,k2,k3⟩:=fair_rnd hD h hq
 obtain⟨_,_,es⟩:=rnd_len ok hq
 have oky:=redS_ok hd hl rfl
 obtain⟨hy,hyd,_⟩:=redS_val hd hl
 refine⟨oky,?_⟩
 have hm:=Int.mul_ediv_add_emod (valN x.2.1) (valN x.2.2.1)
 have em:valN x.2.1-valN q*valN x.2.2.1=valN x.2.1 % valN x.2.2.1:=by
  rw [k3,Int.mul_comm]; omega
 have e1:sval x.1 x.2.1-sval e q*valN x.2.2.1=sg x.1 (valN x.2.1 % valN x.2.2.1):=by
  rw [es,← em]
  unfold sval sg
  cases x.1 with
  | false=>simp
  | true=>simp; rw [Int.neg_mul]; omega
 rw [e1] at hy
 have e2:sval y.1 y.2.1*D*valN x.2.2.1=sg x.1 (((S.natAbs:Int) % D)*valN y.2.2.1)*valN x.2.2.1:=by
  have a1:sval y.1 y.2.1*D*valN x.2.2.1=(sval y.1 y.2.1*valN x.2.2.1)*D:=by rw [Int.mul_assoc,Int.mul_comm D,← Int.mul_assoc]
  rw [a1,hy]
  have a2:(valN x.2.1 % valN x.2.2.1)*valN y.2.2.1*D=((S.natAbs:Int) % D)*valN y.2.2.1*valN x.2.2.1:=by
   rw [Int.mul_assoc,Int.mul_comm (valN y.2.2.1) D,← Int.mul_assoc,k2,Int.mul_assoc,Int.mul_comm (valN x.2.2.1),← Int.mul_assoc]
  unfold sg
  cases x.1 with
  | false=>simpa using a2
  | true=>simp only [if_true]; rw [Int.neg_mul,Int.neg_mul,Int.neg_mul,a2]
 exact Int.eq_of_mul_eq_mul_right (by omega) e2
def LkP (B D:Int) (z:DRat):Prop:=RatOkP z.1 z.2.1 z.2.2.1∧sval z.1 z.2.1*D=B*valN z.2.2.1
theorem cS_l12Size (V:Know) (c:Scs [.b,.l,.l]) (x:DRat) (f:List Nat) (hR:rRat.R V c x f) {S D:Int} (hD:0<D) (h:RedS S D x true) :
  CallX Tryz.prog V 180 [qv1 c] (fun V' r=>V.le V'∧∃ c' z g,r=qv1 c'∧rRat.R V' c' z g∧LkP ((S.natAbs:Int) % D) D z):=by
 obtain⟨s1,s2,g1,g2,rfl,L1,L2,rfl⟩:=rat_elim hR
 have ok:=redS_ok hD h rfl
 refine CallX.of_fits Tryz.mix (fS_l12Size (x.1,s1,s2,())) fun _=>?_
 simp only [tS_l12Size,T.wp]
 refine(cS_RatRest V x s1 s2 _ _ L1 L2 ok 0 ⟨by decide,by decide⟩).mono ?_
 rintro V1 _ ⟨le1,e,q,s,f1,y,c1,g,rfl,_,Ry,_,hq,hl⟩
 obtain⟨oky,hy⟩:=fair_left hD h hq hl
 obtain⟨t1,t2,j1,j2,rfl,M1,M2,rfl⟩:=rat_elim Ry
 have r0:0≤(S.natAbs:Int) % D:=Int.emod_nonneg _ (by omega)
 have yd:0<valN y.2.2.1:=(can_pos oky.2.1.1).1 oky.2.2.1
 have rr:=Int.mul_nonneg r0 (show 0≤valN y.2.2.1 by omega)
 refine⟨nofun,((e,s,()),(y.1,t1,t2,()),true,()),rfl,(cS_RatSign V1 y.1 t1 t2 _ _ _ _ M1 M2 oky).mono ?_⟩
 rintro V2 _ ⟨le2,rfl⟩
 refine⟨nofun,_,rfl,fun hneg=>?_,fun hpos=>?_⟩
 ·have hn:sgn (sval y.1 y.2.1)<0:=of_decide_eq_true hneg
  have hs:sval y.1 y.2.1<0:=by
   unfold sgn at hn
   split at hn
   ·assumption
   ·split at hn <;> omega
  have hx:x.1=true:=by
   cases e1:x.1 with
   | true=>rfl
   | false =>
    rw [e1] at hy
    have:sval y.1 y.2.1*D<0:=Int.mul_neg_of_neg_of_pos hs hD
    unfold sg at hy
    simp at hy
    omega
  refine(cS_RatNegA V2 y t1 t2 _ _ (M1.le le2) (M2.le le2) oky).mono ?_
  rintro V3 _ ⟨le3,c3,z,g3,rfl,R3,okz,vz,dz⟩
  refine⟨nofun,(c3,true,()),rfl,(le1.trans le2).trans le3,c3,z,g3,rfl,R3,okz,?_⟩
  rw [vz,dz,Int.neg_mul,hy,hx]
  show -(-_)=_
  omega
 ·have hn:¬ sgn (sval y.1 y.2.1)<0:=of_decide_eq_false hpos
  have hs:0≤sval y.1 y.2.1:=by
   refine Classical.byContradiction fun k=>hn ?_
   unfold sgn
   rw [if_pos (by omega)]
   decide
  refine⟨le1.trans le2,(y.1,t1,t2,()),y,_,rfl,rRat.le Ry le2,oky,?_⟩
  rw [hy]
  cases e1:x.1 with
  | false=>rfl
  | true =>
   rw [e1] at hy
   have:0≤sval y.1 y.2.1*D:=Int.mul_nonneg hs (by omega)
   unfold sg at hy ⊢
   simp at hy ⊢
   omega
end Go.Proofs.YtfiakghfncempaaGreatDoor
