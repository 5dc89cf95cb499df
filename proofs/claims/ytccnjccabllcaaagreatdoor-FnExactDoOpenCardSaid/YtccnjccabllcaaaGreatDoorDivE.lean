/-
  One digit of a long division, from the estimate on.
-/
import Derived.Test.YtccnjccabllcaaaGreatDoorDivD
import Derived.Test.YtccnjccabllcaaaGreatDoorOk
namespace Go.Proofs.YtccnjccabllcaaaGreatDoor
open Sx
set_option maxRecDepth 100000
abbrev StepPost (V:Know) (b:Nat) (pre:List Value) (w v:List Lim) (post:List Value):Know→Value→Prop:=fun V' r=>∃ w' x,V'=segV V b pre w' post∧w'.length=w.length∧Lims w'∧valN w'=valN w-x*valN v∧0≤valN w'∧valN w'<valN v∧0≤x∧x<1000000000∧r=.int .i64 x
noncomputable def tStep (u v:SlV) (q:Int):T :=
 .call false gI_subTimes [Sc.val .l u,Sc.val .l v,.int .i64 q] (.v (.o .b)) fun y16 =>
 .br y16 (
  .call false gI_addBack [Sc.val .l u,Sc.val .l v] (.t []) fun _ =>
  .ret [.int .i64 (IntKind.i64.wrap (q-(1:Int)))]) <|
 .ret [.int .i64 q]
theorem tStep_wp {V V0:Know} {Ns:List (List LV→Know→Prop)} {b cap:Nat} {pre post:List Value} {w v:List Lim} {s:SlV} {f:List Nat} {q:Int} (hw:Lims w) (hl:w.length=v.length+1) (hv:LR rI V s v f) (hb:b ∉ f) (lv:Lims v) (lw:v.length≤1000000)
  (hq:0≤q∧q<1000000000) (h1:(q-1)*valN v≤valN w) (h2:valN w<(q+1)*valN v) (_:0<valN v) :
  (tStep ⟨some ⟨b,pre.length,none⟩,w.length,cap⟩ s q).wp Tryz.prog (fun V' vs=>StepPost V b pre w v post V' (packed vs)) (segV V b pre w post) V0 Ns:=by
 simp only [tStep,T.wp]
 have h0:=valN_nonneg hw
 have hvb:valN v<1000000000 ^ v.length:=(valTo_bd lv v.length).2
 refine(cI_subTimes hw hl hv hb lv lw hq).mono ?_
 rintro V1 r ⟨w1,rfl,l1,low1,val1,t0,t1,rfl⟩
 have hval1:valN w1=valTo w1 v.length+limb w1 v.length*1000000000 ^ v.length:=by rw [valN,l1,hl,valTo]
 have hlow:=low1.val
 rw [Int.sub_mul,Int.one_mul] at h1
 rw [Int.add_mul,Int.one_mul] at h2
 refine⟨nofun,_,rfl,fun hneg=>?_,fun hpos=>?_⟩
 ·have hneg':limb w1 v.length<0:=of_decide_eq_true hneg
  have hm:=mul_pw_le (show limb w1 v.length≤-1 by omega) v.length
  have hq1:1≤q:=by
   by_cases e:1≤q
   ·exact e
   ·exfalso
    have:q=0:=by omega
    subst this
    omega
  rw [← l1]
  refine(cI_addBack low1 (by omega) hv hb lv lw ⟨t0,t1⟩).mono ?_
  rintro V2 r ⟨w2,rfl,l2,low2,val2,rfl⟩
  refine⟨nofun,(),rfl,w2,q-1,rfl,l2.trans l1,?_,?_,by omega,by omega,by omega,by omega,?_⟩
  ·exact top_zero (by omega) low2 (by omega) (by omega)
  ·rw [val2,val1,Int.sub_mul,Int.one_mul]; omega
  ·show Value.int .i64 (IntKind.i64.wrap (q-1))=_
   rw [wrap_i64 (by omega)]
 ·have hpos':¬ limb w1 v.length<0:=of_decide_eq_false hpos
  have hm:=mul_pw_nonneg (show 0≤limb w1 v.length by omega) v.length
  exact⟨w1,q,rfl,l1,top_zero (by omega) low1 (by omega) (by omega),val1,by omega,by omega,hq.1,hq.2,rfl⟩
theorem cI_divStep {V:Know} {b cap:Nat} {pre post:List Value} {w v:List Lim} {s:SlV} {f:List Nat} (hw:Lims w) (hl:w.length=v.length+1) (hv:LR rI V s v f) (hb:b ∉ f) (lv:Lims v) (h2:2≤v.length) (lw:v.length≤1000000)
  (htop:limb v (v.length-1)≠0) (hlt:valN w<1000000000*valN v) :
  CallX Tryz.prog (segV V b pre w post) gI_divStep [Sc.val .l ⟨some ⟨b,pre.length,none⟩,w.length,cap⟩,Sc.val .l s] (StepPost V b pre w v post):=by
 refine CallX.of_fits Tryz.mix (fI_divStep _ _) fun _=>?_
 obtain⟨m,hm⟩:∃ m,v.length=m+2:=⟨v.length-2,by omega⟩
 have hn:=hv.1
 have hB:(1000000000:Int)≠0:=by decide
 have hvS:=seg_lr (pre:=pre) (post:=post) (w:=w) hv hb
 have hvp:0<valN v:=by
  have:Can v:=⟨lv,.inr htop⟩
  exact(can_pos this).1 (by omega)
 rw [show v.length-1=m+1 by omega] at htop
 have eV:=val_top2 (v:=v) (m:=m) (by omega)
 have eW:=val_top3 (v:=w) (m:=m) (by omega)
 have bV:=valTo_bd lv m
 have bW:=valTo_bd hw m
 have hP:=pw_pos m
 obtain⟨P,hPe⟩:∃ P:Int,P=1000000000 ^ m:=⟨_,rfl⟩
 rw [← hPe] at eV eW bV bW hP
 have hw0:=valN_nonneg hw
 have v1b:=lv (m+1)
 have v2b:=lv m
 have u3b:=hw (m+2)
 have u1b:=hw (m+1)
 have u2b:=hw m
 obtain⟨b1,o1,a1,l1⟩:=hvS.int (i:=m+1) (by omega)
 obtain⟨b2,o2,a2,l2⟩:=hvS.int (i:=m) (by omega)
 rw [← limb_lt (show m+1<v.length by omega)] at l1
 rw [← limb_lt (show m<v.length by omega)] at l2
 obtain⟨top,hT⟩:∃ top,top=limb w (m+2)*1000000000+limb w (m+1):=⟨_,rfl⟩
 rw [← hT] at eW
 obtain⟨v1,hv1⟩:∃ x,x=limb v (m+1):=⟨_,rfl⟩
 obtain⟨v2,hv2⟩:∃ x,x=limb v m:=⟨_,rfl⟩
 obtain⟨u2,hu2⟩:∃ x,x=limb w m:=⟨_,rfl⟩
 rw [← hv1] at htop v1b eV l1
 rw [← hv2] at v2b eV l2
 rw [← hu2] at u2b eW
 have hv1p:0<v1:=by omega
 have ht0:0≤top:=by omega
 have ht1:top<1000000000000000000:=by omega
 have w1:IntKind.i64.wrap ((s.n:Int)-1)=((m+1:Nat):Int):=by rw [wrap_i64 (by omega)]; omega
 have w2:IntKind.i64.wrap ((s.n:Int)-2)=(m:Int):=by rw [wrap_i64 (by omega)]; omega
 have wl:w.length=m+3:=by omega
 have e1:IntKind.i64.wrap (limb w (m+2)*1000000000)=limb w (m+2)*1000000000:=wrap_i64 (by omega)
 have e2:IntKind.i64.wrap (limb w (m+2)*1000000000+limb w (m+1))=top:=by rw [hT]; exact wrap_i64 (by omega)
 have i0:(s.n:Int).toNat=m+2:=by omega
 have i1:((m+1:Nat):Int).toNat=m+1:=by omega
 have i2:(m:Int).toNat=m:=by omega
 simp only [tI_divStep,T.wp,w1,w2,i0,i1,i2]
 refine⟨_,rfl,by omega,(by omega:(s.n:Int)<((w.length:Nat):Int)),limb w (m+2),seg_ld (by omega),_,rfl,by omega,(by omega:((m+1:Nat):Int)<((w.length:Nat):Int)),limb w (m+1),seg_ld (by omega),_,a1,by omega,by omega,v1,l1,htop,?_⟩
 have d0:0≤top / v1:=Int.ediv_nonneg ht0 (by omega)
 have d1:top / v1≤top:=Int.ediv_le_self _ ht0
 have d2:=Int.mul_ediv_add_emod top v1
 have d3:=Int.emod_nonneg top (show v1≠0 by omega)
 have d4:=Int.emod_lt_of_pos top hv1p
 have e3:IntKind.i64.wrap (top.tdiv v1)=top / v1:=by rw [Int.tdiv_eq_ediv_of_nonneg ht0]; exact wrap_i64 (by omega)
 simp only [e1,e2,e3]
 obtain⟨q0,hq0⟩:∃ q0,q0=(if (999999999:Int)<top / v1 then 999999999 else top / v1):=⟨_,rfl⟩
 rw [← hq0]
 have est:∀ q,0≤q→q<1000000000→valN w<(q+1)*valN v→(q=0∨top-q*v1≥1000000000∨q*v2≤(top-q*v1)*1000000000+u2) →
   ∀ {V0:Know} {Ns:List (List LV→Know→Prop)},(tStep ⟨some ⟨b,pre.length,none⟩,w.length,cap⟩ s q).wp Tryz.prog (fun V' vs=>StepPost V b pre w v post V' (packed vs)) (segV V b pre w post) V0 Ns:=by
  intro q hq0 hq1 hup hk V0 Ns
  refine tStep_wp hw hl hv hb lv lw ⟨hq0,hq1⟩ ?_ hup hvp
  exact est_keep hP eV bV (by omega) v2b eW bW.1 u2b.1 ⟨hq0,hq1⟩ hk hw0
 refine⟨fun y V'=>V'=segV V b pre w post∧0≤(y.1:Int)∧(y.1:Int)<1000000000∧(y.1:Int)*v1≤top∧valN w<((y.1:Int)+1)*valN v,fun y=>(y.1:Int).toNat,⟨(q0,()),rfl,rfl,?_,?_,?_,?_⟩,?_⟩
 ·show 0≤q0
  rw [hq0]; split <;> omega
 ·show q0<1000000000
  rw [hq0]; split <;> omega
 ·show q0*v1≤top
  have h1:top / v1*v1≤top:=Int.ediv_mul_le top (by omega)
  have h2:q0*v1≤top / v1*v1:=Int.mul_le_mul_of_nonneg_right (by rw [hq0]; split <;> omega) (by omega)
  omega
 ·show valN w<(q0+1)*valN v
  rw [hq0]
  split
  ·exact hlt
  ·refine est_first (top:=top) (u2:=u2) hP eV bV.1 v2b.1 eW bW.2 (by omega) d0 ?_
   rw [Int.add_mul,Int.one_mul,Int.mul_comm]
   omega
 rintro⟨(q:Int),u⟩ V' ⟨rfl,hq,hq1,hqv,hup⟩
 replace hq:0≤q:=hq
 replace hq1:q<1000000000:=hq1
 replace hqv:q*v1≤top:=hqv
 replace hup:valN w<(q+1)*valN v:=hup
 have hqv0:0≤q*v1:=Int.mul_nonneg hq (by omega)
 have g1:IntKind.i64.wrap (q*v1)=q*v1:=wrap_i64 (by omega)
 have g2:IntKind.i64.wrap (top-q*v1)=top-q*v1:=wrap_i64 (by omega)
 refine⟨fun hgt=>?_,fun hz=>?_⟩
 ·have hgt':q > 0:=of_decide_eq_true hgt
  refine⟨_,a1,by omega,by omega,v1,l1,?_⟩
  show(_→_)∧(_→_)
  rw [g1,g2]
  refine⟨fun hsm=>?_,fun hbig=>?_⟩
  ·have hsm':top-q*v1<1000000000:=of_decide_eq_true hsm
   have hqv2:=mul_lim ⟨hq,hq1⟩ v2b
   have g3:IntKind.i64.wrap (q*v2)=q*v2:=wrap_i64 (by omega)
   have g4:IntKind.i64.wrap ((top-q*v1)*1000000000)=(top-q*v1)*1000000000:=wrap_i64 (by omega)
   have g5:IntKind.i64.wrap ((top-q*v1)*1000000000+u2)=(top-q*v1)*1000000000+u2:=wrap_i64 (by omega)
   refine⟨_,a2,by omega,by omega,v2,l2,_,a1,by omega,by omega,v1,l1,_,rfl,by omega,(by omega:(m:Int)<((w.length:Nat):Int)),u2,by rw [hu2]; exact seg_ld (by omega),?_⟩
   show(_→_)∧(_→_)
   rw [g1,g2,g3,g4,g5]
   refine⟨fun hmore=>?_,fun hless=>?_⟩
   ·have hmore':q*v2 > (top-q*v1)*1000000000+u2:=of_decide_eq_true hmore
    have g6:IntKind.i64.wrap (q-1)=q-1:=wrap_i64 (by omega)
    refine⟨_,rfl,(q-1,()),by rw [g6]; rfl,⟨rfl,(by omega:0≤q-1),(by omega:q-1<1000000000),?_,?_⟩,?_⟩
    ·show(q-1)*v1≤top
     rw [Int.sub_mul,Int.one_mul]; omega
    ·show valN w<(q-1+1)*valN v
     rw [show q-1+1=q by omega]
     exact est_drop hP eV bV.1 eW bW.2 hq hmore'
    ·show(q-1).toNat<q.toNat
     omega
   ·have hless':¬ q*v2 > (top-q*v1)*1000000000+u2:=of_decide_eq_false hless
    have:=est q hq hq1 hup (.inr (.inr (by omega))) (V0:=segV V b pre w post) (Ns:=[])
    simp only [tStep,T.wp] at this
    exact this
  ·have hbig':¬ top-q*v1<1000000000:=of_decide_eq_false hbig
   have:=est q hq hq1 hup (.inr (.inl (by omega))) (V0:=segV V b pre w post) (Ns:=[])
   simp only [tStep,T.wp] at this
   exact this
 ·have hz':¬ q > 0:=of_decide_eq_false hz
  have:=est q hq hq1 hup (.inl (by omega)) (V0:=segV V b pre w post) (Ns:=[])
  simp only [tStep,T.wp] at this
  exact this
end Go.Proofs.YtccnjccabllcaaaGreatDoor
