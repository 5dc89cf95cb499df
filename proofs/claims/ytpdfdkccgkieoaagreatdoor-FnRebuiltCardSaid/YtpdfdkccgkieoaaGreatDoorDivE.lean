/-
  One digit of a long division, from the estimate on.
-/
import Derived.Test.YtpdfdkccgkieoaaGreatDoorNumB
import Derived.Test.YtpdfdkccgkieoaaGreatDoorDivD
namespace Go.Proofs.YtpdfdkccgkieoaaGreatDoor
open Sx
set_option maxRecDepth 100000
def NatOkP (l:List Lim):Prop:=Can l∧l.length≤50
def IntOkP (neg:Bool) (l:List Lim):Prop:=NatOkP l∧(neg=true→0<l.length)
def sval (neg:Bool) (l:List Lim):Int:=if neg=true then -valN l else valN l
def sgn (z:Int):Int:=if z<0 then -1 else if z=0 then 0 else 1
def MoneyOkP (cur:ByteArray) (neg:Bool) (l:List Lim):Prop:=known cur=true∧IntOkP neg l∧l.length≤4
theorem lims_iff {l:List Lim}:Lims l↔∀ i,i<l.length→0≤limb l i∧limb l i<1000000000 :=
 ⟨fun h i _=>h i,fun h i=>by
  by_cases hi:i<l.length
  ·exact h i hi
  ·rw [limb_ge (by omega)]; omega⟩
theorem all_wp {P:Program} {K:Know→List Value→Prop} {V V0:Know} {s:SlV} {l:List Lim} {f:List Nat} {p:Int→Prop} {body:LShs [.o (.o (.i .i64))]→T} {tail:T} (h:LR rI V s l f)
  (hbody:∀ (i:Nat) (_:i<l.length) (N:List LV→Know→Prop),(¬ p (limb l i)→K V [.bool false])→(p (limb l i)→N [.v (.int .i64 (IntKind.i64.wrap ((i:Int)+1)))] V)→(body ((i:Int),())).wp P K V V [N])
  (htail:(∀ i,i<l.length→p (limb l i))→∀ N,tail.wp P K V V [N]) (hfalse:(∃ i,i<l.length∧¬ p (limb l i))→K V [.bool false]) :
  (T.lp [.o (.o (.i .i64))] [.v (.int .i64 (0:Int))] fun y=>.br (decide (y.fst<(s.n:Int))) (body y) tail).wp P K V V0 []:=by
 simp only [T.wp]
 have hn:=h.1
 have hb:=h.2.2.1
 refine⟨fun y V'=>V'=V∧∃ i:Nat,y.1=(i:Int)∧i≤l.length∧∀ j,j<i→p (limb l j),fun y=>((l.length:Int)-(y.1:Int)).toNat,⟨((0:Int),()),rfl,rfl,0,rfl,by omega,fun j hj=>by omega⟩,?_⟩
 rintro⟨(i:Int),u⟩ V' ⟨rfl,k,hk,hle,hall⟩
 replace hk:i=(k:Int):=hk
 subst hk
 refine⟨fun hlt=>?_,fun hge=>?_⟩
 ·have h1:k<l.length:=by
   have:(k:Int)<(s.n:Int):=of_decide_eq_true hlt
   omega
  refine hbody k h1 _ (fun hne=>hfalse ⟨k,h1,hne⟩) fun he=>?_
  refine⟨(((k+1:Nat):Int),()),by rw [nxt h1 (by omega)]; rfl,⟨rfl,k+1,rfl,h1,fun j hj=>?_⟩,?_⟩
  ·by_cases e:j=k
   ·subst e; exact he
   ·exact hall j (by omega)
  ·show((l.length:Int)-((k+1:Nat):Int)).toNat<((l.length:Int)-(k:Int)).toNat
   omega
 ·have h1:k=l.length:=by
   have:¬ (k:Int)<(s.n:Int):=of_decide_eq_false hge
   omega
  subst h1
  exact htail hall _
theorem natOk_iff {l:List Lim}:NatOkP l↔(∀ i,i<l.length→0≤limb l i∧limb l i<1000000000)∧l.length≤50∧(l.length=0∨limb l (l.length-1)≠0):=by
 unfold NatOkP Can
 rw [lims_iff]
 exact⟨fun h=>⟨h.1.1,h.2,h.1.2⟩,fun h=>⟨⟨h.1,h.2.2⟩,h.2.1⟩⟩
theorem cS_l01In (V:Know) (x y z:Int):CallX Tryz.prog V 195 [.int .i64 x,.int .i64 y,.int .i64 z] (fun V' r=>V'=V∧r=.bool (decide (y≤x∧x≤z))):=by
 refine CallX.of_fits Tryz.mix (fS_l01In x y z) fun _=>?_
 simp only [tS_l01In,T.wp,packed,decide_eq_true_eq,decide_eq_false_iff_not]
 refine⟨fun h=>⟨by trivial,?_⟩,fun h=>⟨by trivial,?_⟩⟩
 ·congr 1
  exact decide_eq_decide.2 ⟨fun k=>⟨by omega,k⟩,fun k=>k.2⟩
 ·congr 1
  exact(decide_eq_false (by omega)).symm
theorem last_load {V:Know} {s:SlV} {l:List Lim} {f:List Nat} (h:LR rI V s l f) (hp:0<l.length):IntKind.i64.wrap ((s.n:Int)-1)=((l.length-1:Nat):Int) ∧
  ∃ b o,s.a=some ⟨b,o,none⟩∧loadV V ((⟨b,o,none⟩:Addr).add ((l.length-1)*1)) 1=some [.int .i64 (limb l (l.length-1))]:=by
 have hn:=h.1
 have hb:=h.2.2.1
 refine⟨by rw [wrap_i64 (by omega)]; omega,?_⟩
 obtain⟨b,o,a1,l1⟩:=h.int (i:=l.length-1) (by omega)
 exact⟨b,o,a1,by rw [limb_lt (by omega)]; exact l1⟩
theorem cS_NatOk (V:Know) (s:SlV) (l:List Lim) (f:List Nat) (h:LR rI V s l f):CallX Tryz.prog V 156 [Sc.val .l s] (fun V' r=>V'=V∧∃ e,r=.bool e∧(e=true↔NatOkP l)):=by
 refine CallX.of_fits Tryz.mix (fS_NatOk s) fun _=>?_
 unfold tS_NatOk
 have hn:=h.1
 refine all_wp (p:=fun x=>0≤x∧x<1000000000) h (fun i hi N h1 h2=>?_) (fun hall N=>?_) (fun⟨i,hi,hne⟩=>⟨rfl,false,rfl,⟨(fun h=>by cases h),(fun e=>(hne ((natOk_iff.1 e).1 i hi)).elim)⟩⟩)
 ·obtain⟨b,o,a1,l1⟩:=h.int hi
  have e1:l[i].1=limb l i:=(limb_lt hi).symm
  refine⟨_,a1,(by omega:(0:Int)≤(i:Int)),(by omega:(i:Int)<(s.n:Int)),limb l i,by rw [← e1]; exact l1,(cS_l01In V (limb l i) 0 999999999).mono ?_⟩
  rintro V' r ⟨rfl,rfl⟩
  refine⟨nofun,_,rfl,fun hf=>h1 fun hp=>?_,fun ht=>⟨_,rfl,h2 ?_⟩⟩
  ·have:decide (0≤limb l i∧limb l i≤999999999)=true:=decide_eq_true (by omega)
   rw [this] at hf; cases hf
  ·have:0≤limb l i∧limb l i≤999999999:=by simpa using ht
   omega
 ·refine⟨fun hle=>?_,fun hgt=>⟨rfl,false,rfl,⟨(fun h=>by cases h),(fun e=>?_)⟩⟩⟩
  ·have hle':(s.n:Int)≤50:=of_decide_eq_true hle
   refine⟨fun h0=>⟨rfl,true,rfl,⟨fun _=>?_,fun _=>rfl⟩⟩,fun h0=>?_⟩
   ·have:(s.n:Int)=0:=by simpa using h0
    exact natOk_iff.2 ⟨hall,by omega,.inl (by omega)⟩
   ·have h0':¬ (s.n:Int)=0:=by simpa using h0
    obtain⟨hw,b,o,a1,l1⟩:=last_load h (by omega)
    rw [hw]
    refine⟨_,a1,(by omega:(0:Int)≤((l.length-1:Nat):Int)),(by omega:((l.length-1:Nat):Int)<(s.n:Int)),limb l (l.length-1),l1,rfl,_,rfl,⟨fun hb=>?_,fun e=>?_⟩⟩
    ·have:limb l (l.length-1)≠0:=by simpa using hb
     exact natOk_iff.2 ⟨hall,by omega,.inr this⟩
    ·have:=(natOk_iff.1 e).2.2
     have:limb l (l.length-1)≠0:=by
      rcases this with h | h
      ·omega
      ·exact h
     simpa using this
  ·have hgt':¬ (s.n:Int)≤50:=of_decide_eq_false hgt
   have:=(natOk_iff.1 e).2.1
   omega
theorem cI_NatOk (V:Know) (s:SlV) (l:List Lim) (f:List Nat) (h:LR rI V s l f):CallX Tryz.prog V 119 [Sc.val .l s] (fun V' r=>V'=V∧∃ e,r=.bool e∧(e=true↔NatOkP l)):=by
 refine CallX.of_fits Tryz.mix (fI_NatOk s) fun _=>?_
 unfold tI_NatOk
 have hn:=h.1
 have body:∀ (hlen:l.length≤50) (htop:l.length=0∨limb l (l.length-1)≠0),(T.lp [.o (.o (.i .i64))] [.v (.int .i64 (0:Int))] fun y3 =>
   .br (decide (y3.fst<(s.n:Int))) (
    .el (s.a) (s.n) (y3.fst) fun y4=>.ld false (y4.add (Int.toNat y3.fst*(1:Nat))) (.o (.i .i64)) fun y5 =>
    .br (decide (y5<(0:Int))) (.ret [.bool (false)]) <| .br (decide (y5≥(1000000000:Int))) (.ret [.bool (false)]) <|
    .nx 0 [.v (.int .i64 (Go.IntKind.i64.wrap (y3.fst+(1:Int))))]) <| .ret [.bool (true)]).wp Tryz.prog (fun V' vs=>V'=V∧∃ e,packed vs=.bool e∧(e=true↔NatOkP l)) V V []:=by
  intro hlen htop
  refine all_wp (p:=fun x=>0≤x∧x<1000000000) h (fun i hi N h1 h2=>?_) (fun hall N=>⟨rfl,true,rfl,⟨fun _=>natOk_iff.2 ⟨hall,hlen,htop⟩,fun _=>rfl⟩⟩) (fun⟨i,hi,hne⟩=>⟨rfl,false,rfl,⟨(fun h=>by cases h),(fun e=>(hne ((natOk_iff.1 e).1 i hi)).elim)⟩⟩)
  obtain⟨b,o,a1,l1⟩:=h.int hi
  have e1:l[i].1=limb l i:=(limb_lt hi).symm
  refine⟨_,a1,(by omega:(0:Int)≤(i:Int)),(by omega:(i:Int)<(s.n:Int)),limb l i,by rw [← e1]; exact l1,fun hlt=>h1 fun hp=>?_,fun hge=>⟨fun hbig=>h1 fun hp=>?_,fun hsm=>⟨_,rfl,h2 ?_⟩⟩⟩
  ·have:limb l i<0:=of_decide_eq_true hlt
   omega
  ·have:limb l i≥1000000000:=of_decide_eq_true hbig
   omega
  ·have q1:¬ limb l i<0:=of_decide_eq_false hge
   have q2:¬ limb l i≥1000000000:=of_decide_eq_false hsm
   omega
 refine⟨fun hgt=>⟨rfl,false,rfl,⟨(fun h=>by cases h),(fun e=>?_)⟩⟩,fun hle=>?_⟩
 ·have:(s.n:Int) > 50:=of_decide_eq_true hgt
  have:=(natOk_iff.1 e).2.1
  omega
 have hlen:l.length≤50:=by
  have:¬ (s.n:Int) > 50:=of_decide_eq_false hle
  omega
 refine⟨fun hpos=>?_,fun hz=>?_⟩
 ·have hp:(s.n:Int) > 0:=of_decide_eq_true hpos
  obtain⟨hw,b,o,a1,l1⟩:=last_load h (by omega)
  rw [hw]
  refine⟨_,a1,(by omega:(0:Int)≤((l.length-1:Nat):Int)),(by omega:((l.length-1:Nat):Int)<(s.n:Int)),limb l (l.length-1),l1,fun h0=>⟨rfl,false,rfl,⟨(fun h=>by cases h),(fun e=>?_)⟩⟩,fun h0=>?_⟩
  ·have h0':limb l (l.length-1)=0:=by simpa using h0
   rcases(natOk_iff.1 e).2.2 with h1 | h1
   ·omega
   ·exact(h1 h0').elim
  ·have h0':¬ limb l (l.length-1)=0:=by simpa using h0
   exact body hlen (.inr h0')
 ·have hp:¬ (s.n:Int) > 0:=of_decide_eq_false hz
  exact body hlen (.inl (by omega))
theorem cS_IntOk (V:Know) (c0:Bool) (c1:SlV) (l:List Lim) (f:List Nat) (h:LR rI V c1 l f):CallX Tryz.prog V 115 [qv1 (c0,c1,())] (fun V' r=>V'=V∧∃ e,r=.bool e∧(e=true↔IntOkP c0 l)):=by
 refine CallX.of_fits Tryz.mix (fS_IntOk _) fun _=>?_
 simp only [tS_IntOk,T.wp]
 have hn:=h.1
 refine(cS_NatOk V c1 l f h).mono ?_
 rintro V' r ⟨rfl,e,rfl,he⟩
 refine⟨nofun,e,rfl,fun ht=>?_,fun hf=>⟨by trivial,false,rfl,⟨(fun h=>by cases h),(fun k=>by rw [he.2 k.1] at hf; cases hf)⟩⟩⟩
 refine⟨fun hneg=>⟨by trivial,true,rfl,⟨fun _=>⟨he.1 ht,fun hc=>?_⟩,fun _=>rfl⟩⟩,fun hneg=>⟨by trivial,_,rfl,⟨fun hd=>⟨he.1 ht,fun _=>?_⟩,fun k=>?_⟩⟩⟩
 ·rw [hc] at hneg; cases hneg
 ·have:(c1.n:Int) > 0:=of_decide_eq_true hd
  omega
 ·have hc:c0=true:=by simpa using hneg
  have:=k.2 hc
  exact decide_eq_true (by omega)
theorem cI_IntOk (V:Know) (c0:Bool) (c1:SlV) (l:List Lim) (f:List Nat) (h:LR rI V c1 l f):CallX Tryz.prog V 118 [qv1 (c0,c1,())] (fun V' r=>V'=V∧∃ e,r=.bool e∧(e=true↔IntOkP c0 l)):=by
 refine CallX.of_fits Tryz.mix (fI_IntOk _) fun _=>?_
 simp only [tI_IntOk,T.wp]
 have hn:=h.1
 refine(cI_NatOk V c1 l f h).mono ?_
 rintro V' r ⟨rfl,e,rfl,he⟩
 refine⟨nofun,e,rfl,fun ht=>?_,fun hf=>⟨by trivial,false,rfl,⟨(fun h=>by cases h),(fun k=>by rw [he.2 k.1] at hf; cases hf)⟩⟩⟩
 refine⟨fun hneg=>⟨by trivial,true,rfl,⟨fun _=>⟨he.1 ht,fun hc=>?_⟩,fun _=>rfl⟩⟩,fun hneg=>⟨by trivial,_,rfl,⟨fun hd=>⟨he.1 ht,fun _=>?_⟩,fun k=>?_⟩⟩⟩
 ·rw [hc] at hneg; cases hneg
 ·have:(c1.n:Int) > 0:=of_decide_eq_true hd
  omega
 ·have hc:c0=true:=by simpa using hneg
  have:=k.2 hc
  exact decide_eq_true (by omega)
theorem cS_MoneyOk {V:Know} (c0:ByteArray) (c1:Bool) (c2:SlV) (l:List Lim) (f:List Nat) (h:LR rI V c2 l f):CallX Tryz.prog V 148 [qv2 (c0,c1,c2,())] (fun V' r=>V.le V'∧∃ e,r=.bool e∧(e=true↔MoneyOkP c0 c1 l)):=by
 refine CallX.of_fits Tryz.mix (fS_MoneyOk _) fun _=>?_
 simp only [tS_MoneyOk,T.wp]
 refine(cS_CurKnown V c0).mono ?_
 rintro V1 r ⟨hle,rfl⟩
 replace hle:V.le V1:=by first | exact hle | (subst hle; exact Know.le.refl _)
 refine⟨nofun,known c0,rfl,fun hk=>?_,fun hk=>⟨hle,false,rfl,⟨(fun h=>by cases h),(fun k=>by rw [k.1] at hk; cases hk)⟩⟩⟩
 have h1:=h.le hle
 have hn:=h1.1
 refine(cS_IntOk V1 c1 c2 l f h1).mono ?_
 rintro V' r ⟨rfl,e,rfl,he⟩
 refine⟨nofun,e,rfl,fun ht=>⟨hle,_,rfl,⟨fun hd=>⟨hk,he.1 ht,?_⟩,fun k=>?_⟩⟩,fun hf=>⟨hle,false,rfl,⟨(fun h=>by cases h),(fun k=>by rw [he.2 k.2.1] at hf; cases hf)⟩⟩⟩
 ·have:(c2.n:Int)≤4:=of_decide_eq_true hd
  omega
 ·have:=k.2.2
  exact decide_eq_true (by omega)
theorem cI_MoneyOk {V:Know} (hV:hasCur V) (c0:ByteArray) (c1:Bool) (c2:SlV) (l:List Lim) (f:List Nat) (h:LR rI V c2 l f):CallX Tryz.prog V 74 [qv2 (c0,c1,c2,())] (fun V' r=>V.le V'∧∃ e,r=.bool e∧(e=true↔MoneyOkP c0 c1 l)):=by
 refine CallX.of_fits Tryz.mix (fI_MoneyOk _) fun _=>?_
 simp only [tI_MoneyOk,T.wp]
 refine(cI_CurKnown hV c0).mono ?_
 rintro V1 r ⟨hle,rfl⟩
 replace hle:V.le V1:=by first | exact hle | (subst hle; exact Know.le.refl _)
 refine⟨nofun,known c0,rfl,fun hk=>?_,fun hk=>⟨hle,false,rfl,⟨(fun h=>by cases h),(fun k=>by rw [k.1] at hk; cases hk)⟩⟩⟩
 have h1:=h.le hle
 have hn:=h1.1
 refine(cI_IntOk V1 c1 c2 l f h1).mono ?_
 rintro V' r ⟨rfl,e,rfl,he⟩
 refine⟨nofun,e,rfl,fun ht=>⟨hle,_,rfl,⟨fun hd=>⟨hk,he.1 ht,?_⟩,fun k=>?_⟩⟩,fun hf=>⟨hle,false,rfl,⟨(fun h=>by cases h),(fun k=>by rw [he.2 k.2.1] at hf; cases hf)⟩⟩⟩
 ·have:(c2.n:Int)≤4:=of_decide_eq_true hd
  omega
 ·have:=k.2.2
  exact decide_eq_true (by omega)
theorem cI_signed (V:Know) (b:Bool) (s:SlV):CallX Tryz.prog V 94 [.bool b,Sc.val .l s] (fun V' r=>V'=V∧r=qv1 (b && decide ((s.n:Int) > 0),s,())):=by
 refine CallX.of_fits Tryz.mix (fI_signed _ _) fun _=>?_
 simp only [tI_signed,T.wp]
 refine⟨fun h=>⟨by trivial,by rw [h]; rfl⟩,fun h=>⟨by trivial,by rw [h]; rfl⟩⟩
theorem cI_intNeg (V:Know) (c0:Bool) (c1:SlV) (l:List Lim) (f:List Nat) (h:LR rI V c1 l f) (hl:l.length≤1048576) :
  CallX Tryz.prog V 53 [qv1 (c0,c1,())] (fun V' r=>V.le V'∧∃ s f',r=qv1 (!c0 && decide (0<l.length),s,())∧LR rI V' s l f'∧Own V V' f'):=by
 refine CallX.of_fits Tryz.mix (fI_intNeg _) fun _=>?_
 simp only [tI_intNeg,T.wp]
 refine(cI_natCopy V c1 l f h hl).mono ?_
 rintro V1 r ⟨hle,s,f',rfl,hL,hO⟩
 refine⟨fun _=>hle,s,rfl,(cI_signed V1 (!c0) s).mono ?_⟩
 rintro V2 r ⟨rfl,rfl⟩
 refine⟨fun _=>Know.le.refl _,_,rfl,hle,s,f',?_,hL,hO⟩
 have hn:=hL.1
 have:decide ((s.n:Int) > 0)=decide (0<l.length):=decide_eq_decide.2 (by omega)
 show qv1 (!c0 && decide ((s.n:Int) > 0),s,())=_
 rw [this]
theorem can_len {a b:List Lim} (ha:Can a) (hb:Can b) (h:valN b≤valN a):b.length≤a.length:=by
 by_cases e:b.length≤a.length
 ·exact e
 ·have h1:=can_ge hb (by omega)
  have h2:=(valTo_bd ha.1 a.length).2
  have h3:=pw_mono (show a.length≤b.length-1 by omega)
  unfold valN at h h1
  omega
theorem can_pos {l:List Lim} (h:Can l):0<l.length↔0<valN l:=by
 have h1:=can_empty h
 have h2:=valN_nonneg h.1
 omega
theorem cI_intAdd (V:Know) (c0:Bool) (c1:SlV) (d0:Bool) (d1:SlV) (a b:List Lim) (f g:List Nat) (h:LR rI V c1 a f) (h':LR rI V d1 b g) (ha:Can a) (hb:Can b) (la:a.length≤1000000) (lb:b.length≤1000000) :
  CallX Tryz.prog V 225 [qv1 (c0,c1,()),qv1 (d0,d1,())] (fun V' r=>V.le V'∧∃ e s o f',r=qv1 (e,s,())∧LR rI V' s o f'∧Own V V' f'∧Can o∧sval e o=sval c0 a+sval d0 b∧(e=true→0<o.length)∧o.length≤1000001):=by
 refine CallX.of_fits Tryz.mix (fI_intAdd _ _) fun _=>?_
 simp only [tI_intAdd,T.wp]
 have na:=valN_nonneg ha.1
 have nb:=valN_nonneg hb.1
 have fin:∀ (q:Bool) (s:SlV) (o:List Lim),Can o→s.n=o.length→sval (q && decide ((s.n:Int) > 0)) o=sval q o∧((q && decide ((s.n:Int) > 0))=true→0<o.length):=by
  intro q s o hc hn
  have hp:=can_pos hc
  have h0:=valN_nonneg hc.1
  cases q with
  | false=>exact⟨rfl,fun h=>by cases h⟩
  | true =>
   by_cases hz:0<o.length
   ·have:decide ((s.n:Int) > 0)=true:=decide_eq_true (by omega)
    rw [this]
    exact⟨rfl,fun _=>hz⟩
   ·have:decide ((s.n:Int) > 0)=false:=decide_eq_false (by omega)
    rw [this]
    refine⟨?_,fun h=>by cases h⟩
    have:valN o=0:=by omega
    simp [sval,this]
 refine⟨fun heq=>?_,fun hne=>?_⟩
 ·have hcd:c0=d0:=by simpa using heq
  subst hcd
  refine(cI_natAdd V c1 d1 a b f g h h' ha.1 hb.1 la lb).mono ?_
  rintro V1 r ⟨hle,s,o,f'',rfl,hL,hO,hc,hv,hlen⟩
  refine⟨fun _=>hle,s,rfl,(cI_signed V1 c0 s).mono ?_⟩
  rintro V2 r ⟨rfl,rfl⟩
  obtain⟨q1,q2⟩:=fin c0 s o hc hL.1
  refine⟨fun _=>Know.le.refl _,_,rfl,hle,_,s,o,f'',rfl,hL,hO,hc,?_,q2,hlen⟩
  rw [q1]
  unfold sval
  cases c0 <;> simp <;> omega
 ·have hcd:c0=!d0:=by
   cases c0 <;> cases d0 <;> simp_all
  refine(cI_natCmp V c1 d1 a b f g h h').mono ?_
  rintro V0 r ⟨rfl,rfl⟩
  have hcmp:=cmpL_val ha hb
  refine⟨nofun,_,rfl,fun hlt=>?_,fun hge=>?_⟩
  ·have hlt':cmpL a b<0:=of_decide_eq_true hlt
   have hv0:valN a<valN b:=by
    rcases hcmp with ⟨c,k⟩ | ⟨c,k⟩ | ⟨c,k⟩ <;> omega
   refine(cI_natSub V0 d1 c1 b a g f h' h hb.1 ha.1 lb (can_len hb ha (by omega)) (by omega)).mono ?_
   rintro V1 r ⟨hle,s,o,f'',rfl,hL,hO,hc,hv,hlen⟩
   refine⟨fun _=>hle,s,rfl,(cI_signed V1 d0 s).mono ?_⟩
   rintro V2 r ⟨rfl,rfl⟩
   obtain⟨q1,q2⟩:=fin d0 s o hc hL.1
   refine⟨fun _=>Know.le.refl _,_,rfl,hle,_,s,o,f'',rfl,hL,hO,hc,?_,q2,by omega⟩
   rw [q1]
   unfold sval
   subst hcd
   cases d0 <;> simp <;> omega
  ·have hge':¬ cmpL a b<0:=of_decide_eq_false hge
   have hv0:valN b≤valN a:=by
    rcases hcmp with ⟨c,k⟩ | ⟨c,k⟩ | ⟨c,k⟩ <;> omega
   refine(cI_natSub V0 c1 d1 a b f g h h' ha.1 hb.1 la (can_len ha hb hv0) hv0).mono ?_
   rintro V1 r ⟨hle,s,o,f'',rfl,hL,hO,hc,hv,hlen⟩
   refine⟨fun _=>hle,s,rfl,(cI_signed V1 c0 s).mono ?_⟩
   rintro V2 r ⟨rfl,rfl⟩
   obtain⟨q1,q2⟩:=fin c0 s o hc hL.1
   refine⟨fun _=>Know.le.refl _,_,rfl,hle,_,s,o,f'',rfl,hL,hO,hc,?_,q2,by omega⟩
   rw [q1]
   unfold sval
   subst hcd
   cases d0 <;> simp <;> omega
theorem cI_intSign (V:Know) (c0:Bool) (c1:SlV) (l:List Lim) (f:List Nat) (h:LR rI V c1 l f) (hc:Can l):CallX Tryz.prog V 24 [qv1 (c0,c1,())] (fun V' r=>V'=V∧r=.int .i64 (sgn (sval c0 l))):=by
 refine CallX.of_fits Tryz.mix (fI_intSign _) fun _=>?_
 simp only [tI_intSign,T.wp]
 have hn:=h.1
 have h0:=can_empty hc
 have h1:=valN_nonneg hc.1
 refine⟨fun hz=>⟨by trivial,?_⟩,fun hz=>⟨fun hneg=>⟨by trivial,?_⟩,fun hpos=>⟨by trivial,?_⟩⟩⟩
 ·have:(c1.n:Int)=0:=by simpa using hz
  have:valN l=0:=h0.1 (by omega)
  simp [sval,this,sgn,packed]
 ·have:¬ (c1.n:Int)=0:=by simpa using hz
  have:valN l≠0:=fun e=>by have:=h0.2 e; omega
  have hc0:c0=true:=hneg
  subst hc0
  have e:sgn (sval true l)=-1:=by unfold sgn sval; simp; omega
  rw [e]; rfl
 ·have:¬ (c1.n:Int)=0:=by simpa using hz
  have:valN l≠0:=fun e=>by have:=h0.2 e; omega
  have hc0:c0=false:=hpos
  subst hc0
  have e:sgn (sval false l)=1:=by unfold sgn sval; simp; omega
  rw [e]; rfl
theorem cmp_sgn {x y:Int} {c:Int} (h:Cmps c x y):c=sgn (x-y):=by
 unfold sgn
 rcases h with ⟨rfl,h⟩ | ⟨rfl,h⟩ | ⟨rfl,h⟩
 ·rw [if_pos (by omega)]
 ·rw [if_neg (by omega),if_pos (by omega)]
 ·rw [if_neg (by omega),if_neg (by omega)]
theorem cS_IntCmp (V:Know) (c0:Bool) (c1:SlV) (d0:Bool) (d1:SlV) (a b:List Lim) (f g:List Nat) (h:LR rI V c1 a f) (h':LR rI V d1 b g) (ha:IntOkP c0 a) (hb:IntOkP d0 b) :
  CallX Tryz.prog V 164 [qv1 (c0,c1,()),qv1 (d0,d1,())] (fun V' r=>V'=V∧r=.int .i64 (sgn (sval c0 a-sval d0 b))):=by
 refine CallX.of_fits Tryz.mix (fS_IntCmp _ _) fun _=>?_
 simp only [tS_IntCmp,T.wp]
 have na:=valN_nonneg ha.1.1.1
 have nb:=valN_nonneg hb.1.1.1
 have pa:=can_pos ha.1.1
 have pb:=can_pos hb.1.1
 refine(cS_IntOk V c0 c1 a f h).mono ?_
 rintro V1 r ⟨rfl,e,rfl,he⟩
 have he1:=he.2 ha
 subst he1
 refine⟨nofun,true,rfl,nofun,fun _=>(cS_IntOk V1 d0 d1 b g h').mono ?_⟩
 rintro V2 r ⟨rfl,e,rfl,he2⟩
 have he2:=he2.2 hb
 subst he2
 refine⟨nofun,true,rfl,nofun,fun _=>?_⟩
 have fwd:∀ {K:Know→Value→Prop},(∀ r,r=.int .i64 (sgn (valN a-valN b))→K V2 r)→CallX Tryz.prog V2 157 [Sc.val .l c1,Sc.val .l d1] K:=fun hK=>(cS_l02Cmp V2 c1 d1 a b f g h h').mono (by
  rintro V' r ⟨rfl,rfl⟩
  exact hK _ (by rw [cmp_sgn (cmpL_val ha.1.1 hb.1.1)]))
 have bwd:∀ {K:Know→Value→Prop},(∀ r,r=.int .i64 (sgn (valN b-valN a))→K V2 r)→CallX Tryz.prog V2 157 [Sc.val .l d1,Sc.val .l c1] K:=fun hK=>(cS_l02Cmp V2 d1 c1 b a g f h' h).mono (by
  rintro V' r ⟨rfl,rfl⟩
  exact hK _ (by rw [cmp_sgn (cmpL_val hb.1.1 ha.1.1)]))
 cases c0 with
 | true =>
  have a1:=pa.1 (ha.2 rfl)
  cases d0 with
  | true =>
   refine⟨fun _=>⟨nofun,fun _=>⟨nofun,fun _=>⟨fun _=>bwd ?_,nofun⟩⟩⟩,nofun⟩
   rintro r rfl
   refine⟨nofun,_,rfl,by trivial,?_⟩
   have:sval true a-sval true b=valN b-valN a:=by simp [sval]; omega
   rw [this]; rfl
  | false =>
   refine⟨fun _=>⟨fun _=>⟨by trivial,?_⟩,nofun⟩,nofun⟩
   have:sgn (sval true a-sval false b)=-1:=by unfold sgn sval; simp; omega
   rw [this]; rfl
 | false =>
  cases d0 with
  | true =>
   have b1:=pb.1 (hb.2 rfl)
   refine⟨nofun,fun _=>⟨fun _=>⟨fun _=>⟨by trivial,?_⟩,nofun⟩,nofun⟩⟩
   have:sgn (sval false a-sval true b)=1:=by unfold sgn sval; simp; omega
   rw [this]; rfl
  | false =>
   refine⟨nofun,fun _=>⟨fun _=>⟨nofun,fun _=>⟨nofun,fun _=>fwd ?_⟩⟩,nofun⟩⟩
   rintro r rfl
   exact⟨nofun,_,rfl,by trivial,rfl⟩
end Go.Proofs.YtpdfdkccgkieoaaGreatDoor
namespace Go.Proofs.YtpdfdkccgkieoaaGreatDoor
open Sx
set_option maxRecDepth 100000
abbrev StepPost (V:Know) (b:Nat) (pre:List Value) (w v:List Lim) (post:List Value):Know→Value→Prop:=fun V' r=>∃ w' x,V'=segV V b pre w' post∧w'.length=w.length∧Lims w'∧valN w'=valN w-x*valN v∧0≤valN w'∧valN w'<valN v∧0≤x∧x<1000000000∧r=.int .i64 x
noncomputable def tStep (u v:SlV) (q:Int):T :=
 .call false 218 [Sc.val .l u,Sc.val .l v,.int .i64 q] (.v (.o .b)) fun y16 =>
 .br y16 (
  .call false 219 [Sc.val .l u,Sc.val .l v] (.t []) fun _ =>
  .ret [.int .i64 (IntKind.i64.wrap (q-(1:Int)))]) <|
 .ret [.int .i64 q]
theorem tStep_wp {V V0:Know} {Ns:List (List LV→Know→Prop)} {b cap:Nat} {pre post:List Value} {w v:List Lim} {s:SlV} {f:List Nat} {q:Int} (hw:Lims w) (hl:w.length=v.length+1) (hv:LR rI V s v f) (hb:b ∉ f) (lv:Lims v) (lw:v.length≤1000000)
  (hq:0≤q∧q<1000000000) (h1:(q-1)*valN v≤valN w) (h2:valN w<(q+1)*valN v) (_:0<valN v) :
  (tStep ⟨some ⟨b,pre.length,none⟩,w.length,cap⟩ s q).wp Tryz.prog (fun V' vs=>StepPost V b pre w v post V' (packed vs)) (segV V b pre w post) V0 Ns:=by
 simp only [tStep,T.wp]
 have h0:=valN_nonneg hw
 have hvb:valN v<1000000000 ^ v.length:=(valTo_bd lv v.length).2
 refine(cI_subTimes hw hl hv hb lv lw hq).mono ?_
 rintro V1 r ⟨w1,rfl,l1,low1,val1,t0,t1,rfl⟩
 have hval1:valN w1=valTo w1 v.length+limb w1 v.length*1000000000 ^ v.length:=by rw [valN,l1,hl,valTo]
 have hlow:=low1.val
 rw [Int.sub_mul,Int.one_mul] at h1
 rw [Int.add_mul,Int.one_mul] at h2
 refine⟨nofun,_,rfl,fun hneg=>?_,fun hpos=>?_⟩
 ·have hneg':limb w1 v.length<0:=of_decide_eq_true hneg
  have hm:=mul_pw_le (show limb w1 v.length≤-1 by omega) v.length
  have hq1:1≤q:=by
   by_cases e:1≤q
   ·exact e
   ·exfalso
    have:q=0:=by omega
    subst this
    omega
  rw [← l1]
  refine(cI_addBack low1 (by omega) hv hb lv lw ⟨t0,t1⟩).mono ?_
  rintro V2 r ⟨w2,rfl,l2,low2,val2,rfl⟩
  refine⟨nofun,(),rfl,w2,q-1,rfl,l2.trans l1,?_,?_,by omega,by omega,by omega,by omega,?_⟩
  ·exact top_zero (by omega) low2 (by omega) (by omega)
  ·rw [val2,val1,Int.sub_mul,Int.one_mul]; omega
  ·show Value.int .i64 (IntKind.i64.wrap (q-1))=_
   rw [wrap_i64 (by omega)]
 ·have hpos':¬ limb w1 v.length<0:=of_decide_eq_false hpos
  have hm:=mul_pw_nonneg (show 0≤limb w1 v.length by omega) v.length
  exact⟨w1,q,rfl,l1,top_zero (by omega) low1 (by omega) (by omega),val1,by omega,by omega,hq.1,hq.2,rfl⟩
theorem cI_divStep {V:Know} {b cap:Nat} {pre post:List Value} {w v:List Lim} {s:SlV} {f:List Nat} (hw:Lims w) (hl:w.length=v.length+1) (hv:LR rI V s v f) (hb:b ∉ f) (lv:Lims v) (h2:2≤v.length) (lw:v.length≤1000000)
  (htop:limb v (v.length-1)≠0) (hlt:valN w<1000000000*valN v) :
  CallX Tryz.prog (segV V b pre w post) 202 [Sc.val .l ⟨some ⟨b,pre.length,none⟩,w.length,cap⟩,Sc.val .l s] (StepPost V b pre w v post):=by
 refine CallX.of_fits Tryz.mix (fI_divStep _ _) fun _=>?_
 obtain⟨m,hm⟩:∃ m,v.length=m+2:=⟨v.length-2,by omega⟩
 have hn:=hv.1
 have hB:(1000000000:Int)≠0:=by decide
 have hvS:=seg_lr (pre:=pre) (post:=post) (w:=w) hv hb
 have hvp:0<valN v:=by
  have:Can v:=⟨lv,.inr htop⟩
  exact(can_pos this).1 (by omega)
 rw [show v.length-1=m+1 by omega] at htop
 have eV:=val_top2 (v:=v) (m:=m) (by omega)
 have eW:=val_top3 (v:=w) (m:=m) (by omega)
 have bV:=valTo_bd lv m
 have bW:=valTo_bd hw m
 have hP:=pw_pos m
 obtain⟨P,hPe⟩:∃ P:Int,P=1000000000 ^ m:=⟨_,rfl⟩
 rw [← hPe] at eV eW bV bW hP
 have hw0:=valN_nonneg hw
 have v1b:=lv (m+1)
 have v2b:=lv m
 have u3b:=hw (m+2)
 have u1b:=hw (m+1)
 have u2b:=hw m
 obtain⟨b1,o1,a1,l1⟩:=hvS.int (i:=m+1) (by omega)
 obtain⟨b2,o2,a2,l2⟩:=hvS.int (i:=m) (by omega)
 rw [← limb_lt (show m+1<v.length by omega)] at l1
 rw [← limb_lt (show m<v.length by omega)] at l2
 obtain⟨top,hT⟩:∃ top,top=limb w (m+2)*1000000000+limb w (m+1):=⟨_,rfl⟩
 rw [← hT] at eW
 obtain⟨v1,hv1⟩:∃ x,x=limb v (m+1):=⟨_,rfl⟩
 obtain⟨v2,hv2⟩:∃ x,x=limb v m:=⟨_,rfl⟩
 obtain⟨u2,hu2⟩:∃ x,x=limb w m:=⟨_,rfl⟩
 rw [← hv1] at htop v1b eV l1
 rw [← hv2] at v2b eV l2
 rw [← hu2] at u2b eW
 have hv1p:0<v1:=by omega
 have ht0:0≤top:=by omega
 have ht1:top<1000000000000000000:=by omega
 have w1:IntKind.i64.wrap ((s.n:Int)-1)=((m+1:Nat):Int):=by rw [wrap_i64 (by omega)]; omega
 have w2:IntKind.i64.wrap ((s.n:Int)-2)=(m:Int):=by rw [wrap_i64 (by omega)]; omega
 have wl:w.length=m+3:=by omega
 have e1:IntKind.i64.wrap (limb w (m+2)*1000000000)=limb w (m+2)*1000000000:=wrap_i64 (by omega)
 have e2:IntKind.i64.wrap (limb w (m+2)*1000000000+limb w (m+1))=top:=by rw [hT]; exact wrap_i64 (by omega)
 have i0:(s.n:Int).toNat=m+2:=by omega
 have i1:((m+1:Nat):Int).toNat=m+1:=by omega
 have i2:(m:Int).toNat=m:=by omega
 simp only [tI_divStep,T.wp,w1,w2,i0,i1,i2]
 refine⟨_,rfl,by omega,(by omega:(s.n:Int)<((w.length:Nat):Int)),limb w (m+2),seg_ld (by omega),_,rfl,by omega,(by omega:((m+1:Nat):Int)<((w.length:Nat):Int)),limb w (m+1),seg_ld (by omega),_,a1,by omega,by omega,v1,l1,htop,?_⟩
 have d0:0≤top / v1:=Int.ediv_nonneg ht0 (by omega)
 have d1:top / v1≤top:=Int.ediv_le_self _ ht0
 have d2:=Int.mul_ediv_add_emod top v1
 have d3:=Int.emod_nonneg top (show v1≠0 by omega)
 have d4:=Int.emod_lt_of_pos top hv1p
 have e3:IntKind.i64.wrap (top.tdiv v1)=top / v1:=by rw [Int.tdiv_eq_ediv_of_nonneg ht0]; exact wrap_i64 (by omega)
 simp only [e1,e2,e3]
 obtain⟨q0,hq0⟩:∃ q0,q0=(if (999999999:Int)<top / v1 then 999999999 else top / v1):=⟨_,rfl⟩
 rw [← hq0]
 have est:∀ q,0≤q→q<1000000000→valN w<(q+1)*valN v→(q=0∨top-q*v1≥1000000000∨q*v2≤(top-q*v1)*1000000000+u2) →
   ∀ {V0:Know} {Ns:List (List LV→Know→Prop)},(tStep ⟨some ⟨b,pre.length,none⟩,w.length,cap⟩ s q).wp Tryz.prog (fun V' vs=>StepPost V b pre w v post V' (packed vs)) (segV V b pre w post) V0 Ns:=by
  intro q hq0 hq1 hup hk V0 Ns
  refine tStep_wp hw hl hv hb lv lw ⟨hq0,hq1⟩ ?_ hup hvp
  exact est_keep hP eV bV (by omega) v2b eW bW.1 u2b.1 ⟨hq0,hq1⟩ hk hw0
 refine⟨fun y V'=>V'=segV V b pre w post∧0≤(y.1:Int)∧(y.1:Int)<1000000000∧(y.1:Int)*v1≤top∧valN w<((y.1:Int)+1)*valN v,fun y=>(y.1:Int).toNat,⟨(q0,()),rfl,rfl,?_,?_,?_,?_⟩,?_⟩
 ·show 0≤q0
  rw [hq0]; split <;> omega
 ·show q0<1000000000
  rw [hq0]; split <;> omega
 ·show q0*v1≤top
  have h1:top / v1*v1≤top:=Int.ediv_mul_le top (by omega)
  have h2:q0*v1≤top / v1*v1:=Int.mul_le_mul_of_nonneg_right (by rw [hq0]; split <;> omega) (by omega)
  omega
 ·show valN w<(q0+1)*valN v
  rw [hq0]
  split
  ·exact hlt
  ·refine est_first (top:=top) (u2:=u2) hP eV bV.1 v2b.1 eW bW.2 (by omega) d0 ?_
   rw [Int.add_mul,Int.one_mul,Int.mul_comm]
   omega
 rintro⟨(q:Int),u⟩ V' ⟨rfl,hq,hq1,hqv,hup⟩
 replace hq:0≤q:=hq
 replace hq1:q<1000000000:=hq1
 replace hqv:q*v1≤top:=hqv
 replace hup:valN w<(q+1)*valN v:=hup
 have hqv0:0≤q*v1:=Int.mul_nonneg hq (by omega)
 have g1:IntKind.i64.wrap (q*v1)=q*v1:=wrap_i64 (by omega)
 have g2:IntKind.i64.wrap (top-q*v1)=top-q*v1:=wrap_i64 (by omega)
 refine⟨fun hgt=>?_,fun hz=>?_⟩
 ·have hgt':q > 0:=of_decide_eq_true hgt
  refine⟨_,a1,by omega,by omega,v1,l1,?_⟩
  show(_→_)∧(_→_)
  rw [g1,g2]
  refine⟨fun hsm=>?_,fun hbig=>?_⟩
  ·have hsm':top-q*v1<1000000000:=of_decide_eq_true hsm
   have hqv2:=mul_lim ⟨hq,hq1⟩ v2b
   have g3:IntKind.i64.wrap (q*v2)=q*v2:=wrap_i64 (by omega)
   have g4:IntKind.i64.wrap ((top-q*v1)*1000000000)=(top-q*v1)*1000000000:=wrap_i64 (by omega)
   have g5:IntKind.i64.wrap ((top-q*v1)*1000000000+u2)=(top-q*v1)*1000000000+u2:=wrap_i64 (by omega)
   refine⟨_,a2,by omega,by omega,v2,l2,_,a1,by omega,by omega,v1,l1,_,rfl,by omega,(by omega:(m:Int)<((w.length:Nat):Int)),u2,by rw [hu2]; exact seg_ld (by omega),?_⟩
   show(_→_)∧(_→_)
   rw [g1,g2,g3,g4,g5]
   refine⟨fun hmore=>?_,fun hless=>?_⟩
   ·have hmore':q*v2 > (top-q*v1)*1000000000+u2:=of_decide_eq_true hmore
    have g6:IntKind.i64.wrap (q-1)=q-1:=wrap_i64 (by omega)
    refine⟨_,rfl,(q-1,()),by rw [g6]; rfl,⟨rfl,(by omega:0≤q-1),(by omega:q-1<1000000000),?_,?_⟩,?_⟩
    ·show(q-1)*v1≤top
     rw [Int.sub_mul,Int.one_mul]; omega
    ·show valN w<(q-1+1)*valN v
     rw [show q-1+1=q by omega]
     exact est_drop hP eV bV.1 eW bW.2 hq hmore'
    ·show(q-1).toNat<q.toNat
     omega
   ·have hless':¬ q*v2 > (top-q*v1)*1000000000+u2:=of_decide_eq_false hless
    have:=est q hq hq1 hup (.inr (.inr (by omega))) (V0:=segV V b pre w post) (Ns:=[])
    simp only [tStep,T.wp] at this
    exact this
  ·have hbig':¬ top-q*v1<1000000000:=of_decide_eq_false hbig
   have:=est q hq hq1 hup (.inr (.inl (by omega))) (V0:=segV V b pre w post) (Ns:=[])
   simp only [tStep,T.wp] at this
   exact this
 ·have hz':¬ q > 0:=of_decide_eq_false hz
  have:=est q hq hq1 hup (.inl (by omega)) (V0:=segV V b pre w post) (Ns:=[])
  simp only [tStep,T.wp] at this
  exact this
end Go.Proofs.YtpdfdkccgkieoaaGreatDoor
