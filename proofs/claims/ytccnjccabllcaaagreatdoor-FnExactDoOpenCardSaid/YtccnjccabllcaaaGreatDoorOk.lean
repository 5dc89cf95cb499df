/-
  Valid numbers and amounts; sums and comparison of signed numbers, in the program and in the reference.
-/
import Derived.Test.YtccnjccabllcaaaGreatDoorNumB
namespace Go.Proofs.YtccnjccabllcaaaGreatDoor
open Sx
set_option maxRecDepth 100000
def NatOkP (l:List Lim):Prop:=Can l∧l.length≤50
def IntOkP (neg:Bool) (l:List Lim):Prop:=NatOkP l∧(neg=true→0<l.length)
def sval (neg:Bool) (l:List Lim):Int:=if neg=true then -valN l else valN l
def sgn (z:Int):Int:=if z<0 then -1 else if z=0 then 0 else 1
def MoneyOkP (cur:ByteArray) (neg:Bool) (l:List Lim):Prop:=known cur=true∧IntOkP neg l∧l.length≤4
theorem lims_iff {l:List Lim}:Lims l↔∀ i,i<l.length→0≤limb l i∧limb l i<1000000000 :=
 ⟨fun h i _=>h i,fun h i=>by
  by_cases hi:i<l.length
  ·exact h i hi
  ·rw [limb_ge (by omega)]; omega⟩
theorem all_wp {P:Program} {K:Know→List Value→Prop} {V V0:Know} {s:SlV} {l:List Lim} {f:List Nat} {p:Int→Prop} {body:LShs [.o (.o (.i .i64))]→T} {tail:T} (h:LR rI V s l f)
  (hbody:∀ (i:Nat) (_:i<l.length) (N:List LV→Know→Prop),(¬ p (limb l i)→K V [.bool false])→(p (limb l i)→N [.v (.int .i64 (IntKind.i64.wrap ((i:Int)+1)))] V)→(body ((i:Int),())).wp P K V V [N])
  (htail:(∀ i,i<l.length→p (limb l i))→∀ N,tail.wp P K V V [N]) (hfalse:(∃ i,i<l.length∧¬ p (limb l i))→K V [.bool false]) :
  (T.lp [.o (.o (.i .i64))] [.v (.int .i64 (0:Int))] fun y=>.br (decide (y.fst<(s.n:Int))) (body y) tail).wp P K V V0 []:=by
 simp only [T.wp]
 have hn:=h.1
 have hb:=h.2.2.1
 refine⟨fun y V'=>V'=V∧∃ i:Nat,y.1=(i:Int)∧i≤l.length∧∀ j,j<i→p (limb l j),fun y=>((l.length:Int)-(y.1:Int)).toNat,⟨((0:Int),()),rfl,rfl,0,rfl,by omega,fun j hj=>by omega⟩,?_⟩
 rintro⟨(i:Int),u⟩ V' ⟨rfl,k,hk,hle,hall⟩
 replace hk:i=(k:Int):=hk
 subst hk
 refine⟨fun hlt=>?_,fun hge=>?_⟩
 ·have h1:k<l.length:=by
   have:(k:Int)<(s.n:Int):=of_decide_eq_true hlt
   omega
  refine hbody k h1 _ (fun hne=>hfalse ⟨k,h1,hne⟩) fun he=>?_
  refine⟨(((k+1:Nat):Int),()),by rw [nxt h1 (by omega)]; rfl,⟨rfl,k+1,rfl,h1,fun j hj=>?_⟩,?_⟩
  ·by_cases e:j=k
   ·subst e; exact he
   ·exact hall j (by omega)
  ·show((l.length:Int)-((k+1:Nat):Int)).toNat<((l.length:Int)-(k:Int)).toNat
   omega
 ·have h1:k=l.length:=by
   have:¬ (k:Int)<(s.n:Int):=of_decide_eq_false hge
   omega
  subst h1
  exact htail hall _
theorem natOk_iff {l:List Lim}:NatOkP l↔(∀ i,i<l.length→0≤limb l i∧limb l i<1000000000)∧l.length≤50∧(l.length=0∨limb l (l.length-1)≠0):=by
 unfold NatOkP Can
 rw [lims_iff]
 exact⟨fun h=>⟨h.1.1,h.2,h.1.2⟩,fun h=>⟨⟨h.1,h.2.2⟩,h.2.1⟩⟩
theorem cS_l01In (V:Know) (x y z:Int):CallX Tryz.prog V gS_l01In [.int .i64 x,.int .i64 y,.int .i64 z] (fun V' r=>V'=V∧r=.bool (decide (y≤x∧x≤z))):=by
 refine CallX.of_fits Tryz.mix (fS_l01In x y z) fun _=>?_
 simp only [tS_l01In,T.wp,packed,decide_eq_true_eq,decide_eq_false_iff_not]
 refine⟨fun h=>⟨by trivial,?_⟩,fun h=>⟨by trivial,?_⟩⟩
 ·congr 1
  exact decide_eq_decide.2 ⟨fun k=>⟨by omega,k⟩,fun k=>k.2⟩
 ·congr 1
  exact(decide_eq_false (by omega)).symm
theorem last_load {V:Know} {s:SlV} {l:List Lim} {f:List Nat} (h:LR rI V s l f) (hp:0<l.length):IntKind.i64.wrap ((s.n:Int)-1)=((l.length-1:Nat):Int) ∧
  ∃ b o,s.a=some ⟨b,o,none⟩∧loadV V ((⟨b,o,none⟩:Addr).add ((l.length-1)*1)) 1=some [.int .i64 (limb l (l.length-1))]:=by
 have hn:=h.1
 have hb:=h.2.2.1
 refine⟨by rw [wrap_i64 (by omega)]; omega,?_⟩
 obtain⟨b,o,a1,l1⟩:=h.int (i:=l.length-1) (by omega)
 exact⟨b,o,a1,by rw [limb_lt (by omega)]; exact l1⟩
theorem cS_NatOk (V:Know) (s:SlV) (l:List Lim) (f:List Nat) (h:LR rI V s l f):CallX Tryz.prog V gS_NatOk [Sc.val .l s] (fun V' r=>V'=V∧∃ e,r=.bool e∧(e=true↔NatOkP l)):=by
 refine CallX.of_fits Tryz.mix (fS_NatOk s) fun _=>?_
 unfold tS_NatOk
 have hn:=h.1
 refine all_wp (p:=fun x=>0≤x∧x<1000000000) h (fun i hi N h1 h2=>?_) (fun hall N=>?_) (fun⟨i,hi,hne⟩=>⟨rfl,false,rfl,⟨(fun h=>by cases h),(fun e=>(hne ((natOk_iff.1 e).1 i hi)).elim)⟩⟩)
 ·obtain⟨b,o,a1,l1⟩:=h.int hi
  have e1:l[i].1=limb l i:=(limb_lt hi).symm
  refine⟨_,a1,(by omega:(0:Int)≤(i:Int)),(by omega:(i:Int)<(s.n:Int)),limb l i,by rw [← e1]; exact l1,(cS_l01In V (limb l i) 0 999999999).mono ?_⟩
  rintro V' r ⟨rfl,rfl⟩
  refine⟨nofun,_,rfl,fun hf=>h1 fun hp=>?_,fun ht=>⟨_,rfl,h2 ?_⟩⟩
  ·have:decide (0≤limb l i∧limb l i≤999999999)=true:=decide_eq_true (by omega)
   rw [this] at hf; cases hf
  ·have:0≤limb l i∧limb l i≤999999999:=by simpa using ht
   omega
 ·refine⟨fun hle=>?_,fun hgt=>⟨rfl,false,rfl,⟨(fun h=>by cases h),(fun e=>?_)⟩⟩⟩
  ·have hle':(s.n:Int)≤50:=of_decide_eq_true hle
   refine⟨fun h0=>⟨rfl,true,rfl,⟨fun _=>?_,fun _=>rfl⟩⟩,fun h0=>?_⟩
   ·have:(s.n:Int)=0:=by simpa using h0
    exact natOk_iff.2 ⟨hall,by omega,.inl (by omega)⟩
   ·have h0':¬ (s.n:Int)=0:=by simpa using h0
    obtain⟨hw,b,o,a1,l1⟩:=last_load h (by omega)
    rw [hw]
    refine⟨_,a1,(by omega:(0:Int)≤((l.length-1:Nat):Int)),(by omega:((l.length-1:Nat):Int)<(s.n:Int)),limb l (l.length-1),l1,rfl,_,rfl,⟨fun hb=>?_,fun e=>?_⟩⟩
    ·have:limb l (l.length-1)≠0:=by simpa using hb
     exact natOk_iff.2 ⟨hall,by omega,.inr this⟩
    ·have:=(natOk_iff.1 e).2.2
     have:limb l (l.length-1)≠0:=by
      rcases this with h | h
      ·omega
      ·exact h
     simpa using this
  ·have hgt':¬ (s.n:Int)≤50:=of_decide_eq_false hgt
   have:=(natOk_iff.1 e).2.1
   omega
theorem cI_NatOk (V:Know) (s:SlV) (l:List Lim) (f:List Nat) (h:LR rI V s l f):CallX Tryz.prog V gI_NatOk [Sc.val .l s] (fun V' r=>V'=V∧∃ e,r=.bool e∧(e=true↔NatOkP l)):=by
 refine CallX.of_fits Tryz.mix (fI_NatOk s) fun _=>?_
 unfold tI_NatOk
 have hn:=h.1
 have body:∀ (hlen:l.length≤50) (htop:l.length=0∨limb l (l.length-1)≠0),(T.lp [.o (.o (.i .i64))] [.v (.int .i64 (0:Int))] fun y3 =>
   .br (decide (y3.fst<(s.n:Int))) (
    .el (s.a) (s.n) (y3.fst) fun y4=>.ld false (y4.add (Int.toNat y3.fst*(1:Nat))) (.o (.i .i64)) fun y5 =>
    .br (decide (y5<(0:Int))) (.ret [.bool (false)]) <| .br (decide (y5≥(1000000000:Int))) (.ret [.bool (false)]) <|
    .nx 0 [.v (.int .i64 (Go.IntKind.i64.wrap (y3.fst+(1:Int))))]) <| .ret [.bool (true)]).wp Tryz.prog (fun V' vs=>V'=V∧∃ e,packed vs=.bool e∧(e=true↔NatOkP l)) V V []:=by
  intro hlen htop
  refine all_wp (p:=fun x=>0≤x∧x<1000000000) h (fun i hi N h1 h2=>?_) (fun hall N=>⟨rfl,true,rfl,⟨fun _=>natOk_iff.2 ⟨hall,hlen,htop⟩,fun _=>rfl⟩⟩) (fun⟨i,hi,hne⟩=>⟨rfl,false,rfl,⟨(fun h=>by cases h),(fun e=>(hne ((natOk_iff.1 e).1 i hi)).elim)⟩⟩)
  obtain⟨b,o,a1,l1⟩:=h.int hi
  have e1:l[i].1=limb l i:=(limb_lt hi).symm
  refine⟨_,a1,(by omega:(0:Int)≤(i:Int)),(by omega:(i:Int)<(s.n:Int)),limb l i,by rw [← e1]; exact l1,fun hlt=>h1 fun hp=>?_,fun hge=>⟨fun hbig=>h1 fun hp=>?_,fun hsm=>⟨_,rfl,h2 ?_⟩⟩⟩
  ·have:limb l i<0:=of_decide_eq_true hlt
   omega
  ·have:limb l i≥1000000000:=of_decide_eq_true hbig
   omega
  ·have q1:¬ limb l i<0:=of_decide_eq_false hge
   have q2:¬ limb l i≥1000000000:=of_decide_eq_false hsm
   omega
 refine⟨fun hgt=>⟨rfl,false,rfl,⟨(fun h=>by cases h),(fun e=>?_)⟩⟩,fun hle=>?_⟩
 ·have:(s.n:Int) > 50:=of_decide_eq_true hgt
  have:=(natOk_iff.1 e).2.1
  omega
 have hlen:l.length≤50:=by
  have:¬ (s.n:Int) > 50:=of_decide_eq_false hle
  omega
 refine⟨fun hpos=>?_,fun hz=>?_⟩
 ·have hp:(s.n:Int) > 0:=of_decide_eq_true hpos
  obtain⟨hw,b,o,a1,l1⟩:=last_load h (by omega)
  rw [hw]
  refine⟨_,a1,(by omega:(0:Int)≤((l.length-1:Nat):Int)),(by omega:((l.length-1:Nat):Int)<(s.n:Int)),limb l (l.length-1),l1,fun h0=>⟨rfl,false,rfl,⟨(fun h=>by cases h),(fun e=>?_)⟩⟩,fun h0=>?_⟩
  ·have h0':limb l (l.length-1)=0:=by simpa using h0
   rcases(natOk_iff.1 e).2.2 with h1 | h1
   ·omega
   ·exact(h1 h0').elim
  ·have h0':¬ limb l (l.length-1)=0:=by simpa using h0
   exact body hlen (.inr h0')
 ·have hp:¬ (s.n:Int) > 0:=of_decide_eq_false hz
  exact body hlen (.inl (by omega))
theorem cS_IntOk (V:Know) (c0:Bool) (c1:SlV) (l:List Lim) (f:List Nat) (h:LR rI V c1 l f):CallX Tryz.prog V gS_IntOk [Sh1.val (.g [.b,.l]) (c0,c1,())] (fun V' r=>V'=V∧∃ e,r=.bool e∧(e=true↔IntOkP c0 l)):=by
 refine CallX.of_fits Tryz.mix (fS_IntOk _) fun _=>?_
 simp only [tS_IntOk,T.wp]
 have hn:=h.1
 refine(cS_NatOk V c1 l f h).mono ?_
 rintro V' r ⟨rfl,e,rfl,he⟩
 refine⟨nofun,e,rfl,fun ht=>?_,fun hf=>⟨by trivial,false,rfl,⟨(fun h=>by cases h),(fun k=>by rw [he.2 k.1] at hf; cases hf)⟩⟩⟩
 refine⟨fun hneg=>⟨by trivial,true,rfl,⟨fun _=>⟨he.1 ht,fun hc=>?_⟩,fun _=>rfl⟩⟩,fun hneg=>⟨by trivial,_,rfl,⟨fun hd=>⟨he.1 ht,fun _=>?_⟩,fun k=>?_⟩⟩⟩
 ·rw [hc] at hneg; cases hneg
 ·have:(c1.n:Int) > 0:=of_decide_eq_true hd
  omega
 ·have hc:c0=true:=by simpa using hneg
  have:=k.2 hc
  exact decide_eq_true (by omega)
theorem cI_IntOk (V:Know) (c0:Bool) (c1:SlV) (l:List Lim) (f:List Nat) (h:LR rI V c1 l f):CallX Tryz.prog V gI_IntOk [Sh1.val (.g [.b,.l]) (c0,c1,())] (fun V' r=>V'=V∧∃ e,r=.bool e∧(e=true↔IntOkP c0 l)):=by
 refine CallX.of_fits Tryz.mix (fI_IntOk _) fun _=>?_
 simp only [tI_IntOk,T.wp]
 have hn:=h.1
 refine(cI_NatOk V c1 l f h).mono ?_
 rintro V' r ⟨rfl,e,rfl,he⟩
 refine⟨nofun,e,rfl,fun ht=>?_,fun hf=>⟨by trivial,false,rfl,⟨(fun h=>by cases h),(fun k=>by rw [he.2 k.1] at hf; cases hf)⟩⟩⟩
 refine⟨fun hneg=>⟨by trivial,true,rfl,⟨fun _=>⟨he.1 ht,fun hc=>?_⟩,fun _=>rfl⟩⟩,fun hneg=>⟨by trivial,_,rfl,⟨fun hd=>⟨he.1 ht,fun _=>?_⟩,fun k=>?_⟩⟩⟩
 ·rw [hc] at hneg; cases hneg
 ·have:(c1.n:Int) > 0:=of_decide_eq_true hd
  omega
 ·have hc:c0=true:=by simpa using hneg
  have:=k.2 hc
  exact decide_eq_true (by omega)
theorem cS_MoneyOk {V:Know} (c0:ByteArray) (c1:Bool) (c2:SlV) (l:List Lim) (f:List Nat) (h:LR rI V c2 l f):CallX Tryz.prog V gS_MoneyOk [Sh1.val (.g [.s,.b,.l]) (c0,c1,c2,())] (fun V' r=>V.le V'∧∃ e,r=.bool e∧(e=true↔MoneyOkP c0 c1 l)):=by
 refine CallX.of_fits Tryz.mix (fS_MoneyOk _) fun _=>?_
 simp only [tS_MoneyOk,T.wp]
 refine(cS_CurKnown V c0).mono ?_
 rintro V1 r ⟨hle,rfl⟩
 replace hle:V.le V1:=by first | exact hle | (subst hle; exact Know.le.refl _)
 refine⟨nofun,known c0,rfl,fun hk=>?_,fun hk=>⟨hle,false,rfl,⟨(fun h=>by cases h),(fun k=>by rw [k.1] at hk; cases hk)⟩⟩⟩
 have h1:=h.le hle
 have hn:=h1.1
 refine(cS_IntOk V1 c1 c2 l f h1).mono ?_
 rintro V' r ⟨rfl,e,rfl,he⟩
 refine⟨nofun,e,rfl,fun ht=>⟨hle,_,rfl,⟨fun hd=>⟨hk,he.1 ht,?_⟩,fun k=>?_⟩⟩,fun hf=>⟨hle,false,rfl,⟨(fun h=>by cases h),(fun k=>by rw [he.2 k.2.1] at hf; cases hf)⟩⟩⟩
 ·have:(c2.n:Int)≤4:=of_decide_eq_true hd
  omega
 ·have:=k.2.2
  exact decide_eq_true (by omega)
theorem cI_MoneyOk {V:Know} (hV:hasCur V) (c0:ByteArray) (c1:Bool) (c2:SlV) (l:List Lim) (f:List Nat) (h:LR rI V c2 l f):CallX Tryz.prog V gI_MoneyOk [Sh1.val (.g [.s,.b,.l]) (c0,c1,c2,())] (fun V' r=>V.le V'∧∃ e,r=.bool e∧(e=true↔MoneyOkP c0 c1 l)):=by
 refine CallX.of_fits Tryz.mix (fI_MoneyOk _) fun _=>?_
 simp only [tI_MoneyOk,T.wp]
 refine(cI_CurKnown hV c0).mono ?_
 rintro V1 r ⟨hle,rfl⟩
 replace hle:V.le V1:=by first | exact hle | (subst hle; exact Know.le.refl _)
 refine⟨nofun,known c0,rfl,fun hk=>?_,fun hk=>⟨hle,false,rfl,⟨(fun h=>by cases h),(fun k=>by rw [k.1] at hk; cases hk)⟩⟩⟩
 have h1:=h.le hle
 have hn:=h1.1
 refine(cI_IntOk V1 c1 c2 l f h1).mono ?_
 rintro V' r ⟨rfl,e,rfl,he⟩
 refine⟨nofun,e,rfl,fun ht=>⟨hle,_,rfl,⟨fun hd=>⟨hk,he.1 ht,?_⟩,fun k=>?_⟩⟩,fun hf=>⟨hle,false,rfl,⟨(fun h=>by cases h),(fun k=>by rw [he.2 k.2.1] at hf; cases hf)⟩⟩⟩
 ·have:(c2.n:Int)≤4:=of_decide_eq_true hd
  omega
 ·have:=k.2.2
  exact decide_eq_true (by omega)
theorem can_len {a b:List Lim} (ha:Can a) (hb:Can b) (h:valN b≤valN a):b.length≤a.length:=by
 by_cases e:b.length≤a.length
 ·exact e
 ·have h1:=can_ge hb (by omega)
  have h2:=(valTo_bd ha.1 a.length).2
  have h3:=pw_mono (show a.length≤b.length-1 by omega)
  unfold valN at h h1
  omega
theorem can_pos {l:List Lim} (h:Can l):0<l.length↔0<valN l:=by
 have h1:=can_empty h
 have h2:=valN_nonneg h.1
 omega
theorem cI_intSign (V:Know) (c0:Bool) (c1:SlV) (l:List Lim) (f:List Nat) (h:LR rI V c1 l f) (hc:Can l):CallX Tryz.prog V gI_intSign [Sh1.val (.g [.b,.l]) (c0,c1,())] (fun V' r=>V'=V∧r=.int .i64 (sgn (sval c0 l))):=by
 refine CallX.of_fits Tryz.mix (fI_intSign _) fun _=>?_
 simp only [tI_intSign,T.wp]
 have hn:=h.1
 have h0:=can_empty hc
 have h1:=valN_nonneg hc.1
 refine⟨fun hz=>⟨by trivial,?_⟩,fun hz=>⟨fun hneg=>⟨by trivial,?_⟩,fun hpos=>⟨by trivial,?_⟩⟩⟩
 ·have:(c1.n:Int)=0:=by simpa using hz
  have:valN l=0:=h0.1 (by omega)
  simp [sval,this,sgn,packed]
 ·have:¬ (c1.n:Int)=0:=by simpa using hz
  have:valN l≠0:=fun e=>by have:=h0.2 e; omega
  have hc0:c0=true:=hneg
  subst hc0
  have e:sgn (sval true l)=-1:=by unfold sgn sval; simp; omega
  rw [e]; rfl
 ·have:¬ (c1.n:Int)=0:=by simpa using hz
  have:valN l≠0:=fun e=>by have:=h0.2 e; omega
  have hc0:c0=false:=hpos
  subst hc0
  have e:sgn (sval false l)=1:=by unfold sgn sval; simp; omega
  rw [e]; rfl
theorem cmp_sgn {x y:Int} {c:Int} (h:Cmps c x y):c=sgn (x-y):=by
 unfold sgn
 rcases h with ⟨rfl,h⟩ | ⟨rfl,h⟩ | ⟨rfl,h⟩
 ·rw [if_pos (by omega)]
 ·rw [if_neg (by omega),if_pos (by omega)]
 ·rw [if_neg (by omega),if_neg (by omega)]
theorem cS_IntCmp (V:Know) (c0:Bool) (c1:SlV) (d0:Bool) (d1:SlV) (a b:List Lim) (f g:List Nat) (h:LR rI V c1 a f) (h':LR rI V d1 b g) (ha:IntOkP c0 a) (hb:IntOkP d0 b) :
  CallX Tryz.prog V gS_IntCmp [Sh1.val (.g [.b,.l]) (c0,c1,()),Sh1.val (.g [.b,.l]) (d0,d1,())] (fun V' r=>V'=V∧r=.int .i64 (sgn (sval c0 a-sval d0 b))):=by
 refine CallX.of_fits Tryz.mix (fS_IntCmp _ _) fun _=>?_
 simp only [tS_IntCmp,T.wp]
 have na:=valN_nonneg ha.1.1.1
 have nb:=valN_nonneg hb.1.1.1
 have pa:=can_pos ha.1.1
 have pb:=can_pos hb.1.1
 refine(cS_IntOk V c0 c1 a f h).mono ?_
 rintro V1 r ⟨rfl,e,rfl,he⟩
 have he1:=he.2 ha
 subst he1
 refine⟨nofun,true,rfl,nofun,fun _=>(cS_IntOk V1 d0 d1 b g h').mono ?_⟩
 rintro V2 r ⟨rfl,e,rfl,he2⟩
 have he2:=he2.2 hb
 subst he2
 refine⟨nofun,true,rfl,nofun,fun _=>?_⟩
 have fwd:∀ {K:Know→Value→Prop},(∀ r,r=.int .i64 (sgn (valN a-valN b))→K V2 r)→CallX Tryz.prog V2 gS_l02Cmp [Sc.val .l c1,Sc.val .l d1] K:=fun hK=>(cS_l02Cmp V2 c1 d1 a b f g h h').mono (by
  rintro V' r ⟨rfl,rfl⟩
  exact hK _ (by rw [cmp_sgn (cmpL_val ha.1.1 hb.1.1)]))
 have bwd:∀ {K:Know→Value→Prop},(∀ r,r=.int .i64 (sgn (valN b-valN a))→K V2 r)→CallX Tryz.prog V2 gS_l02Cmp [Sc.val .l d1,Sc.val .l c1] K:=fun hK=>(cS_l02Cmp V2 d1 c1 b a g f h' h).mono (by
  rintro V' r ⟨rfl,rfl⟩
  exact hK _ (by rw [cmp_sgn (cmpL_val hb.1.1 ha.1.1)]))
 cases c0 with
 | true =>
  have a1:=pa.1 (ha.2 rfl)
  cases d0 with
  | true =>
   refine⟨fun _=>⟨nofun,fun _=>⟨nofun,fun _=>⟨fun _=>bwd ?_,nofun⟩⟩⟩,nofun⟩
   rintro r rfl
   refine⟨nofun,_,rfl,by trivial,?_⟩
   have:sval true a-sval true b=valN b-valN a:=by simp [sval]; omega
   rw [this]; rfl
  | false =>
   refine⟨fun _=>⟨fun _=>⟨by trivial,?_⟩,nofun⟩,nofun⟩
   have:sgn (sval true a-sval false b)=-1:=by unfold sgn sval; simp; omega
   rw [this]; rfl
 | false =>
  cases d0 with
  | true =>
   have b1:=pb.1 (hb.2 rfl)
   refine⟨nofun,fun _=>⟨fun _=>⟨fun _=>⟨by trivial,?_⟩,nofun⟩,nofun⟩⟩
   have:sgn (sval false a-sval true b)=1:=by unfold sgn sval; simp; omega
   rw [this]; rfl
  | false =>
   refine⟨nofun,fun _=>⟨fun _=>⟨nofun,fun _=>⟨nofun,fun _=>fwd ?_⟩⟩,nofun⟩⟩
   rintro r rfl
   exact⟨nofun,_,rfl,by trivial,rfl⟩
end Go.Proofs.YtccnjccabllcaaaGreatDoor
