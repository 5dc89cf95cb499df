/-
  Valid fractions, decimals, rates, books and remainders, in the program and in the reference.
-/
import Derived.Test.YtpdfdkccgkieoaaGreatDoorDivG
import Derived.Test.YtpdfdkccgkieoaaGreatDoorStr
import Derived.Test.YtpdfdkccgkieoaaGreatDoorMap
namespace Go.Proofs.YtpdfdkccgkieoaaGreatDoor
open Sx
set_option maxRecDepth 100000
def RatOkP (neg:Bool) (n d:List Lim):Prop:=IntOkP neg n∧NatOkP d∧0<d.length∧d.length≤18∧n.length≤18∧Int.gcd (valN n) (valN d)=1
def LowerP (x:Int):Prop:=97≤x∧x≤122
def DigitP (x:Int):Prop:=48≤x∧x≤57
def WordP (s:ByteArray):Prop:=1≤s.size∧s.size≤12∧LowerP (at0 s 0)∧∀ i,i<s.size→LowerP (at0 s i)∨DigitP (at0 s i)
def DecOkP (neg:Bool) (l:List Lim) (sc:Int):Prop:=IntOkP neg l∧l.length≤6∧0≤sc∧sc≤30
def RateOkP (r:DRate):Prop:=known r.1=true∧known r.2.1=true∧r.1≠r.2.1∧DecOkP r.2.2.1 r.2.2.2.1 r.2.2.2.2.1∧0<sval r.2.2.1 r.2.2.2.1∧r.2.2.2.1.length≤2
def LessP (a b:ByteArray):Prop:=Op.bytesLess a.toList b.toList=true
def AcctAtP (l:List DAcct) (i:Nat):Prop:=∃ h:i<l.length,WordP l[i].1∧MoneyOkP l[i].2.1 l[i].2.2.1 l[i].2.2.2.1∧(0<i→LessP l[i-1].1 l[i].1)
def BookOkP (l:List DAcct):Prop:=l.length≤12∧∀ i,i<l.length→AcctAtP l i
def RestAtP (l:List DRest) (i:Nat):Prop:=∃ h:i<l.length,known l[i].1=true∧RatOkP l[i].2.1 l[i].2.2.1 l[i].2.2.2.1∧sgn (sval l[i].2.1 l[i].2.2.1)≠0∧(0<i→LessP l[i-1].1 l[i].1)
def RestsOkP (l:List DRest):Prop:=∀ i,i<l.length→RestAtP l i
def rkey (r:DRate):ByteArray × ByteArray:=(r.1,r.2.1)
def RateAtP (l:List DRate) (i:Nat):Prop:=∃ h:i<l.length,RateOkP l[i]∧∀ (j:Nat) (hj:j<l.length),j<i→rkey l[j]≠rkey l[i]
def RatesOkP (p:ByteArray) (l:List DRate):Prop:=known p=true∧l.length≤12∧∀ i,i<l.length→RateAtP l i
def LedgerOkP (x:DLedger):Prop:=BookOkP x.1∧RestsOkP x.2.1∧RatesOkP x.2.2.1 x.2.2.2.1
theorem acct_elim {V:Know} {c:Scs [.s,.s,.b,.l]} {x:DAcct} {f:List Nat} (h:rAcct.R V c x f):∃ s g,c=(x.1,x.2.1,x.2.2.1,s,())∧LR rI V s x.2.2.2.1 g:=by
 obtain⟨c0,c1,c2,c3,cu⟩:=c
 obtain⟨x0,x1,x2,x3,xu⟩:=x
 obtain⟨⟨e0,_⟩,h⟩:=h
 replace e0:c0=x0:=e0
 subst e0
 obtain⟨⟨e1,_⟩,h⟩:=h
 replace e1:c1=x1:=e1
 subst e1
 obtain⟨e2,h⟩:=h
 replace e2:c2=x2:=e2
 subst e2
 obtain⟨g,g2,_,hs,_⟩:=h
 exact⟨c3,g,rfl,hs⟩
theorem rest_elim {V:Know} {c:Scs [.s,.b,.l,.l]} {x:DRest} {f:List Nat} (h:rRest.R V c x f):∃ s s' g g',c=(x.1,x.2.1,s,s',())∧LR rI V s x.2.2.1 g∧LR rI V s' x.2.2.2.1 g':=by
 obtain⟨c0,c1,c2,c3,cu⟩:=c
 obtain⟨x0,x1,x2,x3,xu⟩:=x
 obtain⟨⟨e0,_⟩,h⟩:=h
 replace e0:c0=x0:=e0
 subst e0
 obtain⟨e1,h⟩:=h
 replace e1:c1=x1:=e1
 subst e1
 obtain⟨g,g2,_,hs,h⟩:=h
 obtain⟨g',g3,_,hs',_⟩:=h
 exact⟨c2,c3,g,g',rfl,hs,hs'⟩
theorem rate_elim {V:Know} {c:Scs [.s,.s,.b,.l,.i .i64]} {x:DRate} {f:List Nat} (h:rRate.R V c x f):∃ s g,c=(x.1,x.2.1,x.2.2.1,s,x.2.2.2.2.1,())∧LR rI V s x.2.2.2.1 g:=by
 obtain⟨c0,c1,c2,c3,c4,cu⟩:=c
 obtain⟨x0,x1,x2,x3,x4,xu⟩:=x
 obtain⟨⟨e0,_⟩,h⟩:=h
 replace e0:c0=x0:=e0
 subst e0
 obtain⟨⟨e1,_⟩,h⟩:=h
 replace e1:c1=x1:=e1
 subst e1
 obtain⟨e2,h⟩:=h
 replace e2:c2=x2:=e2
 subst e2
 obtain⟨g,g2,_,hs,h⟩:=h
 obtain⟨e4,_⟩:=h
 replace e4:c4=x4:=e4
 subst e4
 exact⟨c3,g,rfl,hs⟩
theorem rows_wp {P:Program} {K:Know→List Value→Prop} {V V0:Know} {n:Nat} {p:Nat→Prop} {body:LShs [.o (.o (.i .i64))]→T} {tail:T} {Ns:List (List LV→Know→Prop)} (hn:n≤9223372036854775807)
  (hbody:∀ (V':Know) (i:Nat) (N:List LV→Know→Prop),V.le V'→i<n→(∀ j,j<i→p j)→(∀ V2,V'.le V2→¬ p i→K V2 [.bool false])→(∀ V2,V'.le V2→p i→N [.v (.int .i64 (IntKind.i64.wrap ((i:Int)+1)))] V2)→(body ((i:Int),())).wp P K V' V' (Ns++[N]))
  (htail:∀ V',V.le V'→(∀ i,i<n→p i)→∀ N,tail.wp P K V' V' (Ns++[N])) (hfalse:∀ V' i,V.le V'→i<n→¬ p i→K V' [.bool false]) :
  (T.lp [.o (.o (.i .i64))] [.v (.int .i64 (0:Int))] fun y=>.br (decide (y.fst<(n:Int))) (body y) tail).wp P K V V0 Ns:=by
 simp only [T.wp]
 refine⟨fun y V'=>V.le V'∧∃ i:Nat,y.1=(i:Int)∧i≤n∧∀ j,j<i→p j,fun y=>((n:Int)-(y.1:Int)).toNat,⟨((0:Int),()),rfl,Know.le.refl _,0,rfl,by omega,fun j hj=>by omega⟩,?_⟩
 rintro⟨(i:Int),u⟩ V' ⟨hV,k,hk,hle,hall⟩
 replace hk:i=(k:Int):=hk
 subst hk
 refine⟨fun hlt=>?_,fun hge=>?_⟩
 ·have h1:k<n:=by
   have:(k:Int)<(n:Int):=of_decide_eq_true hlt
   omega
  refine hbody V' k _ hV h1 hall (fun V2 h2 hne=>hfalse V2 k (hV.trans h2) h1 hne) fun V2 h2 he=>?_
  refine⟨(((k+1:Nat):Int),()),by rw [nxt h1 (by omega)]; rfl,⟨hV.trans h2,k+1,rfl,h1,fun j hj=>?_⟩,?_⟩
  ·by_cases e:j=k
   ·subst e; exact he
   ·exact hall j (by omega)
  ·show((n:Int)-((k+1:Nat):Int)).toNat<((n:Int)-(k:Int)).toNat
   omega
 ·have h1:k=n:=by
   have:¬ (k:Int)<(n:Int):=of_decide_eq_false hge
   omega
  subst h1
  exact htail V' hV hall _
def HcS (_:Know):Prop:=True
def HcI (V:Know):Prop:=hasCur V
theorem HcS.le {V V':Know} (_:HcS V) (_:V.le V'):HcS V':=trivial
theorem HcI.le {V V':Know} (h:HcI V) (k:V.le V'):HcI V':=hasCur.le h k
theorem kS_CurKnown {V:Know} (_:HcS V) (x:ByteArray):CallX Tryz.prog V 65 [.string x] (fun V' r=>V.le V'∧r=.bool (known x)):=cS_CurKnown V x
theorem kI_CurKnown {V:Know} (h:HcI V) (x:ByteArray):CallX Tryz.prog V 14 [.string x] (fun V' r=>V.le V'∧r=.bool (known x)):=(cI_CurKnown h x).mono (by
 rintro V' r ⟨rfl,rfl⟩
 exact⟨Know.le.refl _,rfl⟩)
theorem kS_MoneyOk {V:Know} (_:HcS V) (c0:ByteArray) (c1:Bool) (c2:SlV) (l:List Lim) (f:List Nat) (h:LR rI V c2 l f):CallX Tryz.prog V 148 [qv2 (c0,c1,c2,())] (fun V' r=>V.le V'∧∃ e,r=.bool e∧(e=true↔MoneyOkP c0 c1 l)):=cS_MoneyOk c0 c1 c2 l f h
theorem kI_MoneyOk {V:Know} (hV:HcI V) (c0:ByteArray) (c1:Bool) (c2:SlV) (l:List Lim) (f:List Nat) (h:LR rI V c2 l f):CallX Tryz.prog V 74 [qv2 (c0,c1,c2,())] (fun V' r=>V.le V'∧∃ e,r=.bool e∧(e=true↔MoneyOkP c0 c1 l)):=cI_MoneyOk hV c0 c1 c2 l f h
theorem one_can {g:List Lim} (h:Can g):valN g=1↔g.length=1∧limb g 0=1:=by
 constructor
 ·intro e
  have hp:=(can_pos h).2 (by omega)
  have h1:=can_ge h hp
  have hl:g.length=1:=by
   by_cases k:g.length=1
   ·exact k
   ·have h2:=pw_mono (show 1≤g.length-1 by omega)
    simp at h2
    omega
  refine⟨hl,?_⟩
  rw [valN,hl] at e
  simpa [valTo] using e
 ·rintro⟨hl,e⟩
  rw [valN,hl]
  simp [valTo,e]
theorem RatOkP.mk {neg:Bool} {n d g:List Lim} (h1:IntOkP neg n) (h2:NatOkP d) (h3:¬ d.length=0) (h4:¬ (d.length:Int) > 18) (h5:¬ (n.length:Int) > 18) (hg:valN g=(Int.gcd (valN n) (valN d):Int)):valN g=1↔RatOkP neg n d:=by
 rw [hg]
 constructor
 ·intro e
  exact⟨h1,h2,by omega,by omega,by omega,by omega⟩
 ·intro h
  have:=h.2.2.2.2.2
  omega
abbrev OkPost (V:Know) (p:Prop):Know→Value→Prop:=fun V' r=>V.le V'∧∃ e,r=.bool e∧(e=true↔p)
theorem not_ok {V:Know} {p:Prop} {V':Know} (h:V.le V') (k:¬ p):OkPost V p V' (.bool false):=⟨h,false,rfl,⟨(fun e=>by cases e),fun e=>absurd e k⟩⟩
theorem cS_RatOk (V:Know) (c0:Bool) (c1 c2:SlV) (n d:List Lim) (f g:List Nat) (h:LR rI V c1 n f) (h':LR rI V c2 d g):CallX Tryz.prog V 107 [qv5 (c0,c1,c2,())] (OkPost V (RatOkP c0 n d)):=by
 refine CallX.of_fits Tryz.mix (fS_RatOk _) fun _=>?_
 simp only [tS_RatOk,T.wp]
 have hn:=h.1
 have hd:=h'.1
 refine(cS_IntOk V c0 c1 n f h).mono ?_
 rintro V0 r ⟨rfl,e,rfl,he⟩
 refine⟨nofun,e,rfl,(fun hf=>not_ok (Know.le.refl _) fun k=>by rw [he.2 k.1] at hf; cases hf),fun ht=>?_⟩
 have ht':e=true:=by simpa using ht
 refine(cS_NatOk V0 c2 d g h').mono ?_
 rintro V1 r ⟨rfl,e2,rfl,he2⟩
 refine⟨nofun,e2,rfl,(fun hf=>not_ok (Know.le.refl _) fun k=>by rw [he2.2 k.2.1] at hf; cases hf),fun ht2=>?_⟩
 have ht2':e2=true:=by simpa using ht2
 refine⟨fun hz=>not_ok (Know.le.refl _) fun k=>?_,fun hz=>⟨fun hz2=>not_ok (Know.le.refl _) fun k=>?_,fun hz2=>⟨fun hz3=>not_ok (Know.le.refl _) fun k=>?_,fun hz3=>?_⟩⟩⟩
 ·have:(c2.n:Int)=0:=by simpa using hz
  have:=k.2.2.1
  omega
 ·have:(c2.n:Int) > 18:=of_decide_eq_true hz2
  have:=k.2.2.2.1
  omega
 ·have:(c1.n:Int) > 18:=of_decide_eq_true hz3
  have:=k.2.2.2.2.1
  omega
 have q1:¬ d.length=0:=by
  have:¬ (c2.n:Int)=0:=by simpa using hz
  omega
 have q2:¬ (d.length:Int) > 18:=by
  have:¬ (c2.n:Int) > 18:=of_decide_eq_false hz2
  omega
 have q3:¬ (n.length:Int) > 18:=by
  have:¬ (c1.n:Int) > 18:=of_decide_eq_false hz3
  omega
 refine(cS_NatGcd V1 c1 c2 n d f g h h' (he.1 ht').1 (he2.1 ht2')).mono ?_
 rintro V2 r ⟨hle,s,gg,fg,rfl,hL,hO,hc,hv⟩
 refine⟨nofun,s,rfl,?_⟩
 intro b4 c4 sp hb4 hc4 _
 have k4:=newI (V:=V2) (b:=b4) (cap:=c4) (o:=[(1,())]) (spare:=sp) (t:=3) hb4 hc4 (by simp)
 have hle4:=kset_le (x:=([((1:Int),())].map cellI++sp,((3:TypeId),((0,0):Nat × Nat)))) hb4
 have c1c:Can [((1:Int),())]:=⟨lims_one (by decide),.inr (by decide)⟩
 refine(cS_l02Cmp _ s ⟨some ⟨b4,0,none⟩,1,c4⟩ gg [(1,())] _ _ (hL.le hle4) k4.1).mono ?_
 rintro V3 r ⟨rfl,rfl⟩
 refine⟨nofun,_,rfl,hle.trans hle4,_,rfl,?_⟩
 rw [← RatOkP.mk (he.1 ht') (he2.1 ht2') q1 q2 q3 hv,show(valN gg=1↔valN gg=valN [((1:Int),())]) by rw [valN_one],← cmp_eq hc c1c]
 exact beq_iff_eq
theorem cI_RatOk (V:Know) (c0:Bool) (c1 c2:SlV) (n d:List Lim) (f g:List Nat) (h:LR rI V c1 n f) (h':LR rI V c2 d g):CallX Tryz.prog V 75 [qv5 (c0,c1,c2,())] (OkPost V (RatOkP c0 n d)):=by
 refine CallX.of_fits Tryz.mix (fI_RatOk _) fun _=>?_
 simp only [tI_RatOk,T.wp]
 have hn:=h.1
 have hd:=h'.1
 refine(cI_IntOk V c0 c1 n f h).mono ?_
 rintro V0 r ⟨rfl,e,rfl,he⟩
 refine⟨nofun,e,rfl,(fun hf=>not_ok (Know.le.refl _) fun k=>by rw [he.2 k.1] at hf; cases hf),fun ht=>?_⟩
 have ht':e=true:=by simpa using ht
 refine(cI_NatOk V0 c2 d g h').mono ?_
 rintro V1 r ⟨rfl,e2,rfl,he2⟩
 refine⟨nofun,e2,rfl,(fun hf=>not_ok (Know.le.refl _) fun k=>by rw [he2.2 k.2.1] at hf; cases hf),fun ht2=>?_⟩
 have ht2':e2=true:=by simpa using ht2
 refine⟨fun hz=>not_ok (Know.le.refl _) fun k=>?_,fun hz=>⟨fun hz2=>not_ok (Know.le.refl _) fun k=>?_,fun hz2=>⟨fun hz3=>not_ok (Know.le.refl _) fun k=>?_,fun hz3=>?_⟩⟩⟩
 ·have:(c2.n:Int)=0:=by simpa using hz
  have:=k.2.2.1
  omega
 ·have:(c2.n:Int) > 18:=of_decide_eq_true hz2
  have:=k.2.2.2.1
  omega
 ·have:(c1.n:Int) > 18:=of_decide_eq_true hz3
  have:=k.2.2.2.2.1
  omega
 have q1:¬ d.length=0:=by
  have:¬ (c2.n:Int)=0:=by simpa using hz
  omega
 have q2:¬ (d.length:Int) > 18:=by
  have:¬ (c2.n:Int) > 18:=of_decide_eq_false hz2
  omega
 have q3:¬ (n.length:Int) > 18:=by
  have:¬ (c1.n:Int) > 18:=of_decide_eq_false hz3
  omega
 refine(cI_natGcd V1 c1 c2 n d f g h h' (he.1 ht').1.1 (he2.1 ht2').1 (by omega) (by omega)).mono ?_
 rintro V2 r ⟨hle,s,gg,fg,rfl,hL,hO,hc,hv⟩
 have key:=RatOkP.mk (he.1 ht') (he2.1 ht2') q1 q2 q3 hv
 rw [one_can hc] at key
 have hng:=hL.1
 refine⟨nofun,s,rfl,fun hone=>?_,fun hno=>not_ok hle fun k=>?_⟩
 ·have h1:gg.length=1:=by
   have:(s.n:Int)=1:=by simpa using hone
   omega
  obtain⟨b1,o1,a1,l1⟩:=hL.int (show 0<gg.length by omega)
  rw [← limb_lt (show 0<gg.length by omega)] at l1
  refine⟨_,a1,Int.le_refl _,(by omega:(0:Int)<(s.n:Int)),limb gg 0,l1,hle,_,rfl,?_⟩
  rw [← key]
  exact⟨fun hh=>⟨h1,by simpa using hh⟩,fun hh=>by simpa using hh.2⟩
 ·have:¬ (s.n:Int)=1:=by simpa using hno
  have:=(key.2 k).1
  omega
theorem cI_RatSign (V:Know) (c0:Bool) (c1 c2:SlV) (n d:List Lim) (f g:List Nat) (h:LR rI V c1 n f) (h':LR rI V c2 d g) (hr:RatOkP c0 n d):CallX Tryz.prog V 76 [qv5 (c0,c1,c2,())] (fun V' r=>V.le V'∧r=.int .i64 (sgn (sval c0 n))):=by
 refine CallX.of_fits Tryz.mix (fI_RatSign _) fun _=>?_
 simp only [tI_RatSign,T.wp]
 refine(cI_RatOk V c0 c1 c2 n d f g h h').mono ?_
 rintro V1 r ⟨hle,e,rfl,he⟩
 have he1:=he.2 hr
 subst he1
 refine⟨nofun,true,rfl,nofun,fun _=>(cI_intSign V1 c0 c1 n f (h.le hle) hr.1.1.1).mono ?_⟩
 rintro V2 r ⟨rfl,rfl⟩
 exact⟨nofun,_,rfl,hle,rfl⟩
theorem cS_l02Cap (V:Know) (s:SlV) (l:List Lim) (f:List Nat) (h:LR rI V s l f) (hl:l.length≤50):CallX Tryz.prog V 153 [Sc.val .l s] (fun V' r=>V'=V∧∃ s',r=Sc.val .l s'∧LR rI V s' (trimL l) f):=by
 refine CallX.of_fits Tryz.mix (fS_l02Cap _) fun _=>?_
 simp only [tS_l02Cap,T.wp]
 refine(cS_l02Trim V s l f h).mono ?_
 rintro V1 r ⟨rfl,s',rfl,-,hL⟩
 have hn:=hL.1
 have:(trimL l).length≤l.length:=by unfold trimL; rw [List.length_take]; exact Nat.min_le_right _ _
 refine⟨nofun,s',rfl,fun hbad=>?_,fun _=>⟨rfl,s',rfl,hL⟩⟩
 have:(s'.n:Int) > 50:=of_decide_eq_true hbad
 omega
theorem trim_id {l:List Lim} (h:Can l):trimL l=l:=can_inj (trim_can h.1).1 h (trim_can h.1).2
theorem cS_l04Make (V:Know) (c0:Bool) (s:SlV) (l:List Lim) (f:List Nat) (h:LR rI V s l f) (hc:Can l) (hl:l.length≤50) :
  CallX Tryz.prog V 100 [.bool c0,Sc.val .l s] (fun V' r=>V.le V'∧∃ s' f',r=qv1 (c0 && decide (0<l.length),s',())∧LR rI V' s' l f'∧Own V V' f'):=by
 refine CallX.of_fits Tryz.mix (fS_l04Make _ _) fun _=>?_
 simp only [tS_l04Make,T.wp]
 refine(cS_l02Cap V s l f h hl).mono ?_
 rintro V1 r ⟨rfl,s1,rfl,hL⟩
 rw [trim_id hc] at hL
 obtain⟨r1,r2⟩:=hL.rdI
 have hn:=hL.1
 have fin:∀ (q:Bool),q=(c0 && decide (0<l.length))→∀ b cap spare,V1 b=none→0+s1.n≤cap→V1.le (kset V1 b (([]++l.map cellI)++spare,(3,(0,0))))∧∃ s' f',packed [qv1 (q,(⟨some ⟨b,0,none⟩,0+s1.n,cap⟩:SlV),())]=qv1 (c0 && decide (0<l.length),s',())∧LR rI (kset V1 b (([]++l.map cellI)++spare,(3,(0,0)))) s' l f'∧Own V1 (kset V1 b (([]++l.map cellI)++spare,(3,(0,0)))) f':=by
  intro q hq b cap spare hb hcap
  have k:=newI (V:=V1) (b:=b) (cap:=cap) (o:=l) (spare:=spare) (t:=3) hb (by omega) (by omega)
  refine⟨kset_le hb,⟨some ⟨b,0,none⟩,0+s1.n,cap⟩,[b],by rw [hq]; rfl,?_,k.2⟩
  rw [Nat.zero_add,hn]
  exact k.1
 refine⟨nofun,s1,rfl,fun hneg=>⟨l.map cellI,r1,r2,⟨r2,(by omega:(0+s1.n)*8≤140737488355328),(by omega:0+s1.n≤9223372036854775807)⟩,fun b cap spare hb hcap _=>fin _ ?_ b cap spare hb hcap⟩,fun hpos=>⟨l.map cellI,r1,r2,⟨r2,(by omega:(0+s1.n)*8≤140737488355328),(by omega:0+s1.n≤9223372036854775807)⟩,fun b cap spare hb hcap _=>fin _ ?_ b cap spare hb hcap⟩⟩
 ·have:c0=true:=hneg
  subst this
  show decide ((s1.n:Int) > 0)=(true && decide (0<l.length))
  rw [Bool.true_and]
  exact decide_eq_decide.2 (by omega)
 ·have:c0=false:=hpos
  subst this
  rfl
theorem made_ok {q:Bool} {o:List Lim} (hc:Can o) (hl:o.length≤50):IntOkP (q && decide (0<o.length)) o∧sval (q && decide (0<o.length)) o=sval q o:=by
 refine⟨⟨⟨hc,hl⟩,fun h=>by simp at h; exact h.2⟩,?_⟩
 by_cases hz:0<o.length
 ·simp [hz]
 ·have:valN o=0:=(can_empty hc).1 (by omega)
  unfold sval
  cases q <;> simp [this]
theorem cS_RatCmp (V:Know) (c0:Bool) (c1 c2:SlV) (d0:Bool) (d1 d2:SlV) (n d m e:List Lim) (f g f' g':List Nat) (h1:LR rI V c1 n f) (h2:LR rI V c2 d g) (h3:LR rI V d1 m f') (h4:LR rI V d2 e g') (hr:RatOkP c0 n d) (hs:RatOkP d0 m e) :
  CallX Tryz.prog V 113 [qv5 (c0,c1,c2,()),qv5 (d0,d1,d2,())] (fun V' r=>V.le V'∧r=.int .i64 (sgn (sval c0 n*valN e-sval d0 m*valN d))):=by
 refine CallX.of_fits Tryz.mix (fS_RatCmp _ _) fun _=>?_
 simp only [tS_RatCmp,T.wp]
 have z1:=hr.2.2.2.1
 have z2:=hr.2.2.2.2.1
 have z3:=hs.2.2.2.1
 have z4:=hs.2.2.2.2.1
 refine(cS_RatOk V c0 c1 c2 n d f g h1 h2).mono ?_
 rintro V1 r ⟨le1,b1,rfl,hb1⟩
 have hb1:=hb1.2 hr
 subst hb1
 refine⟨nofun,true,rfl,nofun,fun _=>(cS_RatOk V1 d0 d1 d2 m e f' g' (h3.le le1) (h4.le le1)).mono ?_⟩
 rintro V2 r ⟨le2,b2,rfl,hb2⟩
 have hb2:=hb2.2 hs
 subst hb2
 have l2:=le1.trans le2
 refine⟨nofun,true,rfl,nofun,fun _=>(cS_l02Mul V2 c1 d2 n e f g' (h1.le l2) (h4.le l2) hr.1.1.1.1 hs.2.1.1.1 (by omega) (by omega)).mono ?_⟩
 rintro V3 r ⟨le3,s3,o3,f3,rfl,L3,_,C3,v3⟩
 have n3:=mul_len (a:=n) (b:=e) hs.2.1.1 C3 hr.1.1.1.1 v3
 refine⟨fun _=>le3,s3,rfl,(cS_l04Make V3 c0 s3 o3 f3 L3 C3 (by omega)).mono ?_⟩
 rintro V4 r ⟨le4,s4,f4,rfl,L4,_⟩
 have l4:=(l2.trans le3).trans le4
 refine⟨fun _=>le4,(c0 && decide (0<o3.length),s4,()),rfl,(cS_l02Mul V4 d1 c2 m d f' g (h3.le l4) (h2.le l4) hs.1.1.1.1 hr.2.1.1.1 (by omega) (by omega)).mono ?_⟩
 rintro V5 r ⟨le5,s5,o5,f5,rfl,L5,_,C5,v5⟩
 have n5:=mul_len (a:=m) (b:=d) hr.2.1.1 C5 hs.1.1.1.1 v5
 refine⟨fun _=>le5,s5,rfl,(cS_l04Make V5 d0 s5 o5 f5 L5 C5 (by omega)).mono ?_⟩
 rintro V6 r ⟨le6,s6,f6,rfl,L6,_⟩
 obtain⟨ok3,e3⟩:=made_ok (q:=c0) C3 (by omega)
 obtain⟨ok5,e5⟩:=made_ok (q:=d0) C5 (by omega)
 refine⟨fun _=>le6,(d0 && decide (0<o5.length),s6,()),rfl,(cS_IntCmp V6 _ s4 _ s6 o3 o5 f4 f6 ((L4.le le5).le le6) L6 ok3 ok5).mono ?_⟩
 rintro V7 r ⟨rfl,rfl⟩
 refine⟨fun _=>Know.le.refl _,_,rfl,(l4.trans le5).trans le6,?_⟩
 have q1:sval c0 o3=sval c0 n*valN e:=by
  unfold sval
  rw [v3]
  split
  ·rw [Int.neg_mul]
  ·rfl
 have q2:sval d0 o5=sval d0 m*valN d:=by
  unfold sval
  rw [v5]
  split
  ·rw [Int.neg_mul]
  ·rfl
 rw [e3,e5,q1,q2]
 rfl
theorem cS_RatSign (V:Know) (c0:Bool) (c1 c2:SlV) (n d:List Lim) (f g:List Nat) (h:LR rI V c1 n f) (h':LR rI V c2 d g) (hr:RatOkP c0 n d):CallX Tryz.prog V 67 [qv5 (c0,c1,c2,())] (fun V' r=>V.le V'∧r=.int .i64 (sgn (sval c0 n))):=by
 refine CallX.of_fits Tryz.mix (fS_RatSign _) fun _=>?_
 simp only [tS_RatSign,T.wp]
 have z:CallX Tryz.prog V 72 [] (fun V' r=>V.le V'∧∃ s b,r=qv5 (false,⟨none,0,0⟩,s,())∧LR rI V' s [(1,())] [b]):=by
  refine CallX.of_fits Tryz.mix fS_RatZero fun _=>?_
  simp only [tS_RatZero,T.wp]
  intro b cap spare hb hcap _
  have k:=newI (V:=V) (b:=b) (cap:=cap) (o:=[(1,())]) (spare:=spare) (t:=3) hb hcap (by simp)
  exact⟨kset_le hb,⟨some ⟨b,0,none⟩,1,cap⟩,b,rfl,k.1⟩
 have hz:RatOkP false [] [((1:Int),())]:=⟨⟨⟨⟨lims_nil,.inl rfl⟩,by simp⟩,fun h=>by cases h⟩,⟨⟨lims_one (by decide),.inr (by decide)⟩,by simp⟩,by simp,by simp,by simp,by rw [valN_one]; rfl⟩
 refine z.mono ?_
 rintro V1 r ⟨le1,s,b,rfl,L1⟩
 refine⟨fun _=>le1,(false,⟨none,0,0⟩,s,()),rfl,(cS_RatCmp V1 c0 c1 c2 false ⟨none,0,0⟩ s n d [] [(1,())] f g [] [b] (h.le le1) (h'.le le1) ⟨rfl,Nat.le_refl _,by simp,.inl ⟨rfl,fun _=>rfl,rfl⟩⟩ L1 hr hz).mono ?_⟩
 rintro V2 r ⟨le2,rfl⟩
 refine⟨fun _=>le2,_,rfl,le1.trans le2,?_⟩
 rw [valN_one]
 have:sval false []*valN d=0:=by simp [sval,valN_nil]
 rw [this,Int.mul_one,Int.sub_zero]
 rfl
theorem cS_IntSign (V:Know) (c0:Bool) (c1:SlV) (l:List Lim) (f:List Nat) (h:LR rI V c1 l f) (hi:IntOkP c0 l):CallX Tryz.prog V 155 [qv1 (c0,c1,())] (fun V' r=>V'=V∧r=.int .i64 (sgn (sval c0 l))):=by
 refine CallX.of_fits Tryz.mix (fS_IntSign _) fun _=>?_
 simp only [tS_IntSign,T.wp]
 refine(cS_IntCmp V c0 c1 false ⟨none,0,0⟩ l [] f [] h ⟨rfl,Nat.le_refl _,by simp,.inl ⟨rfl,fun _=>rfl,rfl⟩⟩ hi ⟨⟨⟨lims_nil,.inl rfl⟩,by simp⟩,fun h=>by cases h⟩).mono ?_
 rintro V1 r ⟨rfl,rfl⟩
 refine⟨nofun,_,rfl,by trivial,?_⟩
 have:sval false []=0:=by simp [sval,valN_nil]
 rw [this,Int.sub_zero]
 rfl
theorem cI_isScale (V:Know) (x:Int):CallX Tryz.prog V 166 [.int .i64 x] (fun V' r=>V'=V∧r=.bool (decide (0≤x∧x≤30))):=by
 refine CallX.of_fits Tryz.mix (fI_isScale _) fun _=>?_
 simp only [tI_isScale,T.wp]
 refine⟨fun h=>⟨by trivial,?_⟩,fun h=>⟨by trivial,?_⟩⟩
 ·have:x≥0:=of_decide_eq_true h
  show Value.bool (decide (x≤30))=_
  rw [decide_eq_decide.2 (show x≤30↔(0≤x∧x≤30) from⟨fun k=>⟨this,k⟩,fun k=>k.2⟩)]
 ·have:¬ x≥0:=of_decide_eq_false h
  rw [decide_eq_false (show ¬ (0≤x∧x≤30) from fun k=>this k.1)]
  rfl
theorem cS_DecOk (V:Know) (c0:Bool) (c1:SlV) (x:Int) (l:List Lim) (f:List Nat) (h:LR rI V c1 l f):CallX Tryz.prog V 154 [qv3 (c0,c1,x,())] (fun V' r=>V'=V∧∃ e,r=.bool e∧(e=true↔DecOkP c0 l x)):=by
 refine CallX.of_fits Tryz.mix (fS_DecOk _) fun _=>?_
 simp only [tS_DecOk,T.wp]
 have hn:=h.1
 refine(cS_IntOk V c0 c1 l f h).mono ?_
 rintro V1 r ⟨rfl,e,rfl,he⟩
 refine⟨nofun,e,rfl,fun ht=>⟨fun h6=>?_,fun h6=>⟨by trivial,false,rfl,⟨(fun h=>by cases h),fun k=>?_⟩⟩⟩,fun hf=>⟨by trivial,false,rfl,⟨(fun h=>by cases h),fun k=>by rw [he.2 k.1] at hf; cases hf⟩⟩⟩
 ·have q:(c1.n:Int)≤6:=of_decide_eq_true h6
  refine(cS_l01In V1 x 0 30).mono ?_
  rintro V2 r ⟨rfl,rfl⟩
  refine⟨nofun,_,rfl,by trivial,_,rfl,⟨fun hd=>⟨he.1 ht,by omega,(of_decide_eq_true hd).1,(of_decide_eq_true hd).2⟩,fun k=>decide_eq_true k.2.2⟩⟩
 ·have q:¬ (c1.n:Int)≤6:=of_decide_eq_false h6
  have:=k.2.1
  omega
theorem cI_DecOk (V:Know) (c0:Bool) (c1:SlV) (x:Int) (l:List Lim) (f:List Nat) (h:LR rI V c1 l f):CallX Tryz.prog V 121 [qv3 (c0,c1,x,())] (fun V' r=>V'=V∧∃ e,r=.bool e∧(e=true↔DecOkP c0 l x)):=by
 refine CallX.of_fits Tryz.mix (fI_DecOk _) fun _=>?_
 simp only [tI_DecOk,T.wp]
 have hn:=h.1
 refine(cI_IntOk V c0 c1 l f h).mono ?_
 rintro V1 r ⟨rfl,e,rfl,he⟩
 refine⟨nofun,e,rfl,fun ht=>⟨fun h6=>?_,fun h6=>⟨by trivial,false,rfl,⟨(fun h=>by cases h),fun k=>?_⟩⟩⟩,fun hf=>⟨by trivial,false,rfl,⟨(fun h=>by cases h),fun k=>by rw [he.2 k.1] at hf; cases hf⟩⟩⟩
 ·have q:(c1.n:Int)≤6:=of_decide_eq_true h6
  refine(cI_isScale V1 x).mono ?_
  rintro V2 r ⟨rfl,rfl⟩
  refine⟨nofun,_,rfl,by trivial,_,rfl,⟨fun hd=>⟨he.1 ht,by omega,(of_decide_eq_true hd).1,(of_decide_eq_true hd).2⟩,fun k=>decide_eq_true k.2.2⟩⟩
 ·have q:¬ (c1.n:Int)≤6:=of_decide_eq_false h6
  have:=k.2.1
  omega
theorem sgn_pos {z:Int}:sgn z > 0↔0<z:=by
 unfold sgn
 split
 ·omega
 ·split <;> omega
theorem word_iff {s:ByteArray}:WordP s↔(∀ i,i<s.size→LowerP (at0 s i)∨DigitP (at0 s i))∧0<s.size∧s.size≤12∧97≤at0 s 0:=by
 unfold WordP
 constructor
 ·rintro⟨h1,h2,h3,h4⟩
  exact⟨h4,h1,h2,h3.1⟩
 ·rintro⟨h1,h2,h3,h4⟩
  refine⟨h2,h3,?_,h1⟩
  rcases h1 0 h2 with h | h
  ·exact h
  ·have:=h.2
   omega
theorem cI_isLower (V:Know) (x:Int):CallX Tryz.prog V 116 [.int .u8 x] (fun V' r=>V'=V∧∃ e,r=.bool e∧(e=true↔LowerP x)):=by
 refine CallX.of_fits Tryz.mix (fI_isLower _) fun _=>?_
 simp only [tI_isLower,T.wp]
 refine⟨fun h=>⟨by trivial,_,rfl,?_⟩,fun h=>⟨by trivial,_,rfl,⟨(fun k=>by cases k),fun k=>?_⟩⟩⟩
 ·have:x≥97:=of_decide_eq_true h
  exact⟨fun k=>⟨this,of_decide_eq_true k⟩,fun k=>decide_eq_true k.2⟩
 ·have:¬ x≥97:=of_decide_eq_false h
  exact absurd k.1 this
theorem cI_isDigit (V:Know) (x:Int):CallX Tryz.prog V 117 [.int .u8 x] (fun V' r=>V'=V∧∃ e,r=.bool e∧(e=true↔DigitP x)):=by
 refine CallX.of_fits Tryz.mix (fI_isDigit _) fun _=>?_
 simp only [tI_isDigit,T.wp]
 refine⟨fun h=>⟨by trivial,_,rfl,?_⟩,fun h=>⟨by trivial,_,rfl,⟨(fun k=>by cases k),fun k=>?_⟩⟩⟩
 ·have:x≥48:=of_decide_eq_true h
  exact⟨fun k=>⟨this,of_decide_eq_true k⟩,fun k=>decide_eq_true k.2⟩
 ·have:¬ x≥48:=of_decide_eq_false h
  exact absurd k.1 this
theorem cI_IsWord (V:Know) (s:ByteArray) (hs:s.size≤9223372036854775807):CallX Tryz.prog V 73 [.string s] (fun V' r=>V'=V∧∃ e,r=.bool e∧(e=true↔WordP s)):=by
 refine CallX.of_fits Tryz.mix (fI_IsWord _) fun _=>?_
 simp only [tI_IsWord,T.wp]
 have no:∀ {V':Know},¬ WordP s→V'=V'∧∃ e,packed [Value.bool false]=.bool e∧(e=true↔WordP s):=fun h=>⟨rfl,false,rfl,⟨(fun k=>by cases k),fun k=>absurd k h⟩⟩
 refine⟨fun h=>⟨by trivial,false,rfl,⟨(fun k=>by cases k),fun k=>?_⟩⟩,fun h=>⟨fun h2=>⟨by trivial,false,rfl,⟨(fun k=>by cases k),fun k=>?_⟩⟩,fun h2=>?_⟩⟩
 ·have:(s.size:Int)<1:=of_decide_eq_true h
  have:=k.1
  omega
 ·have:(s.size:Int) > 12:=of_decide_eq_true h2
  have:=k.2.1
  omega
 have q1:¬ (s.size:Int)<1:=of_decide_eq_false h
 have q2:¬ (s.size:Int) > 12:=of_decide_eq_false h2
 refine⟨⟨by omega,by omega⟩,(cI_isLower V _).mono ?_⟩
 rintro V1 r ⟨rfl,e,rfl,he⟩
 refine⟨nofun,e,rfl,fun hf=>⟨by trivial,false,rfl,⟨(fun k=>by cases k),fun k=>?_⟩⟩,fun ht=>?_⟩
 ·rw [he.2 k.2.2.1] at hf
  cases hf
 have hlow:=he.1 (by simpa using ht)
 replace hlow:LowerP (at0 s 0):=hlow
 refine⟨fun y V'=>V'=V1∧∃ i:Nat,y.1=(i:Int)∧1≤i∧i≤s.size∧∀ j,1≤j→j<i→LowerP (at0 s j)∨DigitP (at0 s j),fun y=>((s.size:Int)-(y.1:Int)).toNat,⟨((1:Int),()),rfl,rfl,1,rfl,by omega,by omega,fun j h1 h2=>by omega⟩,?_⟩
 rintro⟨(i:Int),u⟩ V' ⟨rfl,k,hk,h1k,hkle,hall⟩
 replace hk:i=(k:Int):=hk
 subst hk
 refine⟨fun hlt=>?_,fun hge=>?_⟩
 ·have hks:k<s.size:=by
   have:(k:Int)<(s.size:Int):=of_decide_eq_true hlt
   omega
  have hin:(0:Int)≤(k:Int)∧(k:Int)<(s.size:Int):=⟨by omega,by omega⟩
  have next:LowerP (at0 s k)∨DigitP (at0 s k)→∃ y':LShs [.o (.o (.i .i64))],[LV.v (.int .i64 (IntKind.i64.wrap ((k:Int)+1)))]=LShs.lvs _ y'∧(V'=V'∧∃ i:Nat,y'.1=(i:Int)∧1≤i∧i≤s.size∧∀ j,1≤j→j<i→LowerP (at0 s j)∨DigitP (at0 s j))∧((s.size:Int)-(y'.1:Int)).toNat<((s.size:Int)-(k:Int)).toNat:=by
   intro hp
   refine⟨(((k+1:Nat):Int),()),by rw [nxt hks hs]; rfl,⟨rfl,k+1,rfl,by omega,hks,fun j h1 h2=>?_⟩,?_⟩
   ·by_cases e:j=k
    ·subst e; exact hp
    ·exact hall j h1 (by omega)
   ·show((s.size:Int)-((k+1:Nat):Int)).toNat<((s.size:Int)-(k:Int)).toNat
    omega
  refine⟨hin,(cI_isLower V' _).mono ?_⟩
  rintro V2 r ⟨rfl,e1,rfl,he1⟩
  replace he1:e1=true↔LowerP (at0 s k):=he1
  refine⟨nofun,e1,rfl,fun hf=>⟨hin,(cI_isDigit V2 _).mono ?_⟩,fun ht1=>⟨_,rfl,next (.inl (he1.1 (by simpa using ht1)))⟩⟩
  rintro V3 r ⟨rfl,e2,rfl,he2⟩
  replace he2:e2=true↔DigitP (at0 s k):=he2
  refine⟨nofun,e2,rfl,fun hf2=>⟨by trivial,false,rfl,⟨(fun k=>by cases k),fun kw=>?_⟩⟩,fun ht2=>⟨_,rfl,next (.inr (he2.1 (by simpa using ht2)))⟩⟩
  rcases kw.2.2.2 k hks with hh | hh
  ·rw [he1.2 hh] at hf; cases hf
  ·rw [he2.2 hh] at hf2; cases hf2
 ·have hks:k=s.size:=by
   have:¬ (k:Int)<(s.size:Int):=of_decide_eq_false hge
   omega
  subst hks
  refine⟨rfl,true,rfl,⟨fun _=>⟨by omega,by omega,hlow,fun i hi=>?_⟩,fun _=>rfl⟩⟩
  by_cases e:i=0
  ·subst e; exact .inl hlow
  ·exact hall i (by omega) hi
theorem cS_l01All (V:Know) (s:ByteArray) (a b c d:Int) (hs:s.size≤9223372036854775807):CallX Tryz.prog V 194 [.string s,.int .u8 a,.int .u8 b,.int .u8 c,.int .u8 d]
  (fun V' r=>V'=V∧∃ e,r=.bool e∧(e=true↔(∀ i,i<s.size→(a≤at0 s i∧at0 s i≤b)∨(c≤at0 s i∧at0 s i≤d))∧0<s.size)):=by
 refine CallX.of_fits Tryz.mix (fS_l01All _ _ _ _ _) fun _=>?_
 simp only [tS_l01All,T.wp]
 refine⟨fun y V'=>V'=V∧∃ i:Nat,y.1=(i:Int)∧i≤s.size∧∀ j,j<i→(a≤at0 s j∧at0 s j≤b)∨(c≤at0 s j∧at0 s j≤d),fun y=>((s.size:Int)-(y.1:Int)).toNat,⟨((0:Int),()),rfl,rfl,0,rfl,by omega,fun j h=>by omega⟩,?_⟩
 rintro⟨(i:Int),u⟩ V' ⟨rfl,k,hk,hkle,hall⟩
 replace hk:i=(k:Int):=hk
 subst hk
 refine⟨fun hlt=>?_,fun hge=>?_⟩
 ·have hks:k<s.size:=by
   have:(k:Int)<(s.size:Int):=of_decide_eq_true hlt
   omega
  have hin:(0:Int)≤(k:Int)∧(k:Int)<(s.size:Int):=⟨by omega,by omega⟩
  have e0:(k:Int).toNat=k:=by omega
  have next:(a≤at0 s k∧at0 s k≤b)∨(c≤at0 s k∧at0 s k≤d)→∃ y':LShs [.o (.o (.i .i64))],[LV.v (.int .i64 (IntKind.i64.wrap ((k:Int)+1)))]=LShs.lvs _ y'∧(V'=V'∧∃ i:Nat,y'.1=(i:Int)∧i≤s.size∧∀ j,j<i→(a≤at0 s j∧at0 s j≤b)∨(c≤at0 s j∧at0 s j≤d))∧((s.size:Int)-(y'.1:Int)).toNat<((s.size:Int)-(k:Int)).toNat:=by
   intro hp
   refine⟨(((k+1:Nat):Int),()),by rw [nxt hks hs]; rfl,⟨rfl,k+1,rfl,hks,fun j h2=>?_⟩,?_⟩
   ·by_cases e:j=k
    ·subst e; exact hp
    ·exact hall j (by omega)
   ·show((s.size:Int)-((k+1:Nat):Int)).toNat<((s.size:Int)-(k:Int)).toNat
    omega
  have bad:¬ ((a≤at0 s k∧at0 s k≤b)∨(c≤at0 s k∧at0 s k≤d))→V'=V'∧∃ e,packed [Value.bool false]=.bool e∧(e=true↔(∀ i,i<s.size→(a≤at0 s i∧at0 s i≤b)∨(c≤at0 s i∧at0 s i≤d))∧0<s.size) :=
   fun hn=>⟨rfl,false,rfl,⟨(fun k=>by cases k),fun kk=>absurd (kk.1 k hks) hn⟩⟩
  dsimp only
  rw [e0]
  refine⟨hin,fun h1=>⟨hin,fun h2=>bad ?_,fun h2=>⟨hin,fun h3=>bad ?_,fun h3=>⟨_,rfl,next ?_⟩⟩⟩,fun h1=>⟨hin,fun h2=>⟨hin,fun h3=>bad ?_,fun h3=>⟨hin,fun h4=>bad ?_,fun h4=>⟨_,rfl,next ?_⟩⟩⟩,fun h2=>⟨_,rfl,next ?_⟩⟩⟩
  all_goals (simp only [decide_eq_true_eq,decide_eq_false_iff_not] at *; omega)
 ·have hks:k=s.size:=by
   have:¬ (k:Int)<(s.size:Int):=of_decide_eq_false hge
   omega
  subst hks
  refine⟨rfl,_,rfl,⟨fun hd=>⟨hall,?_⟩,fun hh=>decide_eq_true (by omega)⟩⟩
  have:(s.size:Int) > 0:=of_decide_eq_true hd
  omega
theorem cS_IsWord (V:Know) (s:ByteArray) (hs:s.size≤9223372036854775807):CallX Tryz.prog V 147 [.string s] (fun V' r=>V'=V∧∃ e,r=.bool e∧(e=true↔WordP s)):=by
 refine CallX.of_fits Tryz.mix (fS_IsWord _) fun _=>?_
 simp only [tS_IsWord,T.wp]
 refine(cS_l01All V s 97 122 48 57 hs).mono ?_
 rintro V1 r ⟨rfl,e,rfl,he⟩
 have hw:=word_iff (s:=s)
 refine⟨nofun,e,rfl,fun ht=>⟨fun h12=>?_,fun h12=>⟨by trivial,false,rfl,⟨(fun k=>by cases k),fun k=>?_⟩⟩⟩,fun hf=>⟨by trivial,false,rfl,⟨(fun k=>by cases k),fun k=>?_⟩⟩⟩
 ·obtain⟨g1,g2⟩:=he.1 ht
  have q:(s.size:Int)≤12:=of_decide_eq_true h12
  refine⟨⟨by omega,by omega⟩,by trivial,_,rfl,⟨fun hd=>hw.2 ⟨g1,g2,by omega,of_decide_eq_true hd⟩,fun k=>decide_eq_true (hw.1 k).2.2.2⟩⟩
 ·have q:¬ (s.size:Int)≤12:=of_decide_eq_false h12
  have:=(hw.1 k).2.2.1
  omega
 ·have:=hw.1 k
  rw [he.2 ⟨this.1,this.2.1⟩] at hf
  cases hf
theorem cS_RateOk {V:Know} (hV:HcS V) (x:DRate) (s:SlV) (f:List Nat) (h:LR rI V s x.2.2.2.1 f):CallX Tryz.prog V 103 [qv6 (x.1,x.2.1,x.2.2.1,s,x.2.2.2.2.1,())] (OkPost V (RateOkP x)):=by
 refine CallX.of_fits Tryz.mix (fS_RateOk _) fun _=>?_
 simp only [tS_RateOk,T.wp]
 obtain⟨x0,x1,x2,x3,x4,xu⟩:=x
 replace h:LR rI V s x3 f:=h
 have hn:=h.1
 refine(kS_CurKnown hV x0).mono ?_
 rintro V1 r ⟨le1,rfl⟩
 refine⟨nofun,_,rfl,fun h1=>?_,fun h1=>not_ok le1 fun k=>?_⟩
 rotate_left
 ·have:=k.1
  replace this:known x0=true:=this
  rw [this] at h1; cases h1
 refine(kS_CurKnown (hV.le le1) x1).mono ?_
 rintro V2 r ⟨le2,rfl⟩
 have l2:=le1.trans le2
 refine⟨nofun,_,rfl,fun h2=>⟨fun h3=>?_,fun h3=>not_ok l2 fun k=>?_⟩,fun h2=>not_ok l2 fun k=>?_⟩
 rotate_left
 ·have:(x0.toList == x1.toList)=true:=by simpa using h3
  exact k.2.2.1 (text_eq.1 this)
 ·have:=k.2.1
  replace this:known x1=true:=this
  rw [this] at h2; cases h2
 have hne:x0≠x1:=fun e=>by
  subst e
  simp at h3
 refine(cS_DecOk V2 x2 s x4 x3 f (h.le l2)).mono ?_
 rintro V3 r ⟨rfl,e,rfl,he⟩
 refine⟨nofun,e,rfl,fun h4=>?_,fun h4=>not_ok l2 fun k=>?_⟩
 rotate_left
 ·rw [he.2 k.2.2.2.1] at h4; cases h4
 have hd:=he.1 h4
 refine(cS_IntSign V3 x2 s x3 f (h.le l2) hd.1).mono ?_
 rintro V4 r ⟨rfl,rfl⟩
 refine⟨nofun,_,rfl,fun h5=>⟨l2,_,rfl,?_⟩,fun h5=>not_ok l2 fun k=>?_⟩
 ·have hp:=sgn_pos.1 (of_decide_eq_true h5:sgn (sval x2 x3) > 0)
  refine⟨fun hd2=>⟨h1,h2,hne,hd,hp,?_⟩,fun k=>?_⟩
  ·have:(s.n:Int)≤2:=of_decide_eq_true hd2
   show x3.length≤2
   omega
  ·have:=k.2.2.2.2.2
   replace this:x3.length≤2:=this
   exact decide_eq_true (by omega)
 ·have q:¬ sgn (sval x2 x3) > 0:=of_decide_eq_false h5
  exact q (sgn_pos.2 k.2.2.2.2.1)
theorem cI_RateOk {V:Know} (hV:HcI V) (x:DRate) (s:SlV) (f:List Nat) (h:LR rI V s x.2.2.2.1 f):CallX Tryz.prog V 77 [qv6 (x.1,x.2.1,x.2.2.1,s,x.2.2.2.2.1,())] (OkPost V (RateOkP x)):=by
 refine CallX.of_fits Tryz.mix (fI_RateOk _) fun _=>?_
 simp only [tI_RateOk,T.wp]
 obtain⟨x0,x1,x2,x3,x4,xu⟩:=x
 replace h:LR rI V s x3 f:=h
 have hn:=h.1
 refine(kI_CurKnown hV x0).mono ?_
 rintro V1 r ⟨le1,rfl⟩
 refine⟨nofun,_,rfl,fun h1=>?_,fun h1=>not_ok le1 fun k=>?_⟩
 rotate_left
 ·have:=k.1
  replace this:known x0=true:=this
  rw [this] at h1; cases h1
 refine(kI_CurKnown (hV.le le1) x1).mono ?_
 rintro V2 r ⟨le2,rfl⟩
 have l2:=le1.trans le2
 refine⟨nofun,_,rfl,fun h2=>⟨fun h3=>?_,fun h3=>not_ok l2 fun k=>?_⟩,fun h2=>not_ok l2 fun k=>?_⟩
 rotate_left
 ·have:(x0.toList == x1.toList)=true:=by simpa using h3
  exact k.2.2.1 (text_eq.1 this)
 ·have:=k.2.1
  replace this:known x1=true:=this
  rw [this] at h2; cases h2
 have hne:x0≠x1:=fun e=>by
  subst e
  simp at h3
 refine(cI_DecOk V2 x2 s x4 x3 f (h.le l2)).mono ?_
 rintro V3 r ⟨rfl,e,rfl,he⟩
 refine⟨nofun,e,rfl,fun h4=>?_,fun h4=>not_ok l2 fun k=>?_⟩
 rotate_left
 ·rw [he.2 k.2.2.2.1] at h4; cases h4
 have hd:=he.1 h4
 refine(cI_intSign V3 x2 s x3 f (h.le l2) hd.1.1.1).mono ?_
 rintro V4 r ⟨rfl,rfl⟩
 refine⟨nofun,_,rfl,fun h5=>⟨l2,_,rfl,?_⟩,fun h5=>not_ok l2 fun k=>?_⟩
 ·have hp:=sgn_pos.1 (of_decide_eq_true h5:sgn (sval x2 x3) > 0)
  refine⟨fun hd2=>⟨h1,h2,hne,hd,hp,?_⟩,fun k=>?_⟩
  ·have:(s.n:Int)≤2:=of_decide_eq_true hd2
   show x3.length≤2
   omega
  ·have:=k.2.2.2.2.2
   replace this:x3.length≤2:=this
   exact decide_eq_true (by omega)
 ·have q:¬ sgn (sval x2 x3) > 0:=of_decide_eq_false h5
  exact q (sgn_pos.2 k.2.2.2.2.1)
theorem bookS_body {V:Know} (hV:HcS V) {s:SlV} {l:List DAcct} {f:List Nat} (h:LR rAcct V s l f) (hsz:∀ i (h:i<l.length),l[i].1.size≤9223372036854775807) {K:Know→List Value→Prop} {i:Nat} {N:List LV→Know→Prop} {V':Know} (hV':V.le V') (hi:i<l.length)
  (hno:∀ V2,V'.le V2→¬ AcctAtP l i→K V2 [.bool false]) (hyes:∀ V2,V'.le V2→AcctAtP l i→N [.v (.int .i64 (IntKind.i64.wrap ((i:Int)+1)))] V2) :
  (T.el s.a s.n (i:Int) fun y2=>.ld false (y2.add (Int.toNat (i:Int)*(4:Nat))) (.g [.s,.s,.b,.l]) fun y3=>.rg <|
   .call true 147 [.string y3.fst] (.v (.o .b)) fun y4=>.br (!y4) (.ret [.bool false]) <|
   .call true 148 [qv2 y3.2] (.v (.o .b)) fun y5=>.br (!y5) (.ret [.bool false]) <|
   .br (decide ((i:Int) > (0:Int))) (
    .el s.a s.n (IntKind.i64.wrap ((i:Int)-(1:Int))) fun y6=>.ld true ((y6.add ((IntKind.i64.wrap ((i:Int)-(1:Int))).toNat*(4:Nat))).add (0:Nat)) (.o .s) fun y7 =>
    .br (!Op.bytesLess (ByteArray.toList y7) (ByteArray.toList y3.fst)) (.ret [.bool false]) <| .nx 0 [.v (.int .i64 (IntKind.i64.wrap ((i:Int)+(1:Int))))]) <|
   .nx 0 [.v (.int .i64 (IntKind.i64.wrap ((i:Int)+(1:Int))))]).wp Tryz.prog K V' V' [N]:=by
 simp only [T.wp]
 have hn:=h.1
 have hL:=h.le hV'
 obtain⟨b,o,c,fc,a1,l1,hR,_⟩:=hL.at hi
 obtain⟨c3,g,rfl,hc3⟩:=acct_elim hR
 have e0:(i:Int).toNat=i:=by omega
 have hin:(i:Int)<(s.n:Int):=by omega
 rw [e0]
 refine⟨_,a1,by omega,hin,(l[i].1,l[i].2.1,l[i].2.2.1,c3,()),l1,?_⟩
 refine(cS_IsWord V' l[i].1 (hsz i hi)).mono ?_
 rintro V1 r ⟨rfl,e1,rfl,he1⟩
 refine⟨fun _=>Know.le.refl _,e1,rfl,fun hf=>hno _ (Know.le.refl _) fun k=>?_,fun ht=>?_⟩
 ·obtain⟨_,k1,_⟩:=k
  rw [he1.2 k1] at hf; cases hf
 have w1:=he1.1 (by simpa using ht)
 refine(kS_MoneyOk (hV.le hV') l[i].2.1 l[i].2.2.1 c3 l[i].2.2.2.1 g hc3).mono ?_
 rintro V2 r ⟨le2,e2,rfl,he2⟩
 refine⟨fun _=>le2,e2,rfl,fun hf=>hno _ le2 fun k=>?_,fun ht2=>⟨fun hpos=>?_,fun hz=>?_⟩⟩
 ·obtain⟨_,_,k1,_⟩:=k
  rw [he2.2 k1] at hf; cases hf
 ·have w2:=he2.1 (by simpa using ht2)
  have hp:0<i:=by
   have:(i:Int) > 0:=of_decide_eq_true hpos
   omega
  have wr:IntKind.i64.wrap ((i:Int)-1)=((i-1:Nat):Int):=by
   have:=h.2.2.1
   rw [wrap_i64 (by omega)]; omega
  have e1':((i-1:Nat):Int).toNat=i-1:=by omega
  obtain⟨b2,o2,c2,f2,a2,l2,hR2,_⟩:=hL.part (show i-1<l.length by omega)
  obtain⟨c32,g2,rfl,_⟩:=acct_elim hR2
  rw [wr,e1']
  refine⟨_,a2,by omega,by omega,l[i-1].1,l2 0 1 _ rfl,fun hf=>hno _ le2 fun k=>?_,fun ht3=>⟨_,rfl,hyes _ le2 ⟨hi,w1,w2,fun _=>by simpa [LessP] using ht3⟩⟩⟩
  obtain⟨_,_,_,k1⟩:=k
  have:=k1 hp
  unfold LessP at this
  rw [this] at hf; cases hf
 ·have w2:=he2.1 (by simpa using ht2)
  have hp:¬ 0<i:=by
   have:¬ (i:Int) > 0:=of_decide_eq_false hz
   omega
  exact⟨_,rfl,hyes _ le2 ⟨hi,w1,w2,fun h=>absurd h hp⟩⟩
theorem bookI_body {V:Know} (hV:HcI V) {s:SlV} {l:List DAcct} {f:List Nat} (h:LR rAcct V s l f) (hsz:∀ i (h:i<l.length),l[i].1.size≤9223372036854775807) {K:Know→List Value→Prop} {i:Nat} {N:List LV→Know→Prop} {V':Know} (hV':V.le V') (hi:i<l.length)
  (hno:∀ V2,V'.le V2→¬ AcctAtP l i→K V2 [.bool false]) (hyes:∀ V2,V'.le V2→AcctAtP l i→N [.v (.int .i64 (IntKind.i64.wrap ((i:Int)+1)))] V2) :
  (T.el s.a s.n (i:Int) fun y2=>.ld false (y2.add (Int.toNat (i:Int)*(4:Nat))) (.g [.s,.s,.b,.l]) fun y3=>.rg <|
   .call true 73 [.string y3.fst] (.v (.o .b)) fun y4=>.br (!y4) (.ret [.bool false]) <|
   .call true 74 [qv2 y3.2] (.v (.o .b)) fun y5=>.br (!y5) (.ret [.bool false]) <|
   .br (decide ((i:Int) > (0:Int))) (
    .el s.a s.n (IntKind.i64.wrap ((i:Int)-(1:Int))) fun y6=>.ld true ((y6.add ((IntKind.i64.wrap ((i:Int)-(1:Int))).toNat*(4:Nat))).add (0:Nat)) (.o .s) fun y7 =>
    .br (!Op.bytesLess (ByteArray.toList y7) (ByteArray.toList y3.fst)) (.ret [.bool false]) <| .nx 0 [.v (.int .i64 (IntKind.i64.wrap ((i:Int)+(1:Int))))]) <|
   .nx 0 [.v (.int .i64 (IntKind.i64.wrap ((i:Int)+(1:Int))))]).wp Tryz.prog K V' V' [N]:=by
 simp only [T.wp]
 have hn:=h.1
 have hL:=h.le hV'
 obtain⟨b,o,c,fc,a1,l1,hR,_⟩:=hL.at hi
 obtain⟨c3,g,rfl,hc3⟩:=acct_elim hR
 have e0:(i:Int).toNat=i:=by omega
 have hin:(i:Int)<(s.n:Int):=by omega
 rw [e0]
 refine⟨_,a1,by omega,hin,(l[i].1,l[i].2.1,l[i].2.2.1,c3,()),l1,?_⟩
 refine(cI_IsWord V' l[i].1 (hsz i hi)).mono ?_
 rintro V1 r ⟨rfl,e1,rfl,he1⟩
 refine⟨fun _=>Know.le.refl _,e1,rfl,fun hf=>hno _ (Know.le.refl _) fun k=>?_,fun ht=>?_⟩
 ·obtain⟨_,k1,_⟩:=k
  rw [he1.2 k1] at hf; cases hf
 have w1:=he1.1 (by simpa using ht)
 refine(kI_MoneyOk (hV.le hV') l[i].2.1 l[i].2.2.1 c3 l[i].2.2.2.1 g hc3).mono ?_
 rintro V2 r ⟨le2,e2,rfl,he2⟩
 refine⟨fun _=>le2,e2,rfl,fun hf=>hno _ le2 fun k=>?_,fun ht2=>⟨fun hpos=>?_,fun hz=>?_⟩⟩
 ·obtain⟨_,_,k1,_⟩:=k
  rw [he2.2 k1] at hf; cases hf
 ·have w2:=he2.1 (by simpa using ht2)
  have hp:0<i:=by
   have:(i:Int) > 0:=of_decide_eq_true hpos
   omega
  have wr:IntKind.i64.wrap ((i:Int)-1)=((i-1:Nat):Int):=by
   have:=h.2.2.1
   rw [wrap_i64 (by omega)]; omega
  have e1':((i-1:Nat):Int).toNat=i-1:=by omega
  obtain⟨b2,o2,c2,f2,a2,l2,hR2,_⟩:=hL.part (show i-1<l.length by omega)
  obtain⟨c32,g2,rfl,_⟩:=acct_elim hR2
  rw [wr,e1']
  refine⟨_,a2,by omega,by omega,l[i-1].1,l2 0 1 _ rfl,fun hf=>hno _ le2 fun k=>?_,fun ht3=>⟨_,rfl,hyes _ le2 ⟨hi,w1,w2,fun _=>by simpa [LessP] using ht3⟩⟩⟩
  obtain⟨_,_,_,k1⟩:=k
  have:=k1 hp
  unfold LessP at this
  rw [this] at hf; cases hf
 ·have w2:=he2.1 (by simpa using ht2)
  have hp:¬ 0<i:=by
   have:¬ (i:Int) > 0:=of_decide_eq_false hz
   omega
  exact⟨_,rfl,hyes _ le2 ⟨hi,w1,w2,fun h=>absurd h hp⟩⟩
end Go.Proofs.YtpdfdkccgkieoaaGreatDoor
