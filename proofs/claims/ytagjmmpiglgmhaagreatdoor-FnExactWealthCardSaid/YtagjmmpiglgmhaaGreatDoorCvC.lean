/-
  Conversions of amounts into a currency: summed exactly, rounded once; in the program and in the reference.
-/
import Derived.Test.YtagjmmpiglgmhaaGreatDoorCv
namespace Go.Proofs.YtagjmmpiglgmhaaGreatDoor
open Sx
set_option maxRecDepth 100000
abbrev zeroM:DMoney:=(ByteArray.empty,false,[],())
abbrev zeroR:DRat:=(false,[],[],())
abbrev nought:DRat:=(false,[],[((1:Int),())],())
def FormP (p:ByteArray) (l:List DRate) (to:ByteArray) (m:Int):Prop:=RatesOkP p l∧known to=true∧RmP m
def MonsP (ms:List DMoney) (k:Nat):Prop:=∀ (i:Nat) (h:i<ms.length),i<k→MoneyOkP ms[i].1 ms[i].2.1 ms[i].2.2.1
def HowsP (p:ByteArray) (l:List DRate) (ms:List DMoney) (to:ByteArray) (k:Nat):Prop:=∀ (i:Nat) (h:i<ms.length),i<k→how p l ms[i].1 to≠0
def SumStep (p:ByteArray) (l:List DRate) (to:ByteArray) (x:DRat) (m:DMoney) (y:DRat) (e:Bool):Prop :=
 ∃ z,RedS (exS p l m to) (exD p l m to) z true∧RedS (sval x.1 x.2.1*valN z.2.2.1+sval z.1 z.2.1*valN x.2.2.1) (valN x.2.2.1*valN z.2.2.1) y e
def Run (p:ByteArray) (l:List DRate) (to:ByteArray):List DMoney→DRat→DRat→Bool→Prop
 | [],x,y,g=>y=x∧g=true
 | m :: r,x,y,g=>∃ z e,SumStep p l to x m z e∧((e=true∧Run p l to r z y g)∨(e=false∧g=false))
theorem step_inj {p:ByteArray} {l:List DRate} {to:ByteArray} (G:RatesG l) {x:DRat} {m:DMoney} (hx:0<valN x.2.2.1) {y y':DRat} {e e':Bool} (h:SumStep p l to x m y e) (h':SumStep p l to x m y' e'):y=y'∧e=e':=by
 obtain⟨z,a,b⟩:=h
 obtain⟨z',a',b'⟩:=h'
 have hD:=(unitD_bd G p m.1 to).1
 obtain⟨rfl,_⟩:=redS_inj hD a a'
 obtain⟨_,zp,_⟩:=redS_val hD a
 exact redS_inj (Int.mul_pos hx zp) b b'
theorem step_ok {p:ByteArray} {l:List DRate} {to:ByteArray} (G:RatesG l) {x:DRat} {m:DMoney} (hx:0<valN x.2.2.1) {y:DRat} (h:SumStep p l to x m y true):RatOkP y.1 y.2.1 y.2.2.1:=by
 obtain⟨z,a,b⟩:=h
 obtain⟨_,zp,_⟩:=redS_val (unitD_bd G p m.1 to).1 a
 exact redS_ok (Int.mul_pos hx zp) b rfl
theorem den_pos {x:DRat} (h:RatOkP x.1 x.2.1 x.2.2.1):0<valN x.2.2.1:=(can_pos h.2.1.1).1 h.2.2.1
theorem run_inj {p:ByteArray} {l:List DRate} {to:ByteArray} (G:RatesG l):∀ {ms:List DMoney} {x y y':DRat} {g g':Bool},0<valN x.2.2.1→Run p l to ms x y g→Run p l to ms x y' g'→g=g'∧(g=true→y=y')
 | [],_,_,_,_,_,_,⟨a,b⟩,⟨a',b'⟩=>⟨b.trans b'.symm,fun _=>a.trans a'.symm⟩
 | m :: r,x,y,y',g,g',hx,⟨z,e,s,h⟩,⟨z',e',s',h'⟩=>by
  obtain⟨rfl,rfl⟩:=step_inj G hx s s'
  rcases h with ⟨he,hr⟩ | ⟨he,rfl⟩
  ·rcases h' with ⟨_,hr'⟩ | ⟨he',_⟩
   ·subst he
    exact run_inj G (den_pos (step_ok G hx s)) hr hr'
   ·rw [he] at he'; cases he'
  ·rcases h' with ⟨he',_⟩ | ⟨_,rfl⟩
   ·rw [he] at he'; cases he'
   ·exact⟨rfl,fun k=>by cases k⟩
theorem run_ok {p:ByteArray} {l:List DRate} {to:ByteArray} (G:RatesG l):∀ {ms:List DMoney} {x y:DRat},RatOkP x.1 x.2.1 x.2.2.1→Run p l to ms x y true→RatOkP y.1 y.2.1 y.2.2.1
 | [],_,_,hx,⟨a,_⟩=>by rw [a]; exact hx
 | m :: r,x,y,hx,⟨z,e,s,h⟩=>by
  rcases h with ⟨rfl,hr⟩ | ⟨_,k⟩
  ·exact run_ok G (step_ok G (den_pos hx) s) hr
  ·cases k
def ConvP (p:ByteArray) (l:List DRate) (ms:List DMoney) (to:ByteArray) (m:Int) (mo:DMoney) (ra:DRat) (code:Int):Prop :=
 (¬ (FormP p l to m∧MonsP ms ms.length)∧mo=zeroM∧ra=zeroR∧code=1) ∨
 ((FormP p l to m∧MonsP ms ms.length)∧¬ HowsP p l ms to ms.length∧mo=zeroM∧ra=zeroR∧code=2) ∨
 ((FormP p l to m∧MonsP ms ms.length)∧HowsP p l ms to ms.length∧∃ x,Run p l to ms nought x true∧∃ ok,OutP to m x mo ra ok∧code=if ok=true then 0 else 3) ∨
 ((FormP p l to m∧MonsP ms ms.length)∧HowsP p l ms to ms.length∧(∃ x,Run p l to ms nought x false)∧mo=zeroM∧ra=zeroR∧code=3)
theorem nought_ok:RatOkP nought.1 nought.2.1 nought.2.2.1:=zero_ok
theorem convP_inj {p:ByteArray} {l:List DRate} {ms:List DMoney} {to:ByteArray} {m:Int} {mo mo':DMoney} {ra ra':DRat} {c c':Int} (h:ConvP p l ms to m mo ra c) (h':ConvP p l ms to m mo' ra' c'):mo=mo'∧ra=ra'∧c=c':=by
 rcases h with ⟨n,a,b,k⟩ | ⟨f,n,a,b,k⟩ | ⟨f,w,x,r,ok,o,k⟩ | ⟨f,w,⟨x,r⟩,a,b,k⟩
 ·rcases h' with ⟨_,a',b',k'⟩ | ⟨f',_⟩ | ⟨f',_⟩ | ⟨f',_⟩
  ·exact⟨a.trans a'.symm,b.trans b'.symm,k.trans k'.symm⟩
  all_goals exact absurd f' n
 ·rcases h' with ⟨n',_⟩ | ⟨_,_,a',b',k'⟩ | ⟨_,w',_⟩ | ⟨_,w',_⟩
  ·exact absurd f n'
  ·exact⟨a.trans a'.symm,b.trans b'.symm,k.trans k'.symm⟩
  all_goals exact absurd w' n
 ·have G:=ratesG f.1.1
  rcases h' with ⟨n',_⟩ | ⟨_,n',_⟩ | ⟨_,_,x',r',ok',o',k'⟩ | ⟨_,_,⟨x',r'⟩,_⟩
  ·exact absurd f n'
  ·exact absurd w n'
  ·obtain⟨_,e⟩:=run_inj G (den_pos nought_ok) r r'
   obtain rfl:=e rfl
   obtain⟨e1,e2,e3⟩:=outP_inj (run_ok G nought_ok r) o o'
   exact⟨e1,e2,by rw [k,k',e3]⟩
  ·obtain⟨e,_⟩:=run_inj G (den_pos nought_ok) r r'
   cases e
 ·have G:=ratesG f.1.1
  rcases h' with ⟨n',_⟩ | ⟨_,n',_⟩ | ⟨_,_,x',r',_⟩ | ⟨_,_,_,a',b',k'⟩
  ·exact absurd f n'
  ·exact absurd w n'
  ·obtain⟨e,_⟩:=run_inj G (den_pos nought_ok) r r'
   cases e
  ·exact⟨a.trans a'.symm,b.trans b'.symm,k.trans k'.symm⟩
theorem drop_at {α:Type} {l:List α} {i:Nat} (h:i<l.length):l.drop i=l[i] :: l.drop (i+1):=List.drop_eq_getElem_cons h
theorem ms_end {ms:List DMoney} {i:Nat} {P:Nat→Prop} (hi:i≤ms.length) (hn:¬ i<ms.length) (h:P i):P ms.length:=by
 have:i=ms.length:=by omega
 rwa [← this]
theorem mons_succ {ms:List DMoney} {i:Nat} (hi:i<ms.length) (h:MonsP ms i) (k:MoneyOkP ms[i].1 ms[i].2.1 ms[i].2.2.1):MonsP ms (i+1):=by
 intro j hj hji
 by_cases e:j=i
 ·subst e; exact k
 ·exact h j hj (by omega)
theorem hows_succ {p:ByteArray} {l:List DRate} {to:ByteArray} {ms:List DMoney} {i:Nat} (hi:i<ms.length) (h:HowsP p l ms to i) (k:how p l ms[i].1 to≠0):HowsP p l ms to (i+1):=by
 intro j hj hji
 by_cases e:j=i
 ·subst e; exact k
 ·exact h j hj (by omega)
theorem money_elim {V:Know} {c:Scs [.s,.b,.l]} {x:DMoney} {f:List Nat} (h:rMoney.R V c x f):∃ s g,c=(x.1,x.2.1,s,())∧LR rI V s x.2.2.1 g:=by
 obtain⟨c0,c1,c2,cu⟩:=c
 obtain⟨⟨e0,_⟩,e1,g,r,rfl,hs,_⟩:=h
 replace e0:c0=x.1:=e0
 replace e1:c1=x.2.1:=e1
 subst e0; subst e1
 exact⟨c2,g,rfl,hs⟩
theorem LR.mon {V:Know} {s:SlV} {ms:List DMoney} {f:List Nat} (h:LR rMoney V s ms f) {i:Nat} (hi:i<ms.length):∃ ad t g,s.a=some ad∧loadV V (ad.add (i*3)) 3=some [.string ms[i].1,.bool ms[i].2.1,.slice t.a t.n t.c]∧LR rI V t ms[i].2.2.1 g:=by
 obtain⟨b1,o1,c1,fc,a1,l1,hR,_⟩:=h.at hi
 obtain⟨t,g,rfl,L⟩:=money_elim hR
 exact⟨_,t,g,a1,l1,L⟩
abbrev errT:Nat:=142
abbrev ChkPost (V:Know) (p:ByteArray) (l:List DRate) (ms:List DMoney) (to:ByteArray) (m:Int):Know→Value→Prop:=fun V' r=>V.le V'∧∃ y:Option (Nat × Int),r=Sc.val .e y ∧
 ((¬ (FormP p l to m∧MonsP ms ms.length)∧y=some (errT,1))∨((FormP p l to m∧MonsP ms ms.length)∧¬ HowsP p l ms to ms.length∧y=some (errT,2))∨((FormP p l to m∧MonsP ms ms.length)∧HowsP p l ms to ms.length∧y=none))
theorem cI_checkConversion {V:Know} (hV:HcI V) (p:ByteArray) (s:SlV) (l:List DRate) (f:List Nat) (h:LR rRate V s l f) (t:SlV) (ms:List DMoney) (g:List Nat) (hm:LR rMoney V t ms g) (to:ByteArray) (m:Int) :
  CallX Tryz.prog V gI_checkConversion [Sh1.val (.g [.s,.l]) (p,s,()),Sc.val .l t,.string to,.int .i64 m] (ChkPost V p l ms to m):=by
 refine CallX.of_fits Tryz.mix (fI_checkConversion _ _ _ _) fun _=>?_
 have hn:=hm.1
 have h63:=hm.2.2.1
 simp only [tI_checkConversion,T.wp]
 refine⟨fun y V'=>V.le V'∧((y.1:Bool)=true↔FormP p l to m),?_,?_⟩
 ·refine(cI_RatesOk hV p s l f h).mono ?_
  rintro V1 _ ⟨le1,e,rfl,he⟩
  refine⟨nofun,e,rfl,fun ht=>(kI_CurKnown (hV.le le1) to).mono ?_,fun hf=>⟨_,rfl,(false,()),rfl,le1,nofun,fun k=>?_⟩⟩
  ·rintro V2 _ ⟨le2,rfl⟩
   have l2:=le1.trans le2
   refine⟨nofun,_,rfl,fun ht2=>(rI_isMode V2 m).mono ?_,fun hf=>⟨_,rfl,(false,()),rfl,l2,nofun,fun k=>?_⟩⟩
   ·rintro V3 _ ⟨rfl,rfl⟩
    refine⟨nofun,_,rfl,_,rfl,(_,()),rfl,l2,fun k=>⟨he.1 ht,ht2,(of_decide_eq_true k:0≤m∧m≤6)⟩,fun k=>decide_eq_true (show 0≤m∧m≤6 from k.2.2)⟩
   ·rw [k.2.1] at hf; cases hf
  ·rw [he.2 k.1] at hf; cases hf
 rintro⟨v,u⟩ V1 ⟨le1,hv⟩
 replace hv:v=true↔FormP p l to m:=hv
 refine⟨fun y V'=>V1.le V'∧∃ i:Nat,y.2.1=(i:Int)∧i≤ms.length∧((y.1:Bool)=true↔(FormP p l to m∧MonsP ms i)),fun y=>((ms.length:Int)-(y.2.1:Int)).toNat,⟨(v,(0:Int),()),rfl,Know.le.refl _,0,rfl,by omega,hv.trans ⟨fun k=>⟨k,fun i _ h=>by omega⟩,fun k=>k.1⟩⟩,?_⟩
 rintro⟨w,(i:Int),u2⟩ V2 ⟨le2,k,hk,hkle,hw⟩
 replace hk:i=(k:Int):=hk
 replace hw:w=true↔(FormP p l to m∧MonsP ms k):=hw
 subst hk
 have l2:=le1.trans le2
 refine⟨fun hlt=>?_,fun hge=>?_⟩
 ·have hkl:k<ms.length:=by
   have:(k:Int)<(t.n:Int):=of_decide_eq_true hlt
   omega
  obtain⟨ad,ts,gg,a1,ld,L⟩:=(hm.le l2).mon hkl
  refine⟨ad,a1,(by omega:(0:Int)≤(k:Int)),(by omega:(k:Int)<(t.n:Int)),(ms[k].1,ms[k].2.1,ts,()),ld,fun ht=>(cI_MoneyOk (hV.le l2) ms[k].1 ms[k].2.1 ts ms[k].2.2.1 gg L).mono ?_,fun hf=>?_⟩
  ·rintro V3 _ ⟨le3,e,rfl,he⟩
   refine⟨nofun,e,rfl,_,rfl,(e,((k+1:Nat):Int),()),by rw [nxt hkl (by omega)]; rfl,⟨le2.trans le3,k+1,rfl,hkl,fun he1=>⟨(hw.1 ht).1,mons_succ hkl (hw.1 ht).2 (he.1 he1)⟩,fun kk=>he.2 (kk.2 k hkl (by omega))⟩,?_⟩
   show((ms.length:Int)-((k+1:Nat):Int)).toNat<((ms.length:Int)-(k:Int)).toNat
   omega
  ·refine⟨_,rfl,(false,((k+1:Nat):Int),()),by rw [nxt hkl (by omega)]; rfl,⟨le2,k+1,rfl,hkl,nofun,fun kk=>?_⟩,?_⟩
   ·rw [hw.2 ⟨kk.1,fun j hj hji=>kk.2 j hj (by omega)⟩] at hf; cases hf
   ·show((ms.length:Int)-((k+1:Nat):Int)).toNat<((ms.length:Int)-(k:Int)).toNat
    omega
 have hkl:k=ms.length:=by
  have:¬ (k:Int)<(t.n:Int):=of_decide_eq_false hge
  omega
 subst hkl
 refine⟨fun hb=>⟨l2,some (errT,1),rfl,.inl ⟨fun kk=>?_,rfl⟩⟩,fun hb=>?_⟩
 ·rw [hw.2 kk] at hb; cases hb
 have ok:=hw.1 (by simpa using hb)
 refine⟨fun y V'=>V2.le V'∧∃ i:Nat,y.1=(i:Int)∧i≤ms.length∧HowsP p l ms to i,fun y=>((ms.length:Int)-(y.1:Int)).toNat,⟨((0:Int),()),rfl,Know.le.refl _,0,rfl,by omega,fun i _ h=>by omega⟩,?_⟩
 rintro⟨(i:Int),u3⟩ V3 ⟨le3,k,hk,hkle,hh⟩
 replace hk:i=(k:Int):=hk
 subst hk
 have l3:=l2.trans le3
 refine⟨fun hlt=>?_,fun hge=>?_⟩
 ·have hkl:k<ms.length:=by
   have:(k:Int)<(t.n:Int):=of_decide_eq_true hlt
   omega
  obtain⟨ad,ts,gg,a1,ld,L⟩:=(hm.le l3).mon hkl
  refine⟨ad,a1,(by omega:(0:Int)≤(k:Int)),(by omega:(k:Int)<(t.n:Int)),(ms[k].1,ms[k].2.1,ts,()),ld,(cI_RateHow (hV.le l3) p s l f (h.le l3) ms[k].1 to).mono ?_⟩
  rintro V4 _ ⟨le4,rfl⟩
  refine⟨nofun,_,rfl,fun hz=>⟨l3.trans le4,some (errT,2),rfl,.inr (.inl ⟨ok,fun kk=>kk k hkl hkl (by simpa using hz),rfl⟩)⟩,fun hz=>⟨_,rfl,(((k+1:Nat):Int),()),by rw [nxt hkl (by omega)]; rfl,⟨le3.trans le4,k+1,rfl,hkl,hows_succ hkl hh (by simpa using hz)⟩,?_⟩⟩
  show((ms.length:Int)-((k+1:Nat):Int)).toNat<((ms.length:Int)-(k:Int)).toNat
  omega
 ·have hkl:¬ k<ms.length:=by
   have:¬ (k:Int)<(t.n:Int):=of_decide_eq_false hge
   omega
  exact⟨l3,none,rfl,.inr (.inr ⟨ok,ms_end (P:=HowsP p l ms to) hkle hkl hh,rfl⟩)⟩
abbrev CvtPost (V:Know) (p:ByteArray) (l:List DRate) (ms:List DMoney) (to:ByteArray) (m:Int):Know→Value→Prop:=fun V' r=>V.le V'∧∃ c mo f c' ra g y code,r=.tuple #[Sh1.val (.g [.s,.b,.l]) c,Sh1.val (.g [.b,.l,.l]) c',Sc.val .e y] ∧
 rMoney.R V' c mo f∧rRat.R V' c' ra g∧Own V V' (f++g)∧ConvP p l ms to m mo ra code∧((y=none∧code=0)∨y=some (errT,code))
theorem zeroIx (V:Know):CallX Tryz.prog V gI_RatZero [] (fun V' r=>V.le V'∧∃ c f,r=Sh1.val (.g [.b,.l,.l]) c∧rRat.R V' c nought f):=zeroI V
theorem cI_convert {V:Know} (hV:HcI V) (p:ByteArray) (s:SlV) (l:List DRate) (f:List Nat) (h:LR rRate V s l f) (t:SlV) (ms:List DMoney) (g:List Nat) (hm:LR rMoney V t ms g) (to:ByteArray) (m:Int) :
  CallX Tryz.prog V gI_convert [Sh1.val (.g [.s,.l]) (p,s,()),Sc.val .l t,.string to,.int .i64 m] (CvtPost V p l ms to m):=by
 refine CallX.of_fits Tryz.mix (fI_convert _ _ _ _) fun _=>?_
 have hn:=hm.1
 have h63:=hm.2.2.1
 simp only [tI_convert,T.wp]
 refine(cI_checkConversion hV p s l f h t ms g hm to m).mono ?_
 rintro V1 _ ⟨le1,y,rfl,hy⟩
 refine⟨nofun,y,rfl,fun ey=>⟨nofun,fun _=>?_⟩,fun z ez=>⟨fun _=>?_,nofun⟩⟩
 rotate_left
 ·have fin:∀ code,y=some (errT,code)→ConvP p l ms to m zeroM zeroR code→CvtPost V p l ms to m V1 (.tuple #[Sh1.val (.g [.s,.b,.l]) (ByteArray.empty,false,⟨none,0,0⟩,()),Sh1.val (.g [.b,.l,.l]) (false,⟨none,0,0⟩,⟨none,0,0⟩,()),Sc.val .e y]) :=
   fun code e hc=>⟨le1,_,_,_,_,_,_,y,code,rfl,money_0,rat_0,Own.nil,hc,.inr e⟩
  rcases hy with ⟨k,e⟩ | ⟨k,k2,e⟩ | ⟨_,_,e⟩
  ·have:=fin 1 e (.inl ⟨k,rfl,rfl,rfl⟩)
   rw [ez] at this
   exact this
  ·have:=fin 2 e (.inr (.inl ⟨k,k2,rfl,rfl,rfl⟩))
   rw [ez] at this
   exact this
  ·rw [e] at ez; cases ez
 rcases hy with ⟨_,e⟩ | ⟨_,_,e⟩ | ⟨ok,hw,_⟩
 ·rw [e] at ey; cases ey
 ·rw [e] at ey; cases ey
 have G:=ratesG ok.1.1
 refine(zeroIx V1).mono ?_
 rintro V2 _ ⟨le2,c2,f2,rfl,R2⟩
 refine⟨nofun,c2,rfl,?_⟩
 have l2:=le1.trans le2
 have bad:∀ V',V.le V'→(∃ x,Run p l to ms nought x false)→CvtPost V p l ms to m V' (.tuple #[Sh1.val (.g [.s,.b,.l]) (ByteArray.empty,false,⟨none,0,0⟩,()),Sh1.val (.g [.b,.l,.l]) (false,⟨none,0,0⟩,⟨none,0,0⟩,()),Sc.val .e (some (errT,3))]) :=
  fun V' le hx=>⟨le,_,_,_,_,_,_,_,3,rfl,money_0,rat_0,Own.nil,.inr (.inr (.inr ⟨ok,hw,hx,rfl,rfl,rfl⟩)),.inr rfl⟩
 refine⟨fun y V'=>V2.le V'∧∃ (i:Nat) (x:DRat) (fx:List Nat),y.1=(i:Int)∧i≤ms.length∧rRat.R V' y.2 x fx∧RatOkP x.1 x.2.1 x.2.2.1∧∀ y g,Run p l to (ms.drop i) x y g→Run p l to ms nought y g,fun y=>((ms.length:Int)-(y.1:Int)).toNat,
  ⟨((0:Int),c2),rfl,Know.le.refl _,0,nought,f2,rfl,by omega,R2,nought_ok,fun y g h=>h⟩,?_⟩
 rintro⟨(i:Int),c3⟩ V3 ⟨le3,k,x,fx,hk,hkle,R3,hx,hr⟩
 replace hk:i=(k:Int):=hk
 replace R3:rRat.R V3 c3 x fx:=R3
 subst hk
 have l3:=l2.trans le3
 refine⟨fun hlt=>?_,fun hge=>?_⟩
 ·have hkl:k<ms.length:=by
   have:(k:Int)<(t.n:Int):=of_decide_eq_true hlt
   omega
  obtain⟨ad,ts,gg,a1,ld,L⟩:=(hm.le l3).mon hkl
  have mok:=ok.2 k hkl hkl
  have hwk:=hw k hkl hkl
  rw [how_ok ok.1.1 mok.1 ok.1.2.1] at hwk
  obtain⟨b1,b2,b3⟩:=ex_bd G p to ms[k] mok
  refine⟨ad,a1,(by omega:(0:Int)≤(k:Int)),(by omega:(k:Int)<(t.n:Int)),(ms[k].1,ms[k].2.1,ts,()),ld,(cI_Exact (hV.le l3) p s l f (h.le l3) ms[k] ts gg L to ok.1.1 mok ok.1.2.1 hwk).mono ?_⟩
  rintro V4 r4 h4
  obtain⟨le4,c4,z,f4,rfl,R4,O4,hz⟩:=ratP_fit b2 b1 b3 h4
  obtain⟨a5,b5,g5,g5',rfl,A5,B5,rfl⟩:=rat_elim (rRat.le R3 le4)
  obtain⟨a6,b6,g6,g6',rfl,A6,B6,rfl⟩:=rat_elim R4
  refine⟨nofun,(_,true,()),rfl,fun _=>(cI_RatAdd V4 x.1 a5 b5 z.1 a6 b6 x.2.1 x.2.2.1 z.2.1 z.2.2.1 _ _ _ _ A5 B5 A6 B6 hx (redS_ok b2 hz rfl)).mono ?_,nofun⟩
  rintro V5 _ ⟨le5,c5,y5,e5,f5,rfl,R5,O5,hy5⟩
  have st:SumStep p l to x ms[k] y5 e5:=⟨z,hz,hy5⟩
  have l5:=(l3.trans le4).trans le5
  refine⟨nofun,(c5,e5,()),rfl,fun hf=>bad V5 l5 ⟨y5,hr _ _ ?_⟩,fun ht=>⟨_,rfl,(((k+1:Nat):Int),c5),by rw [nxt hkl (by omega)]; rfl,⟨(le3.trans le4).trans le5,k+1,y5,f5,rfl,hkl,R5,?_,fun yy gg hrun=>hr _ _ ?_⟩,?_⟩⟩
  ·rw [drop_at hkl]
   exact⟨y5,e5,st,.inr ⟨by simpa using hf,rfl⟩⟩
  ·obtain rfl:e5=true:=by simpa using ht
   exact step_ok G (den_pos hx) st
  ·rw [drop_at hkl]
   exact⟨y5,e5,st,.inl ⟨by simpa using ht,hrun⟩⟩
  ·show((ms.length:Int)-((k+1:Nat):Int)).toNat<((ms.length:Int)-(k:Int)).toNat
   omega
 ·have hkl:k=ms.length:=by
   have:¬ (k:Int)<(t.n:Int):=of_decide_eq_false hge
   omega
  subst hkl
  have hrun:Run p l to ms nought x true:=hr x true (by rw [List.drop_length]; exact⟨rfl,rfl⟩)
  obtain⟨a5,b5,g5,g5',rfl,A5,B5,rfl⟩:=rat_elim R3
  refine(cI_RatMoney (hV.le l3) to x a5 b5 _ _ A5 B5 hx m ok.1.2.2 ok.1.2.1).mono ?_
  rintro V4 _ ⟨le4,c4,mo,f4,c4',ra,g4,e4,rfl,R4,R4',O4,hout⟩
  have l4:=l3.trans le4
  refine⟨nofun,(c4,c4',e4,()),rfl,fun hf=>?_,fun ht=>⟨l4,c4,mo,f4,c4',ra,g4,none,0,rfl,R4,R4',O4.pre l3,.inr (.inr (.inl ⟨ok,hw,x,hrun,e4,hout,by rw [if_pos (by simpa using ht)]⟩)),.inl ⟨rfl,rfl⟩⟩⟩
  have e0:e4=false:=by simpa using hf
  subst e0
  obtain⟨e,q,hq,⟨_,hb,_⟩ | ⟨_,_,hmo,hra⟩⟩:=id hout
  ·cases hb
  subst hmo
  subst hra
  exact⟨l4,_,_,_,_,_,_,_,3,rfl,money_0,rat_0,Own.nil,.inr (.inr (.inl ⟨ok,hw,x,hrun,false,hout,rfl⟩)),.inr rfl⟩
end Go.Proofs.YtagjmmpiglgmhaaGreatDoor
