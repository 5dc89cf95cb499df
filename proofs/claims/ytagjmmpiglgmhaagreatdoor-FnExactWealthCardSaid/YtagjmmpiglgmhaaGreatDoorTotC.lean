/-
  Whole numbers as fractions, the sum of a book, the remainder and the total of a currency; the program and the reference.
-/
import Derived.Test.YtagjmmpiglgmhaaGreatDoorTotB
namespace Go.Proofs.YtagjmmpiglgmhaaGreatDoor
open Sx
set_option maxRecDepth 100000
theorem cI_IntOf1 (V:Know):CallX Tryz.prog V gI_IntOf [.int .i64 1] (fun V' r=>V.le V'∧∃ s f,r=Sh1.val (.g [.b,.l]) (false,s,())∧LR rI V' s [(1,())] f):=by
 refine CallX.of_fits Tryz.mix (fI_IntOf _) fun _=>?_
 simp only [tI_IntOf,T.wp]
 refine⟨fun h=>?_,fun _=>?_⟩
 ·have:(1:Int)<0:=of_decide_eq_true h
  omega
 rw [show IntKind.u64.wrap 1=1 from wrap_u64 (by omega)]
 refine(cI_natOf V 1 (by omega)).mono ?_
 rintro V1 _ ⟨le1,s,o,f,rfl,L,_,C,v,_⟩
 have e:o=[(1,())]:=can_inj C ⟨lims_one (by decide),.inr (by decide)⟩ (by rw [v,valN_one])
 subst e
 exact⟨nofun,s,rfl,le1,s,f,rfl,L⟩
theorem cS_IntOf1 (V:Know):CallX Tryz.prog V gS_IntOf [.int .i64 1] (fun V' r=>V.le V'∧∃ s f,r=Sh1.val (.g [.b,.l]) (false,s,())∧LR rI V' s [(1,())] f):=by
 refine CallX.of_fits Tryz.mix (fS_IntOf _) fun _=>?_
 simp only [tS_IntOf,T.wp]
 refine⟨fun h=>?_,fun _=>⟨fun h=>?_,fun _=>?_⟩⟩
 ·have:(1:Int)=-9223372036854775808:=by simp at h
  omega
 ·have:(1:Int)<0:=of_decide_eq_true h
  omega
 refine(cS_NatOf V 1 (by omega)).mono ?_
 rintro V1 _ ⟨le1,s,o,f,rfl,L,_,C,v,_⟩
 have e:o=[(1,())]:=can_inj C ⟨lims_one (by decide),.inr (by decide)⟩ (by rw [v,valN_one])
 subst e
 refine⟨nofun,s,rfl,(cS_l04Make V1 false s _ f L C (by simp)).mono ?_⟩
 rintro V2 _ ⟨le2,s2,f2,rfl,L2,_⟩
 exact⟨nofun,(false,s2,()),rfl,le1.trans le2,s2,f2,rfl,L2⟩
theorem oneI_ok:IntOkP false [((1:Int),())]:=⟨⟨⟨lims_one (by decide),.inr (by decide)⟩,by simp⟩,fun h=>by cases h⟩
theorem cI_intsOk (V:Know) (c0:Bool) (c1:SlV) (d0:Bool) (d1:SlV) (a b:List Lim) (f g:List Nat) (h:LR rI V c1 a f) (h':LR rI V d1 b g) (ha:IntOkP c0 a) (hb:IntOkP d0 b) :
  CallX Tryz.prog V gI_intsOk [Sh1.val (.g [.b,.l]) (c0,c1,()),Sh1.val (.g [.b,.l]) (d0,d1,())] (fun V' r=>V'=V∧r=.bool true):=by
 refine CallX.of_fits Tryz.mix (fI_intsOk _ _) fun _=>?_
 simp only [tI_intsOk,T.wp]
 refine(cI_IntOk V c0 c1 a f h).mono ?_
 rintro V1 _ ⟨rfl,e,rfl,he⟩
 have he:=he.2 ha
 subst he
 refine⟨nofun,true,rfl,fun _=>(cI_IntOk V1 d0 d1 b g h').mono ?_,nofun⟩
 rintro V2 _ ⟨rfl,e,rfl,he⟩
 have he:=he.2 hb
 subst he
 exact⟨nofun,true,rfl,rfl,rfl⟩
theorem cI_RatInt (V:Know) (c0:Bool) (s:SlV) (n:List Lim) (f:List Nat) (h:LR rI V s n f) (hn:IntOkP c0 n):CallX Tryz.prog V gI_RatInt [Sh1.val (.g [.b,.l]) (c0,s,())] (RatPost V (sval c0 n) 1):=by
 refine CallX.of_fits Tryz.mix (fI_RatInt _) fun _=>?_
 simp only [tI_RatInt,T.wp]
 refine(cI_IntOf1 V).mono ?_
 rintro V1 _ ⟨le1,s1,f1,rfl,L1⟩
 have key:CallX Tryz.prog V1 gI_RatMake [Sh1.val (.g [.b,.l]) (c0,s,()),Sh1.val (.g [.b,.l]) (false,s1,())] (RatPost V1 (sval c0 n) 1):=by
  have hL:=h.le le1
  have hs:=hL.1
  have hs1:=L1.1
  have hlen:=hn.1.2
  refine CallX.of_fits Tryz.mix (fI_RatMake _ _) fun _=>?_
  simp only [tI_RatMake,T.wp]
  refine(cI_intsOk V1 c0 s false s1 n _ f f1 hL L1 hn oneI_ok).mono ?_
  rintro V2 _ ⟨rfl,rfl⟩
  refine⟨nofun,true,rfl,nofun,fun _=>⟨fun hz=>?_,fun _=>(cI_signed V2 _ s).mono ?_⟩⟩
  ·have:(s1.n:Int)=0:=by simpa using hz
   simp at hs1
   omega
  rintro V3 _ ⟨rfl,rfl⟩
  have e:((!c0 == false) && decide ((s.n:Int) > 0))=c0:=by
   cases c0 with
   | false=>rfl
   | true =>
    have:=hn.2 rfl
    have q:decide ((s.n:Int) > 0)=true:=decide_eq_true (by omega)
    rw [q]; rfl
  refine⟨fun _=>Know.le.refl _,(c0,s,()),by rw [e]; rfl,(cI_reduce V3 c0 s s1 n _ f f1 hL L1 hn.1.1 oneI_ok.1.1 (by rw [valN_one]; decide) (by omega) (by simp)).mono ?_⟩
  rintro V4 _ ⟨le4,c,x,e4,f4,rfl,R4,O4,hx⟩
  rw [valN_one] at hx
  exact⟨fun _=>le4,(c,e4,()),rfl,le4,c,x,e4,f4,rfl,R4,O4,hx⟩
 refine⟨fun _=>le1,(false,s1,()),rfl,key.mono ?_⟩
 rintro V4 _ ⟨le4,c,x,e4,f4,rfl,R4,O4,hx⟩
 exact⟨fun _=>le4,(c,e4,()),rfl,le1.trans le4,c,x,e4,f4,rfl,R4,O4.pre le1,hx⟩
theorem cS_RatInt (V:Know) (c0:Bool) (s:SlV) (n:List Lim) (f:List Nat) (h:LR rI V s n f) (hn:IntOkP c0 n):CallX Tryz.prog V gS_RatInt [Sh1.val (.g [.b,.l]) (c0,s,())] (RatPost V (sval c0 n) 1):=by
 refine CallX.of_fits Tryz.mix (fS_RatInt _) fun _=>?_
 simp only [tS_RatInt,T.wp]
 refine(cS_IntOf1 V).mono ?_
 rintro V1 _ ⟨le1,s1,f1,rfl,L1⟩
 have key:CallX Tryz.prog V1 gS_RatMake [Sh1.val (.g [.b,.l]) (c0,s,()),Sh1.val (.g [.b,.l]) (false,s1,())] (RatPost V1 (sval c0 n) 1):=by
  have hL:=h.le le1
  have hlen:=hn.1.2
  refine CallX.of_fits Tryz.mix (fS_RatMake _ _) fun _=>?_
  simp only [tS_RatMake,T.wp]
  refine(cS_IntOk V1 c0 s n f hL).mono ?_
  rintro V2 _ ⟨rfl,e,rfl,he⟩
  have he:=he.2 hn
  subst he
  refine⟨nofun,true,rfl,nofun,fun _=>(cS_IntOk V2 false s1 _ f1 L1).mono ?_⟩
  rintro V3 _ ⟨rfl,e,rfl,he⟩
  have he:=he.2 oneI_ok
  subst he
  have e:(!c0 == false)=c0:=by cases c0 <;> rfl
  refine⟨nofun,true,rfl,nofun,fun _=>?_⟩
  show CallX _ _ _ [Value.bool (!c0 == false),_,_] _
  rw [e]
  refine(cS_l05Low V3 c0 s s1 n _ f f1 hL L1 hn.1.1 oneI_ok.1.1 (by rw [valN_one]; decide) (by omega) (by simp)).mono ?_
  rintro V4 _ ⟨le4,c,x,e4,f4,rfl,R4,O4,hx⟩
  rw [valN_one] at hx
  exact⟨nofun,(c,e4,()),rfl,le4,c,x,e4,f4,rfl,R4,O4,hx⟩
 refine⟨fun _=>le1,(false,s1,()),rfl,key.mono ?_⟩
 rintro V4 _ ⟨le4,c,x,e4,f4,rfl,R4,O4,hx⟩
 exact⟨fun _=>le4,(c,e4,()),rfl,le1.trans le4,c,x,e4,f4,rfl,R4,O4.pre le1,hx⟩
theorem zero_ok:RatOkP false [] [((1:Int),())]:=⟨⟨⟨⟨lims_nil,.inl rfl⟩,by simp⟩,fun h=>by cases h⟩,⟨⟨lims_one (by decide),.inr (by decide)⟩,by simp⟩,by simp,by simp,by simp,by rw [valN_one]; rfl⟩
theorem zeroI (V:Know):CallX Tryz.prog V gI_RatZero [] (fun V' r=>V.le V'∧∃ c f,r=Sh1.val (.g [.b,.l,.l]) c∧rRat.R V' c (false,[],[(1,())],()) f):=by
 refine CallX.of_fits Tryz.mix fI_RatZero fun _=>?_
 simp only [tI_RatZero,T.wp]
 intro b cap spare hb hcap _
 have k:=newI (V:=V) (b:=b) (cap:=cap) (o:=[(1,())]) (spare:=spare) (t:=3) hb hcap (by simp)
 exact⟨kset_le hb,_,_,rfl,rat_mk lr_nil k.1⟩
theorem zeroS (V:Know):CallX Tryz.prog V gS_RatZero [] (fun V' r=>V.le V'∧∃ c f,r=Sh1.val (.g [.b,.l,.l]) c∧rRat.R V' c (false,[],[(1,())],()) f):=by
 refine CallX.of_fits Tryz.mix fS_RatZero fun _=>?_
 simp only [tS_RatZero,T.wp]
 intro b cap spare hb hcap _
 have k:=newI (V:=V) (b:=b) (cap:=cap) (o:=[(1,())]) (spare:=spare) (t:=3) hb hcap (by simp)
 exact⟨kset_le hb,_,_,rfl,rat_mk lr_nil k.1⟩
theorem rat_elim {V:Know} {c:Scs [.b,.l,.l]} {x:DRat} {f:List Nat} (h:rRat.R V c x f):∃ s s' g g',c=(x.1,s,s',())∧LR rI V s x.2.1 g∧LR rI V s' x.2.2.1 g'∧f=g++(g'++[]):=by
 obtain⟨c0,c1,c2,cu⟩:=c
 obtain⟨x0,x1,x2,xu⟩:=x
 obtain⟨e0,h⟩:=h
 replace e0:c0=x0:=e0
 subst e0
 obtain⟨g,r,rfl,hs,h⟩:=h
 obtain⟨g',r',rfl,hs',h⟩:=h
 replace h:r'=[]:=h
 subst h
 exact⟨c1,c2,g,g',rfl,hs,hs',rfl⟩
end Go.Proofs.YtagjmmpiglgmhaaGreatDoor
