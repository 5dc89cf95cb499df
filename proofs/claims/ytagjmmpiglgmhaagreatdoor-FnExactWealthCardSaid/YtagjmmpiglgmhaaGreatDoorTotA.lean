/-
  Fractions made, reduced and added, in the program and in the reference.
-/
import Derived.Test.YtagjmmpiglgmhaaGreatDoorLedB
import Derived.Test.YtagjmmpiglgmhaaGreatDoorRatM
namespace Go.Proofs.YtagjmmpiglgmhaaGreatDoor
open Sx
set_option maxRecDepth 100000
theorem lr_nil {V:Know}:LR rI V ⟨none,0,0⟩ [] []:=⟨rfl,Nat.le_refl _,by simp,.inl ⟨rfl,fun _=>rfl,rfl⟩⟩
theorem rat_mk {V:Know} {b:Bool} {s s':SlV} {p q:List Lim} {f g:List Nat} (h:LR rI V s p f) (h':LR rI V s' q g):rRat.R V (b,s,s',()) (b,p,q,()) (f++(g++[])) :=
 ⟨rfl,f,g++[],rfl,h,g,[],rfl,h',rfl⟩
def RedS (S D:Int) (x:DRat) (e:Bool):Prop:=∃ p q,Red (S.natAbs:Int) D p q∧((p.length≤18∧q.length≤18∧e=true∧x=(decide (S<0),p,q,()))∨(¬ (p.length≤18∧q.length≤18)∧e=false∧x=(false,[],[],())))
theorem redS_inj {S D:Int} (hD:0<D) {x x':DRat} {e e':Bool} (h:RedS S D x e) (h':RedS S D x' e'):x=x'∧e=e':=by
 obtain⟨p,q,h1,h2⟩:=h
 obtain⟨p',q',h1',h2'⟩:=h'
 obtain⟨rfl,rfl⟩:=red_inj hD h1 h1'
 rcases h2 with ⟨a,b,c,d⟩ | ⟨a,c,d⟩
 ·rcases h2' with ⟨_,_,c',d'⟩ | ⟨a',_,_⟩
  ·exact⟨d.trans d'.symm,c.trans c'.symm⟩
  ·exact absurd ⟨a,b⟩ a'
 ·rcases h2' with ⟨a',b',_,_⟩ | ⟨_,c',d'⟩
  ·exact absurd ⟨a',b'⟩ a
  ·exact⟨d.trans d'.symm,c.trans c'.symm⟩
theorem redS_ok {S D:Int} (hD:0<D) {x:DRat} {e:Bool} (h:RedS S D x e) (he:e=true):RatOkP x.1 x.2.1 x.2.2.1:=by
 obtain⟨p,q,h1,h2⟩:=h
 rcases h2 with ⟨a,b,_,rfl⟩ | ⟨_,c,_⟩
 ·refine⟨⟨⟨h1.1,(by omega:p.length≤50)⟩,fun hn=>?_⟩,⟨h1.2.1,(by omega:q.length≤50)⟩,(can_pos h1.2.1).2 (red_pos hD h1),b,a,red_gcd hD h1⟩
  have hs:S<0:=of_decide_eq_true hn
  exact(can_pos h1.1).2 ((red_num hD h1).2 (by omega))
 ·rw [he] at c; cases c
abbrev RatPost (V:Know) (S D:Int):Know→Value→Prop:=fun V' r=>V.le V'∧∃ c x e f,r=.tuple #[Sh1.val (.g [.b,.l,.l]) c,.bool e]∧rRat.R V' c x f∧Own V V' f∧RedS S D x e
theorem sval_abs {c0:Bool} {n:List Lim} (h:Lims n):((sval c0 n).natAbs:Int)=valN n:=by
 have:=valN_nonneg h
 unfold sval
 split <;> omega
theorem sval_neg {c0:Bool} {n:List Lim} (h:Can n) {p:List Lim} (hp:0<p.length↔0<valN n):(c0 && decide (0<p.length))=decide (sval c0 n<0):=by
 have:=valN_nonneg h.1
 cases c0 with
 | false =>
  rw [Bool.false_and]
  exact(decide_eq_false (by unfold sval; simp; omega)).symm
 | true =>
  rw [Bool.true_and]
  exact decide_eq_decide.2 (by rw [hp]; unfold sval; simp)
theorem cI_reduce (V:Know) (c0:Bool) (s s':SlV) (n d:List Lim) (f g:List Nat) (h:LR rI V s n f) (h':LR rI V s' d g) (hn:Can n) (hd:Can d) (hp:0<valN d) (ln:n.length≤900000) (ld:d.length≤900000) :
  CallX Tryz.prog V gI_reduce [Sh1.val (.g [.b,.l]) (c0,s,()),Sc.val .l s'] (RatPost V (sval c0 n) (valN d)):=by
 refine CallX.of_fits Tryz.mix (fI_reduce _ _) fun _=>?_
 simp only [tI_reduce,T.wp]
 refine(cI_natGcd V s s' n d f g h h' hn hd ln ld).mono ?_
 rintro V1 _ ⟨le1,s1,gg,f1,rfl,L1,O1,C1,v1⟩
 have hg:=gcd_pos (N:=valN n) hp
 have hgp:0<gg.length:=(can_pos C1).2 (by omega)
 refine⟨nofun,s1,rfl,(cI_natDiv V1 s s1 n gg f f1 (h.le le1) L1 hn C1 ln hgp).mono ?_⟩
 rintro V2 _ ⟨le2,sq,sr,q,r,f2,f2',rfl,L2,L2',O2,_,C2,C2',v2,b2⟩
 have l2:=le1.trans le2
 refine⟨nofun,(sq,sr,()),rfl,(cI_natDiv V2 s' s1 d gg g f1 (h'.le l2) (L1.le le2) hd C1 ld hgp).mono ?_⟩
 rintro V3 _ ⟨le3,tq,tr,q',r',f3,f3',rfl,L3,L3',O3,_,C3,C3',v3,b3⟩
 have l3:=l2.trans le3
 rw [v1] at v2 v3 b2 b3
 have x1:=exact_quot hg v2 ⟨valN_nonneg C2'.1,b2⟩ (gcd_dvd_l _ _)
 have x2:=exact_quot hg v3 ⟨valN_nonneg C3'.1,b3⟩ (gcd_dvd_r _ _)
 have hred:Red ((sval c0 n).natAbs:Int) (valN d) q q':=by
  rw [sval_abs hn.1]
  exact⟨C2,C3,x1,x2⟩
 have n2:=L2.1
 have n3:=L3.1
 have none:¬ (q.length≤18∧q'.length≤18)→RatPost V (sval c0 n) (valN d) V3 (packed [Sh1.val (.g [.b,.l,.l]) (false,(⟨none,0,0⟩:SlV),(⟨none,0,0⟩:SlV),()),.bool false]) :=
  fun hl=>⟨l3,_,(false,[],[],()),false,_,rfl,rat_mk lr_nil lr_nil,Own.nil,q,q',hred,.inr ⟨hl,rfl,rfl⟩⟩
 refine⟨nofun,(tq,tr,()),rfl,fun h1=>none fun k=>?_,fun h1=>⟨fun h2=>none fun k=>?_,fun h2=>?_⟩⟩
 ·have:(sq.n:Int) > 18:=of_decide_eq_true h1
  omega
 ·have:(tq.n:Int) > 18:=of_decide_eq_true h2
  omega
 have k1:¬ (sq.n:Int) > 18:=of_decide_eq_false h1
 have k2:¬ (tq.n:Int) > 18:=of_decide_eq_false h2
 refine(cI_signed V3 c0 sq).mono ?_
 rintro V4 _ ⟨rfl,rfl⟩
 refine⟨nofun,(c0 && decide ((sq.n:Int) > 0),sq,()),rfl,l3,_,(c0 && decide ((sq.n:Int) > 0),q,q',()),true,_,rfl,rat_mk (L2.le le3) L3,?_,q,q',hred,.inl ⟨by omega,by omega,rfl,?_⟩⟩
 ·rw [List.append_nil]
  exact(O2.append O3 le2 le3).pre le1
 ·have e:decide ((sq.n:Int) > 0)=decide (0<q.length):=decide_eq_decide.2 (by omega)
  rw [e,sval_neg hn ((can_pos C2).trans (by have:=red_num hp hred; rwa [sval_abs hn.1] at this))]
theorem cI_num (V:Know) (c0:Bool) (s t s':SlV) (n _ b:List Lim) (f _ f':List Nat) (h:LR rI V s n f) (h':LR rI V s' b f') (hn:Can n) (hb:Can b) (ln:n.length≤1000000) (lb:b.length≤1000000) :
  CallX Tryz.prog V gI_Rat__num [Sh1.val (.g [.b,.l,.l]) (c0,s,t,()),Sc.val .l s'] (fun V' r=>V.le V'∧∃ e so o fo,r=Sh1.val (.g [.b,.l]) (e,so,())∧LR rI V' so o fo∧Can o∧sval e o=sval c0 n*valN b∧o.length≤n.length+b.length):=by
 refine CallX.of_fits Tryz.mix (fI_Rat__num _ _) fun _=>?_
 simp only [tI_Rat__num,T.wp]
 refine(cI_natMul V s s' n b f f' h h' hn.1 hb.1 ln lb).mono ?_
 rintro V1 _ ⟨le1,s1,o,bk,rfl,nw,_,C1,v1,_⟩
 have L1:=nw.lr
 have n1:=L1.1
 refine⟨fun _=>le1,s1,rfl,(cI_signed V1 c0 s1).mono ?_⟩
 rintro V2 _ ⟨rfl,rfl⟩
 refine⟨fun _=>Know.le.refl _,(c0 && decide ((s1.n:Int) > 0),s1,()),rfl,le1,c0 && decide ((s1.n:Int) > 0),s1,o,_,rfl,L1,C1,?_,mul_len hb C1 hn.1 v1⟩
 have e:decide ((s1.n:Int) > 0)=decide (0<o.length):=decide_eq_decide.2 (by omega)
 rw [e]
 have hz:=can_pos C1
 have h0:=valN_nonneg C1.1
 have e2:sval (c0 && decide (0<o.length)) o=sval c0 o:=by
  by_cases hp:0<o.length
  ·simp [hp]
  ·have:valN o=0:=by omega
   unfold sval
   cases c0 <;> simp [this]
 rw [e2]
 unfold sval
 rw [v1]
 split
 ·rw [Int.neg_mul]
 ·rfl
theorem cI_ratsOk (V:Know) (c0:Bool) (c1 c2:SlV) (d0:Bool) (d1 d2:SlV) (n d m e:List Lim) (f g f' g':List Nat) (h1:LR rI V c1 n f) (h2:LR rI V c2 d g) (h3:LR rI V d1 m f') (h4:LR rI V d2 e g') (hr:RatOkP c0 n d) (hs:RatOkP d0 m e) :
  CallX Tryz.prog V gI_ratsOk [Sh1.val (.g [.b,.l,.l]) (c0,c1,c2,()),Sh1.val (.g [.b,.l,.l]) (d0,d1,d2,())] (fun V' r=>V.le V'∧r=.bool true):=by
 refine CallX.of_fits Tryz.mix (fI_ratsOk _ _) fun _=>?_
 simp only [tI_ratsOk,T.wp]
 refine(cI_RatOk V c0 c1 c2 n d f g h1 h2).mono ?_
 rintro V1 _ ⟨le1,b1,rfl,hb1⟩
 have hb1:=hb1.2 hr
 subst hb1
 refine⟨nofun,true,rfl,fun _=>(cI_RatOk V1 d0 d1 d2 m e f' g' (h3.le le1) (h4.le le1)).mono ?_,nofun⟩
 rintro V2 _ ⟨le2,b2,rfl,hb2⟩
 have hb2:=hb2.2 hs
 subst hb2
 exact⟨nofun,true,rfl,le1.trans le2,rfl⟩
theorem cI_RatAdd (V:Know) (c0:Bool) (c1 c2:SlV) (d0:Bool) (d1 d2:SlV) (n d m e:List Lim) (f g f' g':List Nat) (h1:LR rI V c1 n f) (h2:LR rI V c2 d g) (h3:LR rI V d1 m f') (h4:LR rI V d2 e g') (hr:RatOkP c0 n d) (hs:RatOkP d0 m e) :
  CallX Tryz.prog V gI_RatAdd [Sh1.val (.g [.b,.l,.l]) (c0,c1,c2,()),Sh1.val (.g [.b,.l,.l]) (d0,d1,d2,())] (RatPost V (sval c0 n*valN e+sval d0 m*valN d) (valN d*valN e)):=by
 refine CallX.of_fits Tryz.mix (fI_RatAdd _ _) fun _=>?_
 simp only [tI_RatAdd,T.wp]
 have z1:=hr.2.2.2.1
 have z2:=hr.2.2.2.2.1
 have z3:=hs.2.2.2.1
 have z4:=hs.2.2.2.2.1
 have p1:=(can_pos hr.2.1.1).1 hr.2.2.1
 have p2:=(can_pos hs.2.1.1).1 hs.2.2.1
 refine(cI_ratsOk V c0 c1 c2 d0 d1 d2 n d m e f g f' g' h1 h2 h3 h4 hr hs).mono ?_
 rintro V1 _ ⟨le1,rfl⟩
 refine⟨nofun,true,rfl,nofun,fun _=>(cI_num V1 c0 c1 c2 d2 n d e f g g' (h1.le le1) (h4.le le1) hr.1.1.1 hs.2.1.1 (by omega) (by omega)).mono ?_⟩
 rintro V2 _ ⟨le2,e2,s2,o2,f2,rfl,L2,C2,v2,b2⟩
 have l2:=le1.trans le2
 refine⟨fun _=>le2,(e2,s2,()),rfl,(cI_num V2 d0 d1 d2 c2 m e d f' g' g (h3.le l2) (h2.le l2) hs.1.1.1 hr.2.1.1 (by omega) (by omega)).mono ?_⟩
 rintro V3 _ ⟨le3,e3,s3,o3,f3,rfl,L3,C3,v3,b3⟩
 have l3:=l2.trans le3
 refine⟨fun _=>le3,(e3,s3,()),rfl,(cI_intAdd V3 e2 s2 e3 s3 o2 o3 f2 f3 (L2.le le3) L3 C2 C3 (by omega) (by omega)).mono ?_⟩
 rintro V4 _ ⟨le4,e4,s4,o4,f4,rfl,L4,O4,C4,v4,_,n4⟩
 have l4:=l3.trans le4
 refine⟨fun _=>le4,(e4,s4,()),rfl,(cI_natMul V4 c2 d2 d e g g' (h2.le l4) (h4.le l4) hr.2.1.1.1 hs.2.1.1.1 (by omega) (by omega)).mono ?_⟩
 rintro V5 _ ⟨le5,s5,o5,b5,rfl,nw,_,C5,v5,_⟩
 have l5:=l4.trans le5
 have n5:=mul_len (a:=d) (b:=e) hs.2.1.1 C5 hr.2.1.1.1 v5
 have n4b:o4.length≤100:=by
  by_cases k:o4.length≤100
  ·exact k
  ·exfalso
   have g1:=can_ge C4 (by omega)
   have g2:=(valTo_bd C2.1 o2.length).2
   have g3:=(valTo_bd C3.1 o3.length).2
   have g4:=pw_mono (show o2.length≤40 by omega)
   have g5:=pw_mono (show o3.length≤40 by omega)
   have g6:=pw_mono (show 41≤o4.length-1 by omega)
   have g7:(1000000000:Int) ^ 41=1000000000*1000000000 ^ 40:=pw_succ 40
   have g8:=pw_pos 40
   have a2:valN o2<1000000000 ^ 40:=by
    have:valN o2<1000000000 ^ o2.length:=g2
    omega
   have a3:valN o3<1000000000 ^ 40:=by
    have:valN o3<1000000000 ^ o3.length:=g3
    omega
   have q2:=sval_abs (c0:=e2) C2.1
   have q3:=sval_abs (c0:=e3) C3.1
   have q4:=sval_abs (c0:=e4) C4.1
   omega
 refine⟨fun _=>le5,s5,rfl,(cI_reduce V5 e4 s4 s5 o4 o5 f4 [b5] (L4.le le5) nw.lr C4 C5 (by rw [v5]; exact Int.mul_pos p1 p2) (by omega) (by omega)).mono ?_⟩
 rintro V6 _ ⟨le6,c6,x6,e6,f6,rfl,R6,O6,hx⟩
 refine⟨fun _=>le6,(c6,e6,()),rfl,l5.trans le6,c6,x6,e6,f6,rfl,R6,O6.pre l5,?_⟩
 rw [v4,v2,v3,v5] at hx
 exact hx
end Go.Proofs.YtagjmmpiglgmhaaGreatDoor
