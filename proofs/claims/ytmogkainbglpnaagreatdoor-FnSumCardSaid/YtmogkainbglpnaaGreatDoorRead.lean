/-
  From what a law's row reads of its arguments to rows and lists that lie in memory.
-/
import Derived.Test.YtmogkainbglpnaaGreatDoorCuC
import Derived.Test.YtmogkainbglpnaaGreatDoorCw
import Derived.Test.YtmogkainbglpnaaGreatDoorCopy
import Derived.Test.YtmogkainbglpnaaGreatDoorMath
import Derived.Test.YtmogkainbglpnaaGreatDoorChecked
import Derived.ChangeArms
import Derived.Lib.LaidTab
namespace Go.Proofs.YtmogkainbglpnaaGreatDoor
open Sx
set_option maxRecDepth 100000
theorem LR.masked {sh:List Sc} {α:Type} {r:Rp sh α} {V:Know} {t:SlV} {l:List α} {f:List Nat} {b:Nat} (h:LR r V t l f) (hb:∀ y∈f,y≠b):LR r (mask b V) t l f :=
 h.loc fun y hy=>by unfold mask; rw [if_neg (hb y hy)]
theorem cS_l10Pair {V0 V:Know} {b:Nat} {s:SlV} (hc:Cx V0 b s V) (p:ByteArray) (t:SlV) (l:List DRate) (f:List Nat) (h:LR rRate V t l f) (hf:∀ y∈f,y≠b) (ok:RatesOkP p l) :
  CallX Tryz.prog V 30 [.pointer (some ⟨b,0,none⟩),qv2 (p,t,())] (fun V' r=>Dx V0 b s V V'∧∃ n1 n2:ByteArray,r=.tuple #[.string n1,.string n2]∧n1.size≤9223372036854775807∧known n2=true):=by
 refine CallX.of_fits Tryz.mix (fS_l10Pair _ _) fun _=>?_
 simp only [tS_l10Pair,T.wp,if_true]
 have fb:∀ y∈f,y ∉ [b]:=fun y hy=>by simpa using hf y hy
 have hn:=h.1
 have kn:∀ {i:Nat} (hi:i<l.length),known l[i].1=true∧known l[i].2.1=true:=fun {i} hi=>by
  obtain⟨_,q,_⟩:=ok.2.2 i hi
  exact⟨q.1,q.2.1⟩
 have rest:∀ {V1:Know},Dx V0 b s V V1→CallX Tryz.prog V1 67 [.pointer (some ⟨b,0,none⟩)] (fun V' r=>(false=true→V1.le V')∧∃ y,r=Sh.val (.v (.o .s)) y∧CallX Tryz.prog V' 68 [.pointer (some ⟨b,0,none⟩)] (fun V'' r'=>(false=true→V'.le V'')∧∃ y',r'=Sh.val (.v (.o .s)) y'∧(Dx V0 b s V V''∧∃ n1 n2:ByteArray,packed [.string y,.string y']=.tuple #[.string n1,.string n2]∧n1.size≤9223372036854775807∧known n2=true))):=by
  intro V1 d1
  refine(cS_l08Any d1.1).mono ?_
  rintro V2 _ ⟨d2,n1,rfl,z1⟩
  refine⟨nofun,n1,rfl,(cS_l08Cur d2.1).mono ?_⟩
  rintro V3 _ ⟨d3,n2,rfl,k2⟩
  exact⟨nofun,n2,rfl,(d1.trans d2).trans d3,n1,n2,rfl,z1,k2⟩
 refine⟨fun hgt=>?_,fun _=>rest (hc.dx (Know.le.refl _))⟩
 have hpos:0<l.length:=by
  have:(t.n:Int) > 0:=of_decide_eq_true hgt
  omega
 refine(cS_l01Once hc 3).mono ?_
 rintro V1 _ ⟨d1,e,rfl⟩
 refine⟨nofun,e,rfl,fun _=>?_,fun _=>rest d1⟩
 have L1:=h.but fb d1.2
 refine⟨mask b V1,mask_le b V1,(cS_l01Below d1.1 _).mono ?_⟩
 rintro V2 _ ⟨d2,x,rfl,x0,x1,_⟩
 have hx:=x1 (by omega)
 have hx2:x.toNat<l.length:=by omega
 obtain⟨b3,o3,c3,fc3,a3,l3,hR3,_⟩:=(L1.masked hf).at hx2
 refine⟨mask_but (Know.le.refl _) d2.2,x,rfl,_,a3,x0,hx,c3,l3,?_⟩
 have L2:=L1.but fb d2.2
 refine⟨mask b V2,mask_le b V2,(cS_l01Below d2.1 _).mono ?_⟩
 rintro V3 _ ⟨d3,z,rfl,z0,z1,_⟩
 have hz:=z1 (by omega)
 have hz2:z.toNat<l.length:=by omega
 obtain⟨b4,o4,c4,fc4,a4,l4,hR4,_⟩:=(L2.masked hf).at hz2
 refine⟨mask_but (Know.le.refl _) d3.2,z,rfl,_,a4,z0,hz,c4,l4,(cS_l01Below d3.1 3).mono ?_⟩
 rintro V4 _ ⟨d4,w,rfl,_⟩
 have dd:=((d1.trans d2).trans d3).trans d4
 obtain⟨e31,e32⟩:=rate_cell hR3
 obtain⟨e41,e42⟩:=rate_cell hR4
 obtain⟨k31,k32⟩:=kn hx2
 obtain⟨k41,k42⟩:=kn hz2
 refine⟨nofun,w,rfl,fun _=>⟨dd,_,_,rfl,?_,?_⟩,fun _=>⟨fun _=>⟨dd,_,_,rfl,?_,?_⟩,fun _=>⟨dd,_,_,rfl,?_,?_⟩⟩⟩
 ·rw [e31]; exact known_len k31
 ·rw [e42]; exact k42
 ·rw [e32]; exact known_len k32
 ·rw [e31]; exact k31
 ·rw [e31]; exact known_len k31
 ·rw [e41]; exact k41
theorem cS_l01New (V:Know) (s:SlV) (l:List (Int × Unit)) (f:List Nat) (h:LR rBy V s l f):CallX Tryz.prog V 28 [Sc.val .l s] (fun V' r=>V.le V'∧∃ b,r=.pointer (some ⟨b,0,none⟩)∧V b=none∧Cx V b s V'):=by
 refine CallX.of_fits Tryz.mix (fS_l01New _) fun _=>?_
 simp only [tS_l01New,T.wp]
 have hn:=h.1
 have h63:=h.2.2.1
 refine⟨fun y V'=>V'=V∧∃ k:Nat,y.2.1=(k:Int)∧k≤l.length,fun y _=>((l.length:Int)-(y.2.1:Int)).toNat,⟨(_,(0:Int),()),rfl,rfl,0,rfl,Nat.zero_le _⟩,?_⟩
 rintro⟨(g:Int),(i:Int),u⟩ V' ⟨rfl,k,hi,hk⟩
 replace hi:i=(k:Int):=hi
 subst hi
 have fin:∀ b2,V' b2=none→(V'.le (kset V' b2 ([Sc.val .l s,.int .i64 0,.int .i64 g],(tyC,(0,0))))∧∃ b,packed [.pointer (some ⟨b2,0,none⟩)]=.pointer (some ⟨b,0,none⟩)∧V' b=none∧Cx V' b s (kset V' b2 ([Sc.val .l s,.int .i64 0,.int .i64 g],(tyC,(0,0))))) :=
  fun b2 hb2=>⟨kset_le hb2,b2,rfl,hb2,kset_le hb2,hb2,⟨0,g,Int.le_refl _,kset_same⟩,l,f,h⟩
 refine⟨fun hlt=>⟨fun _=>?_,fun _=>fin⟩,fun _=>fin⟩
 have hi2:k<l.length:=by
  have:(k:Int)<(s.n:Int):=of_decide_eq_true hlt
  omega
 obtain⟨b1,o1,c1,fc,a1,l1,hR,_⟩:=h.at hi2
 dsimp only
 rw [Int.toNat_natCast]
 refine⟨_,a1,by omega,(by omega:(k:Int)<(s.n:Int)),c1.1,l1,_,rfl,(_,((k+1:Nat):Int),()),by rw [nxt hi2 (by omega)]; rfl,⟨rfl,k+1,rfl,hi2⟩,?_⟩
 show((l.length:Int)-((k+1:Nat):Int)).toNat<((l.length:Int)-(k:Int)).toNat
 omega
theorem cS_MakeRates (V:Know) (s:SlV) (l:List (Int × Unit)) (f:List Nat) (h:LR rBy V s l f):CallX Tryz.prog V 6 [Sc.val .l s]
  (fun V' r=>V.le V'∧∃ p t l f n1 n2,r=.tuple #[qv2 (p,t,()),.string n1,.string n2]∧LR rRate V' t l f∧RatesOkP p l∧TabS l∧n1.size≤9223372036854775807∧known n2=true):=by
 refine CallX.of_fits Tryz.mix (fS_MakeRates _) fun _=>?_
 simp only [tS_MakeRates,T.wp]
 refine(cS_l01New V s l f h).mono ?_
 rintro V1 _ ⟨le1,b,rfl,hb,c1⟩
 refine⟨nofun,_,rfl,(cS_l10Table c1).mono ?_⟩
 rintro V2 _ ⟨d2,c,p,l',f',rfl,R2,hf,ok,td⟩
 obtain⟨t,rfl,L2⟩:=rates_el R2
 refine⟨nofun,_,rfl,(cS_l10Pair d2.1 p t l' f' L2 hf ok).mono ?_⟩
 rintro V3 _ ⟨d3,n1,n2,rfl,z1,k2⟩
 exact⟨nofun,(n1,n2,()),rfl,d3.1.1,p,t,l',f',n1,n2,rfl,L2.but (fun y hy=>by simpa using hf y hy) d3.2,ok,td,z1,k2⟩
theorem cS_MakeAmount (V:Know) (s:SlV) (l:List (Int × Unit)) (f:List Nat) (h:LR rBy V s l f) (a:ByteArray):CallX Tryz.prog V 7 [Sc.val .l s,.string a]
  (fun V' r=>V.le V'∧∃ t o g,r=qv3 (a,false,t,())∧LR rI V' t o g∧Can o∧valN o<30000∧o.length≤3):=by
 refine CallX.of_fits Tryz.mix (fS_MakeAmount _ _) fun _=>?_
 simp only [tS_MakeAmount,T.wp]
 refine(cS_l01New V s l f h).mono ?_
 rintro V1 _ ⟨le1,b,rfl,hb,c1⟩
 have c1':=c1
 obtain⟨_,_,⟨i,k,hi,hk⟩,_⟩:=c1
 refine⟨nofun,_,rfl,k,ld_at hk 2 1,_,_,rfl,hk,Nat.le_refl 3,?_⟩
 have d2:=kset_cx (h:=IntKind.i64.wrap (k+31)) c1' hi
 refine(cS_l01Below d2.1 30000).mono ?_
 rintro V2 _ ⟨d3,x,rfl,x0,x1,_⟩
 have hx:=x1 (by omega)
 refine⟨nofun,x,rfl,(cS_IntOfD V2 x x0 (by omega)).mono ?_⟩
 rintro V3 _ ⟨le3,t,o,g,rfl,L3,_,C3,v3,n3⟩
 exact⟨nofun,_,rfl,d3.1.1.trans le3,t,o,g,rfl,L3,C3,by omega,n3⟩
end Go.Proofs.YtmogkainbglpnaaGreatDoor
namespace Go.Proofs.YtmogkainbglpnaaGreatDoor
open Sx
set_option maxRecDepth 100000
abbrev OkE (V:Know) (p:Prop):Know→Value→Prop:=fun V' r=>V'=V∧∃ e,r=.bool e∧(e=true↔p)
theorem okE_no {V:Know} {p:Prop} (k:¬ p):OkE V p V (.bool false):=⟨rfl,false,rfl,⟨(fun e=>by cases e),fun e=>absurd e k⟩⟩
theorem okE_b {V:Know} {p:Prop} {e:Bool} (h:e=true↔p):OkE V p V (.bool e):=⟨rfl,e,rfl,h⟩
theorem cI_sameInts (V:Know) (s s':SlV) (l l':List Lim) (f f':List Nat) (h:LR rI V s l f) (h':LR rI V s' l' f'):CallX Tryz.prog V 77 [Sc.val .l s,Sc.val .l s'] (OkE V (l=l')):=CallX.of_fits Tryz.mix (fI_sameInts s s') fun _=>tEqI_wp h h'
theorem cI_intSame (V:Know) (n n':Bool) (s s':SlV) (l l':List Lim) (f f':List Nat) (h:LR rI V s l f) (h':LR rI V s' l' f'):CallX Tryz.prog V 40 [qv1 (n,s,()),qv1 (n',s',())] (OkE V (n=n'∧l=l')):=by
 refine CallX.of_fits Tryz.mix (fI_intSame _ _) fun _=>?_
 simp only [tI_intSame,T.wp]
 refine⟨fun h1=>(cI_sameInts V s s' l l' f f' h h').mono ?_,fun h1=>okE_no fun k=>?_⟩
 ·have q:n=n':=by simpa using h1
  rintro V1 r ⟨rfl,e,rfl,he⟩
  exact⟨nofun,e,rfl,okE_b ⟨fun hh=>⟨q,he.1 hh⟩,fun k=>he.2 k.2⟩⟩
 ·have q:¬ n=n':=by simpa using h1
  exact q k.1
theorem cI_MoneySame (V:Know) (c c':ByteArray) (n n':Bool) (s s':SlV) (l l':List Lim) (f f':List Nat) (h:LR rI V s l f) (h':LR rI V s' l' f'):CallX Tryz.prog V 12 [qv3 (c,n,s,()),qv3 (c',n',s',())] (OkE V (c=c'∧n=n'∧l=l')):=by
 refine CallX.of_fits Tryz.mix (fI_MoneySame _ _) fun _=>?_
 simp only [tI_MoneySame,T.wp]
 refine⟨fun h1=>(cI_intSame V n n' s s' l l' f f' h h').mono ?_,fun h1=>okE_no fun k=>?_⟩
 ·have q:c=c':=text_eq.1 h1
  rintro V1 r ⟨rfl,e,rfl,he⟩
  exact⟨nofun,e,rfl,okE_b ⟨fun hh=>⟨q,he.1 hh⟩,fun k=>he.2 k.2⟩⟩
 ·exact(text_ne.1 h1) k.1
theorem cI_RatCmp (V:Know) (x y:DRat) (c d:Scs [.b,.l,.l]) (f g:List Nat) (hx:rRat.R V c x f) (hy:rRat.R V d y g) (ox:RatOkP x.1 x.2.1 x.2.2.1) (oy:RatOkP y.1 y.2.1 y.2.2.1) :
  CallX Tryz.prog V 13 [qv0 c,qv0 d] (fun V' r=>V.le V'∧r=.int .i64 (sgn (sval x.1 x.2.1*valN y.2.2.1-sval y.1 y.2.1*valN x.2.2.1))):=by
 refine CallX.of_fits Tryz.mix (fI_RatCmp _ _) fun _=>?_
 obtain⟨s1,s2,g1,g2,rfl,L1,L2,rfl⟩:=rat_elim hx
 obtain⟨t1,t2,k1,k2,rfl,M1,M2,rfl⟩:=rat_elim hy
 simp only [tI_RatCmp,T.wp]
 have z1:=ox.2.2.2.1
 have z2:=ox.2.2.2.2.1
 have z3:=oy.2.2.2.1
 have z4:=oy.2.2.2.2.1
 refine(cI_ratsOk V x.1 s1 s2 y.1 t1 t2 x.2.1 x.2.2.1 y.2.1 y.2.2.1 _ _ _ _ L1 L2 M1 M2 ox oy).mono ?_
 rintro V1 _ ⟨le1,rfl⟩
 refine⟨nofun,true,rfl,nofun,fun _=>(cI_num V1 x.1 s1 s2 t2 x.2.1 [] y.2.2.1 _ [] _ (L1.le le1) (M2.le le1) ox.1.1.1 oy.2.1.1 (by omega) (by omega)).mono ?_⟩
 rintro V2 _ ⟨le2,e2,u2,o2,f2,rfl,L3,C3,v3,n3⟩
 have l2:=le1.trans le2
 refine⟨fun _=>le2,_,rfl,(cI_num V2 y.1 t1 t2 s2 y.2.1 [] x.2.2.1 _ [] _ (M1.le l2) (L2.le l2) oy.1.1.1 ox.2.1.1 (by omega) (by omega)).mono ?_⟩
 rintro V3 _ ⟨le3,e3,u3,o3,f3,rfl,L4,C4,v4,n4⟩
 refine⟨nofun,_,rfl,(cI_intCmp V3 e2 u2 e3 u3 o2 o3 f2 f3 (L3.le le3) L4 C3 C4 (by omega) (by omega)).mono ?_⟩
 rintro V4 _ ⟨le4,rfl⟩
 exact⟨nofun,_,rfl,(l2.trans le3).trans le4,by rw [v3,v4]; rfl⟩
theorem cI_IntSmall (V:Know) (k:Int) (h:0<k∧k<1000000000):CallX Tryz.prog V 38 [.int .i64 k] (fun V' r=>V.le V'∧∃ s f,r=qv1 (false,s,())∧LR rI V' s [(k,())] f):=by
 refine CallX.of_fits Tryz.mix (fI_IntOf _) fun _=>?_
 simp only [tI_IntOf,T.wp]
 refine⟨fun hn=>?_,fun _=>?_⟩
 ·have:=of_decide_eq_true hn
  omega
 rw [show IntKind.u64.wrap k=k from wrap_u64 (by omega)]
 refine(cI_natOf V k (by omega)).mono ?_
 rintro V1 _ ⟨le1,s,o,f,rfl,L,_,C,v,_⟩
 have e:o=[(k,())]:=can_inj C ⟨lims_one (by omega),.inr (by show k≠0; omega)⟩ (by rw [v,valN_one])
 subst e
 exact⟨nofun,s,rfl,le1,s,f,rfl,L⟩
theorem cI_MoneyTwice {V:Know} (hV:HcI V) (a:ByteArray) (s:SlV) (o:List Lim) (f:List Nat) (h:LR rI V s o f) (C:Can o) (b:valN o<30000) (n:o.length≤3) (z:a.size≤9223372036854775807) :
  CallX Tryz.prog V 9 [qv3 (a,false,s,()),.int .i64 2] (fun V' r=>V.le V'∧∃ c x ok g,r=.tuple #[qv3 c,.bool ok]∧rMoney.R V' c x g∧TwoP (a,false,o,()) x):=by
 refine CallX.of_fits Tryz.mix (fI_MoneyTimes _ _) fun _=>?_
 simp only [tI_MoneyTimes,T.wp]
 refine(cI_MoneyOk hV a false s o f h).mono ?_
 rintro V1 _ ⟨le1,e,rfl,he⟩
 refine⟨nofun,e,rfl,fun hf=>?_,fun ht=>?_⟩
 ·refine⟨le1,_,_,_,_,rfl,money_0,.inr ⟨fun k=>?_,fun k=>?_⟩⟩
  ·rw [he.2 k] at hf; cases hf
  ·have:known ByteArray.empty=true:=k.1
   exact absurd this (by decide +kernel)
 have ok:=he.1 (by simpa using ht)
 refine(cI_IntSmall V1 2 (by omega)).mono ?_
 rintro V2 _ ⟨le2,s2,f2,rfl,L2⟩
 have l2:=le1.trans le2
 refine⟨fun _=>le2,_,rfl,(cI_intMul V2 false s false s2 o [((2:Int),())] f f2 (h.le l2) L2 C ⟨lims_one (by decide),.inr (by decide)⟩ (by omega) (by decide)).mono ?_⟩
 rintro V3 _ ⟨le3,s3,o3,f3,rfl,L3,_,C3,v3⟩
 rw [valN_one] at v3
 have v0:=valN_nonneg C.1
 have c1:Can [((60000:Int),())]:=⟨lims_one (by decide),.inr (by decide)⟩
 have n3:=can_len c1 C3 (by rw [valN_one]; omega)
 have n3':o3.length≤1:=n3
 have e3:((false != false) && decide (0<o3.length))=false:=rfl
 rw [e3]
 have ok3:IntOkP false o3:=⟨⟨C3,by omega⟩,(fun h=>by cases h)⟩
 have l3:=l2.trans le3
 refine⟨fun _=>le3,_,rfl,(rI_moneyOf (hV.le l3) a false s3 o3 f3 L3 ok.1 ok3).mono ?_⟩
 rintro V4 _ ⟨le4,⟨_,rfl⟩ | ⟨k,_⟩⟩
 ·refine⟨nofun,((a,false,s3,()),true,()),rfl,l3.trans le4,_,(a,false,o3,()),true,_,rfl,money_mk z (L3.le le4),.inl ⟨ok,⟨ok.1,ok3,by show o3.length≤4; omega⟩,rfl,?_,?_,?_⟩⟩
  ·show sval false o3=2*sval false o
   simp only [sval,Bool.false_eq_true,if_false]
   omega
  ·show 0≤sval false o
   simp only [sval,Bool.false_eq_true,if_false]
   omega
  ·show sval false o≤60000
   simp only [sval,Bool.false_eq_true,if_false]
   omega
 ·exact absurd (show o3.length≤4 by omega) k
abbrev names4:List ByteArray:=[⟨#[111,107]⟩,⟨#[109,111,110,101,121]⟩,⟨#[114,97,116,101]⟩,⟨#[108,97,114,103,101]⟩]
theorem cI_CvName (V:Know) (c:Int) (h:0≤c∧c≤3):CallX Tryz.prog V 11 [.int .i64 c] (fun V' r=>V.le V'∧∃ n:ByteArray,r=.string n∧n≠⟨#[]⟩):=by
 refine CallX.of_fits Tryz.mix (fI_CvName _) fun _=>?_
 simp only [tI_CvName,T.wp]
 intro b1 c1 sp hb1 hc1 _
 have le1:=kset_le (x:=(names4.map Value.string++sp,((9:TypeId),((0,0):Nat × Nat)))) hb1
 have hL:LR rNs (kset V b1 (names4.map Value.string++sp,((9:TypeId),((0,0):Nat × Nat)))) ⟨some ⟨b1,0,none⟩,4,c1⟩ (names4.map fun n=>(n,())) [b1]:=lr_lit (fps:=[]) (cs:=names4.map fun n=>(n,())) (post:=sp) (t:=(9,(0,0))) (els_ns (by decide)) (by rw [vals_ns]; exact kset_same) rfl hc1 (by decide)
 have key:CallX Tryz.prog (kset V b1 (names4.map Value.string++sp,((9:TypeId),((0,0):Nat × Nat)))) 39 [.int .i64 c,.slice (some ⟨b1,0,none⟩) 4 c1] (fun V' r=>V.le V'∧∃ n:ByteArray,r=.string n∧n≠⟨#[]⟩):=by
  refine CallX.of_fits Tryz.mix (fI_nameAt c ⟨some ⟨b1,0,none⟩,4,c1⟩) fun _=>?_
  simp only [tI_nameAt,T.wp]
  obtain⟨b2,o2,c2,fc,a1,l1,hR,_⟩:=hL.at (i:=c.toNat) (by show c.toNat<4; omega)
  refine⟨fun h0=>?_,fun _=>⟨fun h0=>?_,fun _=>⟨_,a1,h.1,(by omega:c<((4:Nat):Int)),c2.1,l1,le1,_,rfl,?_⟩⟩⟩
  ·have:=of_decide_eq_true h0
   omega
  ·have:c≥((4:Nat):Int):=of_decide_eq_true h0
   omega
  ·have e:c2.1=((names4.map fun n=>(n,()))[c.toNat]'(by show c.toNat<4; omega)).1:=hR.1.1
   have hn:∀ x∈names4.map (fun n=>(n,())),x.1≠(⟨#[]⟩:ByteArray):=by decide +kernel
   rw [e]
   exact hn _ (List.getElem_mem _)
 refine key.mono ?_
 rintro V1 _ ⟨le2,n,rfl,hn⟩
 exact⟨nofun,n,rfl,le2,n,rfl,hn⟩
end Go.Proofs.YtmogkainbglpnaaGreatDoor
namespace Go.Proofs.YtmogkainbglpnaaGreatDoor
open Sx
set_option maxRecDepth 100000
theorem law_FnSum {V:Know} (hV:HeI V) {s:SlV} {l:List (Int × Unit)} {f:List Nat} (h:LR rBy V s l f):CallX Tryz.prog V 3 [Sc.val .l s] (fun V' r=>V.le V'∧r=.bool true):=by
 refine CallX.of_fits Tryz.mix (fL_FnSum _) fun _=>?_
 simp only [tL_FnSum,T.wp]
 refine⟨fun _=>⟨Know.le.refl _,rfl⟩,fun _=>(cS_MakeRates V s l f h).mono ?_⟩
 rintro V1 _ ⟨le1,p,t,rs,f1,a,b,rfl,L1,ok,td,za,kb⟩
 refine⟨nofun,((p,t,()),a,b,()),rfl,(cS_MakeAmount V1 s l f (h.le le1) a).mono ?_⟩
 rintro V2 _ ⟨le2,u,o,g,rfl,L2,C2,v2,n2⟩
 refine⟨nofun,(a,false,u,()),rfl,fun b3 c3 sp3 hb3 hc3 _=>?_⟩
 have le3:=kset_le (x:=([Value.string a,.bool false,Sc.val .l u,.string a,.bool false,Sc.val .l u]++sp3,((32:TypeId),((0,0):Nat × Nat)))) hb3
 have l3:=(le1.trans le2).trans le3
 have hel:Els rMoney (kset V2 b3 ([Value.string a,.bool false,Sc.val .l u,.string a,.bool false,Sc.val .l u]++sp3,((32:TypeId),((0,0):Nat × Nat)))) [((a,false,u,()):Scs [.s,.b,.l]),(a,false,u,())] [((a,false,o,()):DMoney),(a,false,o,())] ((g++[])++((g++[])++[])) :=
  ⟨g++[],_,rfl,money_mk za (L2.le le3),g++[],[],rfl,money_mk za (L2.le le3),rfl⟩
 have L3:=lr_lit (n:=2) (cap:=c3) (post:=sp3) (t:=(32,(0,0))) hel (by rw [kset_same]; rfl) rfl hc3 (by simp)
 refine(cI_ConvertSum (hV.le l3) p t rs f1 (L1.le (le2.trans le3)) ⟨some ⟨b3,0,none⟩,2,c3⟩ _ _ L3 b 6).mono ?_
 rintro V4 _ ⟨le4,c4,mo,f4,c4',ra,g4,code,rfl,R4,R4',_,h4⟩
 have l4:=l3.trans le4
 refine⟨nofun,(c4,c4',code,()),rfl,(cI_MoneyTwice (hV.le l4).1 a u o g (L2.le (le3.trans le4)) C2 v2 n2 za).mono ?_⟩
 rintro V5 _ ⟨le5,c5,two,ok5,g5,rfl,R5,h5⟩
 have l5:=l4.trans le5
 refine⟨nofun,(c5,ok5,()),rfl,(cI_Convert (hV.le l5) p t rs f1 (L1.le ((le2.trans le3).trans (le4.trans le5))) c5 two g5 R5 b 6).mono ?_⟩
 rintro V6 _ ⟨le6,c6,mo6,f6,c6',ra6,g6,code6,rfl,R6,R6',_,h6⟩
 have l6:=l5.trans le6
 obtain⟨rfl,rfl,rfl⟩:=conv_two h5 h4 h6
 refine⟨nofun,(c6,c6',code,()),rfl,fun _=>?_,fun hne=>by simp at hne⟩
 refine(cI_CvName V6 code (convP_code h4)).mono ?_
 rintro V7 _ ⟨le7,nm,rfl,hnm⟩
 have l7:=l6.trans le7
 refine⟨nofun,nm,rfl,fun _=>⟨fun _=>⟨l7,rfl⟩,fun hz=>?_⟩,fun he=>?_⟩
 ·have hz':code=0:=by simpa using hz
  subst hz'
  obtain⟨_,okr,_⟩:=convP_valid h4
  have le47:=(le5.trans le6).trans le7
  obtain⟨a0,a1,a2,au⟩:=c4
  obtain⟨b0,b1,b2,bu⟩:=c6
  have Rm:=rMoney.le R4 le47
  have Rn:=rMoney.le R6 le7
  obtain⟨⟨e0,_⟩,e1,q1,q2,hq,hs,hN⟩:=Rm
  obtain⟨⟨e0',_⟩,e1',q1',q2',hq',hs',hN'⟩:=Rn
  replace e0:a0=mo.1:=e0
  replace e1:a1=mo.2.1:=e1
  replace e0':b0=mo.1:=e0'
  replace e1':b1=mo.2.1:=e1'
  subst e0 e1
  refine(cI_MoneySame V7 _ _ _ _ a2 b2 mo.2.2.1 mo.2.2.1 q1 q1' hs hs').mono ?_
  rintro V8 _ ⟨rfl,e,rfl,he⟩
  have he':=he.2 ⟨e0'.symm,e1'.symm,rfl⟩
  subst he'
  refine⟨nofun,true,rfl,fun _=>?_,nofun⟩
  refine(cI_RatCmp V8 ra ra c4' c6' _ _ (rRat.le R4' le47) (rRat.le R6' le7) okr okr).mono ?_
  rintro V9 _ ⟨le9,rfl⟩
  refine⟨nofun,_,rfl,l7.trans le9,?_⟩
  rw [Int.sub_self]
  rfl
 ·exfalso
  refine hnm (text_eq.1 ?_)
  simpa using he
end Go.Proofs.YtmogkainbglpnaaGreatDoor
namespace Go.Proofs.YtmogkainbglpnaaGreatDoor
open Sx
def knowOf (W:World):Know:=fun b=>match W.heap[b]? with
 | some (.cells c t fr)=>(match c.toList with | [.tuple _]=>none | l=>some (l,(t,fr)))
 | _=>none
theorem knowOf_on (W:World):(knowOf W).on W:=by
 intro b c t h
 unfold knowOf at h
 split at h
 ·rename_i c' t' fr hh
  split at h
  ·cases h
  ·rename_i hne
   simp only [Option.some.injEq,Prod.mk.injEq] at h
   obtain⟨rfl,rfl⟩:=h
   rw [hh]
   unfold objOf
   split
   ·rename_i es he
    exact(hne es he).elim
   ·rfl
 ·cases h
theorem knowOf_eq {W:World} {b:Nat} {c:Array Value} {t:TypeId} {fr:Nat × Nat} (h:W.heap[b]?=some (.cells c t fr)) (hn:∀ es,c.toList≠[.tuple es]):knowOf W b=some (c.toList,(t,fr)):=by
 unfold knowOf
 rw [h]
 simp only
theorem cut_tuple {l l':List Value} {off n:Nat} (h:cutv l off n=some l') (hn:0<n) (ht:noTup l'=true):∀ es,l≠[.tuple es]:=by
 intro es e
 subst e
 unfold cutv at h
 split at h
 ·rename_i hle
  have h1:off=0∧n=1:=by simp at hle; omega
  obtain⟨rfl,rfl⟩:=h1
  simp at h
  subst h
  simp [noTup] at ht
 ·cases h
def Rd {sh:List Sc} {α:Type} (P:Program) (W:World) (t:TypeId) (r:Rp sh α):Prop :=
 ∀ {H:Type} {enc:TypeId × Value→H} {sp:Nat→Bool} {held:Bool} {fuel:Nat} {cs:List Value} {x:DataW H × List MemPlace},DataW.trod enc P W 0 sp held fuel t cs=some x →
  ∃ c a fp,cs=Scs.vals sh c∧r.R (knowOf W) c a fp
section
variable {H:Type} {enc:TypeId × Value→H} {P:Program} {W:World} {sp:Nat→Bool} {held:Bool} {fuel:Nat} {cs:List Value} {x:DataW H × List MemPlace}
theorem cells_cut {b o m:Nat} {c:Array Value} {t:TypeId} {fr:Nat × Nat} {row:List Value} (hm:0<m) (hb:W.heap[b]?=some (.cells c t fr)) (h:W.cells? 0 ⟨b,o,none⟩ m=some row):cutv c.toList o m=some row:=by
 unfold World.cells? at h
 rw [if_pos (Nat.zero_le _)] at h
 have hl:=Go.Lib.mapM_length h
 simp at hl
 have hat:∀ j,j<m→c[o+j]?=row[j]?:=by
  intro j hj
  obtain⟨v,hv,hc⟩:=Go.Lib.mapM_at h j j (by simp [hj])
  rw [addr_add_eq] at hc
  simp only [World.cell?,hb,Option.isSome_none,Bool.false_eq_true,if_false] at hc
  rw [hc,hv]
 unfold cutv
 have hlast:=hat (m-1) (by omega)
 have hlt:o+(m-1)<c.size:=by
  have:(row[m-1]?).isSome=true:=by simp [hl]; omega
  rw [← hlast] at this
  simpa using this
 rw [if_pos (by simp; omega)]
 congr 1
 apply List.ext_getElem?
 intro j
 by_cases hj:j<m
 ·rw [List.getElem?_take_of_lt hj,List.getElem?_drop,Array.getElem?_toList,hat j hj]
 ·rw [List.getElem?_eq_none (by simp; omega),List.getElem?_eq_none (by omega)]
theorem rows_flat {α β:Type} {f:α→List β} {m:Nat} (hf:∀ a,(f a).length=m):∀ {l:List α} {L:List β},(∀ (i:Nat) (h:i<l.length),cutv L (i*m) m=some (f l[i]))→∃ post,L=l.flatMap f++post
 | [],L,_=>⟨L,rfl⟩
 | a :: l,L,h=>by
  have h0:=h 0 (by simp)
  simp only [Nat.zero_mul,List.getElem_cons_zero] at h0
  unfold cutv at h0
  split at h0
  ·rename_i hm
   simp only [List.drop_zero,Option.some.injEq] at h0
   have e:L=f a++L.drop m:=by rw [← h0,List.take_append_drop]
   obtain⟨post,hp⟩:=rows_flat hf (l:=l) (L:=L.drop m) (fun i hi=>by
    have:=h (i+1) (by simpa using hi)
    simp only [List.getElem_cons_succ] at this
    have e2:(i+1)*m=(f a).length+i*m:=by rw [hf,Nat.add_mul,Nat.one_mul,Nat.add_comm]
    rw [e,e2,cutv_skip] at this
    rw [← this])
   exact⟨post,by rw [List.flatMap_cons,List.append_assoc,← hp]; exact e⟩
  ·cases h0
theorem els_of {sh:List Sc} {α:Type} {r:Rp sh α} {V:Know} {Q:Nat→Scs sh→Prop}:∀ (n:Nat),(∀ i,i<n→∃ c a f,Q i c∧r.R V c a f)→∃ cs l fps,List.length l=n∧Els r V cs l fps∧∀ (i:Nat) (h:i<cs.length),Q i cs[i]
 | 0,_=>⟨[],[],[],rfl,rfl,fun i h=>by simp at h⟩
 | n+1,h=>by
  obtain⟨cs,l,fps,h1,h2,h3⟩:=els_of n (fun i hi=>h i (by omega))
  obtain⟨c,a,f,hq,hr⟩:=h n (by omega)
  refine⟨cs++[c],l++[a],fps++f,by simp [h1],h2.snoc hr,fun i hi=>?_⟩
  have hcl:=h2.len
  by_cases hc:i<cs.length
  ·rw [List.getElem_append_left hc]; exact h3 i hc
  ·have:i=n:=by simp at hi; omega
   subst this
   rw [List.getElem_append_right (by omega)]
   simpa using hq
theorem rd_slice {sh:List Sc} {α:Type} {r:Rp sh α} {t e:TypeId} (hr:Rd P W e r) (ht:P.underlying t=some (.slice e)) (hm:P.cellsOf e=sh.length) (hpos:0<sh.length) (h:DataW.trod enc P W 0 sp held fuel t cs=some x) :
  ∃ s l f,cs=[.slice s.a s.n s.c]∧LR r (knowOf W) s l f:=by
 rcases DataW.trod_slice ht h with ⟨rfl,_⟩ | ⟨a,len,cap,elems,rest,n,_,rfl,_,_,hlc,hcap,hel,hall,_⟩
 ·exact⟨⟨none,0,0⟩,[],[],rfl,rfl,Nat.le_refl _,Nat.zero_le _,.inl ⟨rfl,fun _=>rfl,rfl⟩⟩
 ·have hmax:cap≤9223372036854775807:=hcap
  by_cases h0:len=0
  ·subst h0
   exact⟨⟨some a,0,cap⟩,[],[],rfl,rfl,Nat.zero_le _,Nat.zero_le _,.inl ⟨rfl,(fun h=>by cases h),rfl⟩⟩
  rw [hm] at hall
  -- the block
  have hrow:∀ i,i<len→∃ row y,W.cells? 0 (a.add (i*sh.length)) sh.length=some row∧DataW.trod enc P W 0 sp held n e row=some y:=by
   intro i hi
   have:=hall i hi
   have he:elems[i]?=some elems[i]:=by simp [hel,hi]
   rw [he,Option.bind_eq_some_iff] at this
   obtain⟨row,h1,h2⟩:=this
   exact⟨row,_,h1,h2⟩
  obtain⟨row0,y0,hc0,_⟩:=hrow 0 (by omega)
  obtain⟨bk,off,spot⟩:=a
  have hcell:∃ v,W.cell? ⟨bk,off,spot⟩=some v:=by
   unfold World.cells? at hc0
   rw [if_pos (Nat.zero_le _)] at hc0
   obtain⟨v,_,hv⟩:=Go.Lib.mapM_at hc0 0 0 (by simp [hpos])
   refine⟨v,?_⟩
   simpa [Addr.add] using hv
  obtain⟨v,hv⟩:=hcell
  unfold World.cell? at hv
  split at hv
  ·rename_i c ty fr hb
   split at hv
   ·cases hv
   ·rename_i hs
    have hspot:spot=none:=by simpa using hs
    subst hspot
    have hq:∀ i,i<len→∃ (c':Scs sh) (a':α) (f':List Nat),cutv c.toList (off+i*sh.length) sh.length=some (Scs.vals sh c')∧r.R (knowOf W) c' a' f':=by
     intro i hi
     obtain⟨row,y,h1,h2⟩:=hrow i hi
     rw [addr_add_eq] at h1
     obtain⟨c',a',f',rfl,hR⟩:=hr h2
     exact⟨c',a',f',cells_cut hpos hb h1,hR⟩
    obtain⟨cs,l,fps,k1,k2,k3⟩:=els_of (Q:=fun i c'=>cutv c.toList (off+i*sh.length) sh.length=some (Scs.vals sh c')) len hq
    have hoff:off≤c.toList.length:=by
     obtain⟨c',_,_,hc',_⟩:=hq 0 (by omega)
     unfold cutv at hc'
     split at hc'
     ·omega
     ·cases hc'
    have hpre:(c.toList.take off).length=off:=by rw [List.length_take]; omega
    have hflat:∃ post,c.toList.drop off=cs.flatMap (Scs.vals sh)++post:=by
     refine rows_flat (vals_len sh) fun i hi=>?_
     have:=k3 i hi
     rw [← List.take_append_drop off c.toList] at this
     have e2:off+i*sh.length=(c.toList.take off).length+i*sh.length:=by rw [hpre]
     rw [e2,cutv_skip] at this
     exact this
    obtain⟨post,hpost⟩:=hflat
    refine⟨⟨some ⟨bk,off,none⟩,len,cap⟩,l,bk :: fps,rfl,k1.symm,hlc,Nat.le_trans hlc hmax,.inr ⟨bk,c.toList.take off,post,(ty,fr),fps,cs,by rw [hpre],?_,k2,rfl⟩⟩
    obtain⟨c0,_,_,hc0',_⟩:=hq 0 (by omega)
    rw [knowOf_eq hb (cut_tuple hc0' hpos (vals_noTup sh c0)),← hpost,List.take_append_drop]
  ·cases hv
end
end Go.Proofs.YtmogkainbglpnaaGreatDoor
