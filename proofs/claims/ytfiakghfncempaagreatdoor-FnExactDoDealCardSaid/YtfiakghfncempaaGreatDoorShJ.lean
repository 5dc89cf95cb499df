/-
  What shares come to, as data.
-/
import Derived.Test.YtfiakghfncempaaGreatDoorTotC
import Derived.Test.YtfiakghfncempaaGreatDoorSrtZ
import Derived.Test.YtfiakghfncempaaGreatDoorWr
import Derived.Test.YtfiakghfncempaaGreatDoorValid
namespace Go.Proofs.YtfiakghfncempaaGreatDoor
open Sx
set_option maxRecDepth 100000
theorem int_red {n:Bool} {m:List Lim} (h:IntOkP n m) (hl:m.length≤18):RedS (sval n m) 1 (n,m,[((1:Int),())],()) true:=by
 have h0:=valN_nonneg h.1.1.1
 refine⟨m,[(1,())],⟨h.1.1,oneI_ok.1.1,?_,by rw [valN_one,Int.gcd_one]; rfl⟩,.inl ⟨hl,by simp,rfl,?_⟩⟩
 ·rw [Int.gcd_one,sval_abs h.1.1.1]; simp
 ·have:decide (sval n m<0)=n:=by
   unfold sval
   cases n with
   | false=>simp; omega
   | true =>
    have:=(can_pos h.1.1).1 (h.2 rfl)
    simp; omega
  rw [this]
end Go.Proofs.YtfiakghfncempaaGreatDoor
namespace Go.Proofs.YtfiakghfncempaaGreatDoor
open Sx
set_option maxRecDepth 100000
def RmP (x:Int):Prop:=0≤x∧x≤6
theorem rS_l06Mode (V:Know) (x:Int):CallX Tryz.prog V 216 [.int .i64 x] (fun V' r=>V'=V∧r=.bool (decide (0≤x∧x≤6))):=by
 refine CallX.of_fits Tryz.mix (fS_l06Mode _) fun _=>?_
 simp only [tS_l06Mode,T.wp]
 refine(cS_l01In V x 0 6).mono ?_
 rintro V1 r ⟨rfl,rfl⟩
 exact⟨nofun,_,rfl,rfl,rfl⟩
theorem cmpL_sgn {a b:List Lim} (ha:Can a) (hb:Can b):cmpL a b=sgn (valN a-valN b):=by
 unfold sgn
 rcases cmpL_val ha hb with ⟨c,k⟩ | ⟨c,k⟩ | ⟨c,k⟩
 ·rw [if_pos (by omega),c]
 ·rw [if_neg (by omega),if_pos (by omega),c]
 ·rw [if_neg (by omega),if_neg (by omega),c]
theorem par_odd {l:List Lim} (h:Can l):(l.length=0→decide (valN l % 2=1)=false)∧(∀ h0:0<l.length,(!((l[0]'h0).1.tmod 2 == 0))=decide (valN l % 2=1)):=by
 refine⟨fun h0=>?_,fun h0=>?_⟩
 ·rw [(can_empty h).1 h0]; rfl
 ·rw [val_par h0,limb_lt h0]
  have:=h.1 0
  rw [limb_lt h0] at this
  rw [Int.tmod_eq_emod_of_nonneg this.1]
  by_cases e:(l[0]'h0).1 % 2=0
  ·rw [e]; rfl
  ·have e1:(l[0]'h0).1 % 2=1:=by omega
   rw [e1]; rfl
theorem cS_NatEven (V:Know) (s:SlV) (l:List Lim) (f:List Nat) (h:LR rI V s l f) (hc:NatOkP l):CallX Tryz.prog V 243 [Sc.val .l s] (fun V' r=>V'=V∧r=.bool (!decide (valN l % 2=1))):=by
 refine CallX.of_fits Tryz.mix (fS_NatEven _) fun _=>?_
 simp only [tS_NatEven,T.wp]
 have hn:=h.1
 refine(cS_NatOk V s l f h).mono ?_
 rintro V1 r ⟨rfl,e,rfl,he⟩
 obtain rfl:e=true:=he.2 hc
 refine⟨nofun,true,rfl,fun _=>⟨fun hz=>⟨rfl,?_⟩,fun hz=>?_⟩,nofun⟩
 ·have:(s.n:Int)=0:=by simpa using hz
  rw [(par_odd hc.1).1 (by omega)]; rfl
 ·have h1:¬ (s.n:Int)=0:=by simpa using hz
  have h0:0<l.length:=by omega
  obtain⟨b1,o1,a1,l1⟩:=h.int h0
  refine⟨_,a1,Int.le_refl _,by omega,l[0].1,l1,by decide,rfl,?_⟩
  rw [← (par_odd hc.1).2 h0,Bool.not_not]; rfl
theorem away6 {n:Bool} {c:Int} {o:Bool}:awayB 6 n c o=(decide (c > 0) || (decide (c=0) && o)):=rfl
abbrev RndPost (V:Know) (m:Int) (c:Bool) (n d:List Lim):Know→Value→Prop:=fun V' r=>V.le V'∧∃ e q s f,r=qv0 (e,s,())∧LR rI V' s q f∧Own V V' f∧Can q∧valN q=rndN m c (valN n) (valN d)∧e=(c && decide (0<q.length))
theorem one_limb {V:Know} {b cp:Nat} {sp:List Value} (hb:V b=none) (hc:1≤cp):LR rI (kset V b ([.int .i64 1]++sp,(3,(0,0)))) ⟨some ⟨b,0,none⟩,1,cp⟩ [((1:Int),())] [b] :=
 (newI (V:=V) (b:=b) (cap:=cp) (o:=[((1:Int),())]) (spare:=sp) (t:=3) hb hc (by decide)).1
theorem rest_pos {r:List Lim} (h:Can r) {s:SlV} (hs:s.n=r.length):(decide ((s.n:Int) > 0)=true→0<valN r)∧(decide ((s.n:Int) > 0)=false→valN r=0):=by
 refine⟨fun k=>?_,fun k=>?_⟩
 ·have:=of_decide_eq_true k
  exact(can_pos h).1 (by omega)
 ·have:=of_decide_eq_false k
  exact(can_empty h).1 (by omega)
theorem cS_l06Away (V:Know) (c:Bool) (s1 s2 s3:SlV) (q r d:List Lim) (f1 f2 f3:List Nat) (L1:LR rI V s1 q f1) (L2:LR rI V s2 r f2) (L3:LR rI V s3 d f3) (Cq:NatOkP q) (Cr:Can r) (Cd:Can d) (lr:r.length≤40) (m:Int) (hm:RmP m) :
  CallX Tryz.prog V 237 [.bool c,Sc.val .l s1,Sc.val .l s2,Sc.val .l s3,.int .i64 m] (fun V' ret=>V.le V'∧ret=.bool (awayB m c (sgn (valN r+valN r-valN d)) (decide (valN q % 2=1)))):=by
 refine CallX.of_fits Tryz.mix (fS_l06Away _ _ _ _ _) fun _=>?_
 simp only [tS_l06Away,T.wp]
 refine(cS_l02Add V s2 s2 r r f2 f2 L2 L2 Cr.1 Cr.1 (by omega) (by omega)).mono ?_
 rintro V1 _ ⟨le1,s4,o4,f4,rfl,L4,_,_,v4,_,C4⟩
 refine⟨nofun,s4,rfl,(cS_l02Cmp V1 s4 s3 o4 d f4 f3 L4 (L3.le le1)).mono ?_⟩
 rintro V2 _ ⟨rfl,rfl⟩
 have ec:cmpL o4 d=sgn (valN r+valN r-valN d):=by rw [cmpL_sgn (C4 Cr Cr) Cd,v4]
 rw [ec]
 generalize sgn (valN r+valN r-valN d)=z
 refine⟨nofun,_,rfl,fun h0=>?_,fun h0=>⟨fun h1=>?_,fun h1=>⟨fun h2=>?_,fun h2=>⟨fun h3=>?_,fun h3=>⟨fun h4=>?_,fun h4=>⟨fun h5=>?_,fun h5=>?_⟩⟩⟩⟩⟩⟩
 ·obtain rfl:m=0:=by simpa using h0
  exact⟨le1,rfl⟩
 ·obtain rfl:m=1:=by simpa using h1
  exact⟨le1,rfl⟩
 ·obtain rfl:m=2:=by simpa using h2
  exact⟨le1,rfl⟩
 ·obtain rfl:m=3:=by simpa using h3
  exact⟨le1,rfl⟩
 ·obtain rfl:m=4:=by simpa using h4
  exact⟨le1,rfl⟩
 ·obtain rfl:m=5:=by simpa using h5
  exact⟨le1,rfl⟩
 have k0:¬ m=0:=by simpa using h0
 have k1:¬ m=1:=by simpa using h1
 have k2:¬ m=2:=by simpa using h2
 have k3:¬ m=3:=by simpa using h3
 have k4:¬ m=4:=by simpa using h4
 have k5:¬ m=5:=by simpa using h5
 have:=hm.1
 have:=hm.2
 obtain rfl:m=6:=by omega
 rw [away6]
 refine⟨fun hz=>⟨le1,by rw [hz]; rfl⟩,fun hz=>⟨fun he=>(cS_NatEven V2 s1 q f1 (L1.le le1) Cq).mono ?_,fun he=>⟨le1,?_⟩⟩⟩
 ·rintro V3 _ ⟨rfl,rfl⟩
  obtain rfl:z=0:=by simpa using he
  refine⟨nofun,_,rfl,le1,?_⟩
  rw [Bool.not_not]; rfl
 ·have:¬ z=0:=by simpa using he
  rw [hz,decide_eq_false this]; rfl
theorem cS_l06Round (V:Know) (c:Bool) (s s':SlV) (n d:List Lim) (f f':List Nat) (h:LR rI V s n f) (h':LR rI V s' d f') (hn:Can n) (hd:Can d) (ln:n.length≤40) (ld:0<d.length) (ld2:d.length≤40) (m:Int) (hm:RmP m) :
  CallX Tryz.prog V 217 [qv1 (c,s,s',()),.int .i64 m] (RndPost V m c n d):=by
 refine CallX.of_fits Tryz.mix (fS_l06Round _ _) fun _=>?_
 simp only [tS_l06Round,T.wp]
 have dp:=(can_pos hd).1 ld
 refine(cS_l03Div V s s' n d f f' h h' hn hd (by omega) ld (by omega)).mono ?_
 rintro V1 _ ⟨le1,s1,s2,q,r,f1,f2,rfl,L1,L2,O1,O2,Cq,Cr,hv,hr⟩
 have r0:=valN_nonneg Cr.1
 have q0:=valN_nonneg Cq.1
 have n0:=valN_nonneg hn.1
 obtain⟨eq1,eq2⟩:=quot_mod hv r0 hr
 have hqd:1*valN q≤valN d*valN q:=Int.mul_le_mul_of_nonneg_right (by omega) q0
 have hqd2:valN d*valN q=valN q*valN d:=Int.mul_comm _ _
 have lq:=can_len hn Cq (by omega)
 have ns2:=L2.1
 have fin:∀ V2,V1.le V2→∀ (s3:SlV) (o:List Lim) (f3:List Nat),LR rI V2 s3 o f3→Can o→o.length≤50→valN o=rndN m c (valN n) (valN d) →
   CallX Tryz.prog V2 187 [.bool c,Sc.val .l s3] (fun V' r=>RndPost V m c n d V' r):=by
  intro V2 le2 s3 o f3 L3 C3 l3 v3
  refine(cS_l04Make V2 c s3 o f3 L3 C3 l3).mono ?_
  rintro V3 _ ⟨le3,s4,f4,rfl,L4,O4⟩
  exact⟨(le1.trans le2).trans le3,_,o,s4,f4,rfl,L4,O4.pre (le1.trans le2),C3,v3,rfl⟩
 refine⟨nofun,(s1,s2,()),rfl,fun hp=>?_,fun hz=>?_⟩
 rotate_left
 ·have z:=(rest_pos Cr ns2).2 hz
  refine(fin V1 (Know.le.refl _) s1 q f1 L1 Cq (by omega) ?_).mono ?_
  ·rw [rnd_down,← eq1]
   rintro⟨k,_⟩
   omega
  ·rintro V2 r hR
   have hR':=hR
   obtain⟨le2,e,o,s3,f3,rfl,_⟩:=hR'
   exact⟨nofun,(e,s3,()),rfl,hR⟩
 have rp:=(rest_pos Cr ns2).1 hp
 have lr:=can_len hd Cr (by omega)
 refine(cS_l06Away V1 c s1 s2 s' q r d f1 f2 f' L1 L2 (h'.le le1) ⟨Cq,by omega⟩ Cr hd (by omega) m hm).mono ?_
 rintro V2 _ ⟨le2,rfl⟩
 refine⟨nofun,_,rfl,fun hu=>?_,fun hu=>?_⟩
 ·rw [eq1,eq2] at hu
  intro b cp sp hb hcp _
  have L7:=one_limb (sp:=sp) hb (show 1≤cp from hcp)
  have le7:=kset_le (x:=([Value.int .i64 1]++sp,((3:TypeId),((0,0):Nat × Nat)))) hb
  refine(cS_l02Add _ s1 ⟨some ⟨b,0,none⟩,1,cp⟩ q _ f1 [b] (L1.le (le2.trans le7)) L7 Cq.1 oneI_ok.1.1.1 (by omega) (by simp)).mono ?_
  rintro V8 _ ⟨le8,s8,o8,f8,rfl,L8,O8,_,v8,n8,C8⟩
  have l8:=(le2.trans le7).trans le8
  have n8':o8.length≤50:=by
   have:Nat.max q.length [((1:Int),())].length≤41:=Nat.max_le.2 ⟨by omega,by simp⟩
   omega
  refine⟨nofun,s8,rfl,(fin V8 l8 s8 o8 f8 L8 (C8 Cq oneI_ok.1.1) n8' ?_).mono ?_⟩
  ·rw [v8,valN_one,rnd_up ⟨by omega,hu⟩,eq1]
  ·rintro V9 r hR
   have hR':=hR
   obtain⟨_,e,o,s9,f9,rfl,_⟩:=hR'
   exact⟨nofun,(e,s9,()),rfl,hR⟩
 ·rw [eq1,eq2] at hu
  refine(fin V2 le2 s1 q f1 (L1.le le2) Cq (by omega) ?_).mono ?_
  ·rw [rnd_down,← eq1]
   rintro⟨_,k⟩
   rw [k] at hu; cases hu
  ·rintro V7 r hR
   have hR':=hR
   obtain⟨_,e,o,s9,f9,rfl,_⟩:=hR'
   exact⟨nofun,(e,s9,()),rfl,hR⟩
theorem neg_ok {d:Bool} {m e:List Lim} (h:RatOkP d m e):RatOkP (!d && decide (0<m.length)) m e∧sval (!d && decide (0<m.length)) m=-sval d m:=by
 obtain⟨k1,k2⟩:=made_ok (q:=!d) h.1.1.1 (by have:=h.2.2.2.2.1; omega)
 refine⟨⟨k1,h.2⟩,?_⟩
 rw [k2]
 unfold sval
 cases d <;> simp
theorem rS_RatNeg (V:Know) (d:Bool) (s s':SlV) (m e:List Lim) (f f':List Nat) (h:LR rI V s m f) (h':LR rI V s' e f') (ok:RatOkP d m e) :
  CallX Tryz.prog V 219 [qv1 (d,s,s',())] (fun V' r=>V.le V'∧∃ t t' g g',r=.tuple #[qv1 (!d && decide (0<m.length),t,t',()),.bool true]∧LR rI V' t m g∧LR rI V' t' e g'∧Own V V' (g++(g'++[]))):=by
 refine CallX.of_fits Tryz.mix (fS_RatNeg _) fun _=>?_
 simp only [tS_RatNeg,T.wp]
 have z3:=ok.2.2.1
 have z4:=ok.2.2.2.1
 have hn:=h'.1
 refine(cS_RatOk V d s s' m e f f' h h').mono ?_
 rintro V1 _ ⟨le1,e1,rfl,he⟩
 obtain rfl:e1=true:=he.2 ok
 refine⟨nofun,true,rfl,nofun,fun _=>(rS_IntNeg V1 d s m f (h.le le1) ok.1).mono ?_⟩
 rintro V2 _ ⟨le2,s2,f2,rfl,L2,O2⟩
 refine⟨fun _=>le2,_,rfl,fun b hb=>?_⟩
 have k1:=kset_le (x:=(([]:List Value),((3:TypeId),((0,0):Nat × Nat)))) hb
 obtain⟨r1,r2⟩:=(h'.le le1).rdI
 refine⟨e.map cellI,?_,⟨r2,by omega,by omega⟩,fun hz=>?_,fun _ b2 cp sp hb2 hcp _=>?_⟩
 ·rcases r1 with ⟨a,_,c⟩ | ⟨ad,a,c⟩
  ·exact .inl ⟨a,c⟩
  ·exact .inr ⟨ad,a,c⟩
 ·have:s'.n=0:=of_decide_eq_true hz
  omega
 have hcp':s'.n≤cp:=hcp
 have nw:=newI (V:=kset V2 b ([],(3,(0,0)))) (b:=b2) (cap:=cp) (o:=e) (spare:=sp) (t:=3) hb2 (by omega) (by omega)
 have k2:=kset_le (x:=(e.map cellI++sp,((3:TypeId),((0,0):Nat × Nat)))) hb2
 have l2:=le1.trans le2
 refine⟨l2.trans (k1.trans k2),s2,⟨some ⟨b2,0,none⟩,s'.n,cp⟩,f2,[b2],rfl,L2.le (k1.trans k2),?_,?_⟩
 ·rw [hn]; exact nw.1
 ·exact Own.append (O2.pre le1) (Own.append (nw.2.pre k1) Own.nil (k1.trans k2) (Know.le.refl _)) l2 (k1.trans k2)
theorem rS_RatSub (V:Know) (c0:Bool) (c1 c2:SlV) (d0:Bool) (d1 d2:SlV) (n d m e:List Lim) (f g f' g':List Nat) (h1:LR rI V c1 n f) (h2:LR rI V c2 d g) (h3:LR rI V d1 m f') (h4:LR rI V d2 e g') (hr:RatOkP c0 n d) (hs:RatOkP d0 m e) :
  CallX Tryz.prog V 239 [qv1 (c0,c1,c2,()),qv1 (d0,d1,d2,())] (RatPost V (sval c0 n*valN e-sval d0 m*valN d) (valN d*valN e)):=by
 refine CallX.of_fits Tryz.mix (fS_RatSub _ _) fun _=>?_
 simp only [tS_RatSub,T.wp]
 refine(rS_RatNeg V d0 d1 d2 m e f' g' h3 h4 hs).mono ?_
 rintro V2 _ ⟨le2,t,t',k,k',rfl,L2,L2',_⟩
 obtain⟨ok,es⟩:=neg_ok hs
 refine⟨nofun,(_,true,()),rfl,nofun,fun _=>(cS_RatAdd V2 c0 c1 c2 _ t t' n d m e f g k k' (h1.le le2) (h2.le le2) L2 L2' hr ok).mono ?_⟩
 rintro V3 _ ⟨le3,c4,x4,e4,f4,rfl,R4,O4,hx⟩
 rw [es,Int.neg_mul] at hx
 exact⟨nofun,(c4,e4,()),rfl,le2.trans le3,c4,x4,e4,f4,rfl,R4,O4.pre le2,hx⟩
abbrev RoundPost (V:Know) (m:Int) (x:DRat):Know→Value→Prop:=fun V' r=>V.le V'∧∃ e q s f,r=.tuple #[qv0 (e,s,()),.bool true]∧LR rI V' s q f∧Own V V' f∧RndP m x e q
theorem cS_RatRound (V:Know) (x:DRat) (s s':SlV) (f f':List Nat) (h:LR rI V s x.2.1 f) (h':LR rI V s' x.2.2.1 f') (ok:RatOkP x.1 x.2.1 x.2.2.1) (m:Int) (hm:RmP m) :
  CallX Tryz.prog V 179 [qv1 (x.1,s,s',()),.int .i64 m] (RoundPost V m x):=by
 refine CallX.of_fits Tryz.mix (fS_RatRound _ _) fun _=>?_
 simp only [tS_RatRound,T.wp]
 have z:=ok.2.2.2.2.1
 have z1:=ok.2.2.2.1
 refine(cS_RatOk V x.1 s s' x.2.1 x.2.2.1 f f' h h').mono ?_
 rintro V1 _ ⟨le1,e1,rfl,he⟩
 obtain rfl:e1=true:=he.2 ok
 refine⟨nofun,true,rfl,nofun,fun _=>(rS_l06Mode V1 m).mono ?_⟩
 rintro V2 _ ⟨rfl,rfl⟩
 refine⟨nofun,_,rfl,fun hn=>?_,fun _=>(cS_l06Round V2 x.1 s s' x.2.1 x.2.2.1 f f' (h.le le1) (h'.le le1) ok.1.1.1 ok.2.1.1 (by omega) ok.2.2.1 (by omega) m hm).mono ?_⟩
 ·rw [decide_eq_true (show 0≤m∧m≤6 from hm)] at hn; cases hn
 rintro V3 _ ⟨le3,e,q,s3,f3,rfl,L3,O3,C3,v3,e3⟩
 exact⟨nofun,(e,s3,()),rfl,le1.trans le3,e,q,s3,f3,rfl,L3,O3.pre le1,C3,v3,e3⟩
theorem left_of {m:Int} {x w y:DRat} {e:Bool} {q:List Lim} {ey:Bool} (ok:RatOkP x.1 x.2.1 x.2.2.1) (hq:RndP m x e q) (hw:RedS (sval e q) 1 w true) (hy:RedS (sval x.1 x.2.1*valN w.2.2.1-sval w.1 w.2.1*valN x.2.2.1) (valN x.2.2.1*valN w.2.2.1) y ey):ey=true∧LeftP x e q y:=by
 have xp:=(can_pos ok.2.1.1).1 ok.2.2.1
 obtain⟨v1,wp,_⟩:=redS_val (by decide) hw
 rw [Int.mul_one] at v1
 have key:RedS (sval x.1 x.2.1-sval e q*valN x.2.2.1) (valN x.2.2.1) y ey:=by
  refine redS_cross (Int.mul_pos xp wp) xp ?_ hy
  rw [v1]
  grind
 obtain⟨b1,b2,b3⟩:=left_bd ok hq
 obtain rfl:=redS_fits b2 key b1 b3
 exact⟨rfl,key⟩
abbrev RestPost (V:Know) (m:Int) (x:DRat):Know→Value→Prop:=fun V' r=>V.le V'∧∃ e q s f y c g,r=.tuple #[qv0 (e,s,()),qv1 c,.bool true]∧LR rI V' s q f∧rRat.R V' c y g∧Own V V' (f++g)∧RndP m x e q∧LeftP x e q y
theorem cS_RatRest (V:Know) (x:DRat) (s s':SlV) (f f':List Nat) (h:LR rI V s x.2.1 f) (h':LR rI V s' x.2.2.1 f') (ok:RatOkP x.1 x.2.1 x.2.2.1) (m:Int) (hm:RmP m) :
  CallX Tryz.prog V 218 [qv1 (x.1,s,s',()),.int .i64 m] (RestPost V m x):=by
 refine CallX.of_fits Tryz.mix (fS_RatRest _ _) fun _=>?_
 simp only [tS_RatRest,T.wp]
 refine(cS_RatRound V x s s' f f' h h' ok m hm).mono ?_
 rintro V1 _ ⟨le1,e,q,s1,f1,rfl,L1,O1,hq⟩
 obtain⟨q1,q2,_⟩:=rnd_len ok hq
 refine⟨nofun,((e,s1,()),true,()),rfl,(cS_RatInt V1 e s1 q f1 L1 q2).mono ?_⟩
 rintro V2 _ ⟨le2,c2,w,e2,f2,rfl,R2,O2,hw⟩
 obtain⟨_,ee⟩:=redS_inj (by decide) hw (int_red q2 q1)
 subst ee
 have l2:=le1.trans le2
 obtain⟨a5,b5,g5,g5',rfl,A5,B5,rfl⟩:=rat_elim R2
 refine⟨nofun,(_,true,()),rfl,(rS_RatSub V2 x.1 s s' w.1 a5 b5 x.2.1 x.2.2.1 w.2.1 w.2.2.1 f f' _ _ (h.le l2) (h'.le l2) A5 B5 ok (redS_ok (by decide) hw rfl)).mono ?_⟩
 rintro V3 _ ⟨le3,c3,y,e3,f3,rfl,R3,O3,hy⟩
 obtain⟨ee,hl⟩:=left_of ok hq hw hy
 subst ee
 exact⟨nofun,(c3,true,()),rfl,nofun,fun _=>⟨nofun,fun _=>⟨nofun,fun _=>⟨l2.trans le3,e,q,s1,f1,y,c3,f3,rfl,L1.le (le2.trans le3),R3,Own.append O1 (O3.pre le2) le1 (le2.trans le3),hq,hl⟩⟩⟩⟩
abbrev nought:DRat:=(false,[],[((1:Int),())],())
end Go.Proofs.YtfiakghfncempaaGreatDoor
namespace Go.Proofs.YtfiakghfncempaaGreatDoor
open Sx Srt
set_option maxRecDepth 100000
abbrev FrPost (V:Know):Know→Value→Prop:=fun V' r=>V.le V'∧∃ c,r=.tuple #[qv1 c,.bool true]
theorem cI_FairShare (V:Know) (c0:Bool) (c1:SlV) (a:List Lim) (f:List Nat) (h:LR rI V c1 a f) (hi:IntOkP c0 a) (la:a.length≤4) (s:SlV) (w:List Lim) (g:List Nat) (hs:LR rI V s w g) (hw:WtP w) (i:Nat) (hiw:i<w.length) :
  CallX Tryz.prog V 313 [qv0 (c0,c1,()),Sc.val .l s,.int .i64 (i:Int)] (FrPost V):=by
 refine CallX.of_fits Tryz.mix (fI_FairShare (c0,c1,()) _ _) fun _=>?_
 simp only [tI_FairShare,T.wp]
 have hn:=hs.1
 have h30:=hw.2.1
 have hwi:=hw.2.2.1 i hiw
 have hsm:=wt_bd hw.2.2.1 (Nat.le_refl w.length)
 refine(cI_WeightsOk V s w g hs).mono ?_
 rintro V1 _ ⟨rfl,e,rfl,he⟩
 have e1:e=true:=he.2 hw
 subst e1
 refine⟨nofun,true,rfl,(fun h=>by cases h),fun _=>⟨fun h=>?_,fun _=>⟨fun h=>?_,fun _=>(cI_IntOk V1 c0 c1 a f h).mono ?_⟩⟩⟩
 ·have:(i:Int)<0:=of_decide_eq_true h
  omega
 ·have:(i:Int)≥(s.n:Int):=of_decide_eq_true h
  omega
 rintro V2 _ ⟨rfl,e,rfl,he2⟩
 have e1:e=true:=he2.2 hi
 subst e1
 obtain⟨b,o,ha,hl⟩:=hs.int hiw
 refine⟨nofun,true,rfl,(fun h=>by cases h),fun _=>⟨_,ha,(by omega:(0:Int)≤(i:Int)),(by omega:(i:Int)<(s.n:Int)),w[i].1,hl,(cI_NatOf V2 _ (by rw [limb_at hiw]; omega)).mono ?_⟩⟩
 rintro V3 _ ⟨le3,s3,o3,f3,rfl,L3,_,C3,v3,l3⟩
 refine⟨fun _=>le3,s3,rfl,(cI_natMul V3 c1 s3 a o3 f f3 (h.le le3) L3 hi.1.1.1 C3.1 (by omega) (by omega)).mono ?_⟩
 rintro V4 _ ⟨le4,s4,o4,b4,rfl,N4,_,C4,v4,_⟩
 have l4:=mul_len C3 C4 hi.1.1.1 v4
 refine⟨fun _=>le4,s4,rfl,(cI_signed V4 c0 s4).mono ?_⟩
 rintro V5 _ ⟨rfl,rfl⟩
 have L4:=N4.lr
 have hn4:=L4.1
 have le04:=le3.trans le4
 refine⟨nofun,(c0 && decide ((s4.n:Int) > 0),s4,()),rfl,(cI_sumInts V5 s w g (hs.le le04) hw.2.2.1 h30).mono ?_⟩
 rintro V6 _ ⟨rfl,rfl⟩
 refine⟨nofun,_,rfl,(cI_NatOf V6 (smL w) (by unfold smL; omega)).mono ?_⟩
 rintro V7 _ ⟨le7,s7,o7,f7,rfl,L7,_,C7,v7,l7⟩
 have hpos:0<valN o7:=by rw [v7]; exact hw.2.2.2
 refine⟨nofun,s7,rfl,(cI_reduce V7 _ s4 s7 o4 o7 _ f7 (L4.le le7) L7 C4 C7 hpos (by omega) (by omega)).mono ?_⟩
 rintro V8 _ ⟨le8,c8,x8,e8,f8,rfl,_,_,hR⟩
 have he8:e8=true:=redS_small hR C4 C7 (sval_abs C4.1) rfl hpos (by omega) (by omega)
 subst he8
 exact⟨nofun,(c8,true,()),rfl,(le04.trans le7).trans le8,c8,rfl⟩
theorem cI_NatInt (V:Know) (s:SlV) (l:List Lim) (f:List Nat) (h:LR rI V s l f) (hc:Can l) (hl:l.length≤1):CallX Tryz.prog V 318 [Sc.val .l s] (fun V' r=>V.le V'∧r=.tuple #[.int .i64 (valN l),.bool true]):=by
 refine CallX.of_fits Tryz.mix (fI_NatInt _) fun _=>?_
 simp only [tI_NatInt,T.wp]
 have hn:=h.1
 refine(cI_NatOk V s l f h).mono ?_
 rintro V1 _ ⟨rfl,e,rfl,he⟩
 have e1:e=true:=he.2 ⟨hc,by omega⟩
 subst e1
 refine⟨nofun,true,rfl,(fun h=>by cases h),fun _=>(cI_NatOf V1 9223372036854775807 (by decide)).mono ?_⟩
 rintro V2 _ ⟨le2,s2,o2,f2,rfl,L2,_,C2,v2,_⟩
 have L:=h.le le2
 refine⟨nofun,s2,rfl,(cI_natCmp V2 s s2 l o2 f f2 L L2).mono ?_⟩
 rintro V3 _ ⟨rfl,rfl⟩
 have hcmp:=cmpL_val hc C2
 have hv:valN l=if l.length=0 then 0 else limb l 0:=by
  have h0:=hc.1 0
  cases l with
  | nil=>rfl
  | cons x r =>
   cases r with
   | nil=>rw [if_neg (by simp)]; show valTo [x] 1=_; simp [valTo]
   | cons y r=>simp at hl
 have hsm:valN l≤9223372036854775807:=by
  rw [hv]
  have:=hc.1 0
  split <;> omega
 refine⟨nofun,_,rfl,fun hgt=>?_,fun _=>?_⟩
 ·have:cmpL l o2 > 0:=of_decide_eq_true hgt
  unfold Cmps at hcmp
  omega
 refine⟨fun q V'=>V'=V3∧((q.2.1=(l.length:Int)-1∧q.1=(0:Int))∨(q.2.1=(-1:Int)∧q.1=valN l)),fun q _=>((q.2.1:Int)+1).toNat,⟨((0:Int),(l.length:Int)-1,()),by rw [wrap_i64 (by omega),hn]; rfl,rfl,.inl ⟨rfl,rfl⟩⟩,?_⟩
 rintro⟨(t:Int),(i:Int),u⟩ V' ⟨rfl,hst⟩
 refine⟨fun hge=>?_,fun hlt=>?_⟩
 ·have hi:i≥0:=of_decide_eq_true hge
  rcases hst with ⟨e1,e2⟩ | ⟨e1,e2⟩
  ·replace e1:i=(l.length:Int)-1:=e1
   replace e2:t=0:=e2
   have hl1:l.length=1:=by omega
   have ei:i=0:=by omega
   subst e2 ei
   obtain⟨b,o,ha,hld⟩:=L.int (i:=0) (by omega)
   refine⟨_,ha,(by show(0:Int)≤0; decide),(by show(0:Int)<(s.n:Int); omega),(l[0]'(by omega)).1,hld,_,rfl,(valN l,(-1:Int),()),?_,⟨rfl,.inr ⟨rfl,rfl⟩⟩,by show((-1:Int)+1).toNat<((0:Int)+1).toNat; decide⟩
   have h0:=hc.1 0
   have ew:IntKind.i64.wrap (IntKind.i64.wrap ((0:Int)*1000000000)+(l[0]'(by omega)).1)=valN l:=by
    rw [limb_at (by omega:0<l.length),wrap_i64 (n:=(0:Int)*1000000000) (by decide),wrap_i64 (by omega),hv,if_neg (by omega)]
    omega
   have ew2:IntKind.i64.wrap ((0:Int)-1)=-1:=by decide
   dsimp only
   rw [ew,ew2]; rfl
  ·replace e1:i=-1:=e1
   omega
 ·have hi:¬ i≥0:=of_decide_eq_false hlt
  rcases hst with ⟨e1,e2⟩ | ⟨e1,e2⟩
  ·replace e1:i=(l.length:Int)-1:=e1
   replace e2:t=0:=e2
   have:valN l=0:=by rw [hv,if_pos (by omega)]
   rw [this]
   subst e2
   exact⟨le2,rfl⟩
  ·replace e2:t=valN l:=e2
   subst e2
   exact⟨le2,rfl⟩
end Go.Proofs.YtfiakghfncempaaGreatDoor
namespace Go.Proofs.YtfiakghfncempaaGreatDoor
open Sx Srt
set_option maxRecDepth 100000
def qv (A D:Int) (w:List Lim) (i:Nat):Int:=A*limb w i / D
def rv (A D:Int) (w:List Lim) (i:Nat):Int:=A*limb w i % D
theorem rv_bd {A D:Int} {w:List Lim} (hD:0<D) (i:Nat):0≤rv A D w i∧rv A D w i<D:=⟨Int.emod_nonneg _ (by omega),Int.emod_lt_of_pos _ hD⟩
theorem qv_nn {A D:Int} {w:List Lim} (hA:0≤A) (hD:0<D) (hw:WtIn w) {i:Nat} (hi:i<w.length):0≤qv A D w i:=Int.ediv_nonneg (Int.mul_nonneg hA (hw i hi).1) (by omega)
theorem sm_mono {r r':Nat→Int}:∀ {n:Nat},(∀ i,i<n→r i≤r' i)→sm r n≤sm r' n
 | 0,_=>Int.le_refl _
 | n+1,h=>by
  have h1:=sm_mono (n:=n) fun i hi=>h i (by omega)
  have h2:=h n (by omega)
  unfold sm
  omega
theorem sm_part {r:Nat→Int} {n:Nat}:∀ {m:Nat},n≤m→(∀ i,i<m→0≤r i)→sm r n≤sm r m
 | 0,h,_=>by
  have:n=0:=by omega
  subst this; exact Int.le_refl _
 | m+1,h,hr=>by
  by_cases e:n=m+1
  ·subst e; exact Int.le_refl _
  ·have h1:=sm_part (n:=n) (m:=m) (by omega) fun i hi=>hr i (by omega)
   have h2:=hr m (by omega)
   show sm r n≤sm r m+r m
   omega
theorem q_sum {A:Int} {w:List Lim} (hA:0≤A) (hw:WtP w) {k:Nat} (hk:k≤w.length):sm (qv A (smL w) w) k≤A:=by
 have hD:=hw.2.2.2
 have h1:smL w*sm (qv A (smL w) w) k≤smL w*A:=by
  rw [← sm_mul]
  have h2:sm (fun i=>smL w*qv A (smL w) w i) k≤sm (fun i=>A*limb w i) k:=sm_mono fun i _=>by
   have:=Int.mul_ediv_add_emod (A*limb w i) (smL w)
   have:=Int.emod_nonneg (A*limb w i) (show smL w≠0 by omega)
   unfold qv
   omega
  rw [sm_mul (limb w) A k] at h2
  have h3:sm (limb w) k≤smL w:=sm_part hk fun i hi=>(hw.2.2.1 i hi).1
  have h4:=Int.mul_le_mul_of_nonneg_left h3 hA
  rw [Int.mul_comm (smL w) A]
  omega
 exact Int.le_of_mul_le_mul_left h1 hD
theorem left_ex {A:Int} {w:List Lim} (hA:0≤A) (hw:WtP w):∃ left:Nat,(left:Int)=A-sm (qv A (smL w) w) w.length∧left≤w.length∧sm (rv A (smL w) w) w.length=smL w*(left:Int):=by
 have hD:=hw.2.2.2
 have h1:=q_sum hA hw (Nat.le_refl w.length)
 refine⟨(A-sm (qv A (smL w) w) w.length).toNat,by omega,?_,?_⟩
 ·have h2:=rest_sum (A:=A) (D:=smL w) (w:=limb w) (n:=w.length) rfl hD
  have h3:=(sm_bd (r:=fun i=>A*limb w i % smL w) (B:=smL w) (n:=w.length) fun i _=>⟨(rv_bd (A:=A) (w:=w) hD i).1,by have:=(rv_bd (A:=A) (w:=w) hD i).2; unfold rv at this; omega⟩).2
  rw [h2] at h3
  have h4:=Int.le_of_mul_le_mul_left h3 hD
  show(A-sm (qv A (smL w) w) w.length).toNat≤w.length
  have h5:A-sm (qv A (smL w) w) w.length≤(w.length:Int):=h4
  omega
 ·have h2:=rest_sum (A:=A) (D:=smL w) (w:=limb w) (n:=w.length) rfl hD
  have e:(((A-sm (qv A (smL w) w) w.length).toNat:Nat):Int)=A-sm (qv A (smL w) w) w.length:=by omega
  rw [e]
  exact h2
def one01 (b:Bool):Int:=if b=true then 1 else 0
def ShOut (c0:Bool) (a w:List Lim) (out:List DSigned):Prop:=out.length=w.length∧∃ (left:Nat) (C:Nat→Bool),sm (rv (valN a) (smL w) w) w.length=smL w*(left:Int)∧Pick (rv (valN a) (smL w) w) w.length left C ∧
 ∀ i,(h:i<out.length)→IntOkP out[i].1 out[i].2.1∧sval out[i].1 out[i].2.1=if c0=true then -(qv (valN a) (smL w) w i+one01 (C i)) else qv (valN a) (smL w) w i+one01 (C i)
theorem shOut_one {c0:Bool} {a w:List Lim} {out out':List DSigned} (hw:WtP w) (h:ShOut c0 a w out) (h':ShOut c0 a w out'):out=out':=by
 obtain⟨l1,left,C,hs,hp,hv⟩:=h
 obtain⟨l2,left',C',hs',hp',hv'⟩:=h'
 have hD:=hw.2.2.2
 have e:left=left':=by
  rw [hs] at hs'
  have:=Int.eq_of_mul_eq_mul_left (show smL w≠0 by omega) hs'
  omega
 subst e
 have hc:=pick_one hp hp'
 refine List.ext_getElem (by omega) fun i h1 h2=>?_
 obtain⟨k1,v1⟩:=hv i h1
 obtain⟨k2,v2⟩:=hv' i h2
 rw [hc i (by omega)] at v1
 obtain⟨e1,e2⟩:=int_inj k1 k2 (v1.trans v2.symm)
 exact Prod.ext e1 (Prod.ext e2 rfl)
theorem div_of {x q r D:Int} (h:x=q*D+r) (h0:0≤r) (h1:r<D):q=x / D∧r=x % D:=by
 have hD:D≠0:=by omega
 have e:x=r+D*q:=by rw [h,Int.mul_comm]; omega
 constructor
 ·rw [e,Int.add_mul_ediv_left _ _ hD,Int.ediv_eq_zero_of_lt h0 h1]; omega
 ·rw [e,Int.add_mul_emod_self_left,Int.emod_eq_of_lt h0 h1]
abbrev slL (mg:List SlV):List Value:=mg.map (Sc.val .l)
theorem setl_one {α:Type} {l:List α} {k:Nat} {x:α} (h:k<l.length):setl l k [x]=l.set k x:=by
 unfold setl
 rw [List.set_eq_take_append_cons_drop,if_pos h]
 simp
theorem made_sl (n:Nat):(madeCells ⟨[.slice none 0 0]⟩ n).toList=slL (List.replicate n ⟨none,0,0⟩):=by
 rw [slL,List.map_replicate]
 refine List.ext_getElem? fun i=>?_
 unfold madeCells
 by_cases h:i<n <;> simp [h,Sc.val,Nat.mod_one]
theorem cut_sl {mg:List SlV} {k:Nat} {s:SlV} (h:mg[k]?=some s):cutv (slL mg) k 1=some [Sc.val .l s]:=by
 obtain⟨h1,rfl⟩:=List.getElem?_eq_some_iff.1 h
 unfold cutv slL
 rw [if_pos (by simp; omega),List.drop_eq_getElem_cons (by simpa using h1)]
 simp
end Go.Proofs.YtfiakghfncempaaGreatDoor
