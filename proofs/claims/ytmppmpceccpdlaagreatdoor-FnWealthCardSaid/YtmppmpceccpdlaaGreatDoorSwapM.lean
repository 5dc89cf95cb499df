/-
  An exchange between two drawn currencies: what comes out and what is left are what went in times the rate: as data.
-/
import Derived.Test.YtmppmpceccpdlaaGreatDoorCv
namespace Go.Proofs.YtmppmpceccpdlaaGreatDoor
open Sx
set_option maxRecDepth 100000
def LsPost (V:Know) (l:List DRate) (a b:ByteArray):Know→Value→Prop:=fun V' r=>V'=V∧((∃ x t g,lkR l a b=some x∧r=.tuple #[decV x.2.2.1 t x.2.2.2.2.1,.bool true]∧LR rI V t x.2.2.2.1 g)∨(lkR l a b=none∧r=.tuple #[decV false ⟨none,0,0⟩ 0,.bool false]))
theorem ba_eq {a c:ByteArray}:(a == c)=true↔a=c:=by
 constructor
 ·intro h
  cases a; cases c
  have h':ByteArray.beq _ _=true:=h
  unfold ByteArray.beq at h'
  simp at h'
  simpa using h'
 ·rintro rfl
  show ByteArray.beq _ _=true
  unfold ByteArray.beq
  simp
theorem pair_eq {a b c d:ByteArray}:(a == c && b == d)=true↔(a,b)=(c,d):=by
 rw [Bool.and_eq_true,ba_eq,ba_eq,Prod.mk.injEq]
theorem cI_listed (V:Know) (p:ByteArray) (s:SlV) (l:List DRate) (f:List Nat) (h:LR rRate V s l f) (a b:ByteArray) :
  CallX Tryz.prog V 74 [qv3 (p,s,()),qv9 (a,b,())] (LsPost V l a b):=by
 refine CallX.of_fits Tryz.mix (fI_Rates__listed _ _) fun _=>?_
 have hn:=h.1
 have h63:=h.2.2.1
 simp only [tI_Rates__listed,T.wp]
 refine⟨fun y V'=>V'=V∧∃ i:Nat,y.1=(i:Int)∧i≤l.length∧∀ (j:Nat) (hj:j<l.length),j<i→rkey l[j]≠(a,b),fun y=>((l.length:Int)-(y.1:Int)).toNat,⟨((0:Int),()),rfl,rfl,0,rfl,by omega,fun j _ h=>by omega⟩,?_⟩
 rintro⟨(i:Int),u⟩ V' ⟨rfl,k,hk,hkle,hall⟩
 replace hk:i=(k:Int):=hk
 subst hk
 refine⟨fun hlt=>?_,fun hge=>?_⟩
 ·have hkl:k<l.length:=by
   have:(k:Int)<(s.n:Int):=of_decide_eq_true hlt
   omega
  obtain⟨b1,o1,c1,fc,a1,l1,hR,_⟩:=h.at hkl
  obtain⟨c3,g,rfl,hL⟩:=rate_elim hR
  have e0:(k:Int).toNat=k:=by omega
  dsimp only
  rw [e0]
  refine⟨_,a1,by omega,by omega,(l[k].1,l[k].2.1,l[k].2.2.1,c3,l[k].2.2.2.2.1,()),l1,fun h1=>?_,fun h1=>⟨_,rfl,(((k+1:Nat):Int),()),by rw [nxt hkl (by omega)]; rfl,⟨rfl,k+1,rfl,hkl,fun j hj h2=>?_⟩,?_⟩⟩
  ·have hkey:rkey l[k]=(a,b):=pair_eq.1 h1
   exact⟨rfl,.inl ⟨l[k],c3,g,lkR_at hkl hkey hall,rfl,hL⟩⟩
  ·by_cases e:j=k
   ·subst e
    intro hkey
    rw [show((l[j].1 == a && l[j].2.1 == b)=true) from pair_eq.2 hkey] at h1
    cases h1
   ·exact hall j hj (by omega)
  ·show((l.length:Int)-((k+1:Nat):Int)).toNat<((l.length:Int)-(k:Int)).toNat
   omega
 ·have hkl:k=l.length:=by
   have:¬ (k:Int)<(s.n:Int):=of_decide_eq_false hge
   omega
  subst hkl
  exact⟨rfl,.inr ⟨lkR_none fun j hj=>hall j hj hj,rfl⟩⟩
theorem cI_simple (V:Know) (p:ByteArray) (s:SlV) (l:List DRate) (f:List Nat) (h:LR rRate V s l f) (a b:ByteArray) :
  CallX Tryz.prog V 35 [qv3 (p,s,()),.string a,.string b] (fun V' r=>V'=V∧r=.int .i64 (leg l a b)):=by
 refine CallX.of_fits Tryz.mix (fI_Rates__simple _ _ _) fun _=>?_
 simp only [tI_Rates__simple,T.wp]
 refine(cI_listed V p s l f h a b).mono ?_
 rintro V1 r ⟨rfl,⟨x,t,g,hx,rfl,_⟩ | ⟨hx,rfl⟩⟩
 ·refine⟨nofun,((x.2.2.1,t,x.2.2.2.2.1,()),true,()),rfl,fun _=>⟨rfl,?_⟩,nofun⟩
  unfold leg
  rw [hx]; rfl
 refine⟨nofun,((false,⟨none,0,0⟩,(0:Int),()),false,()),rfl,nofun,fun _=>(cI_listed V1 p s l f h b a).mono ?_⟩
 rintro V2 r ⟨rfl,⟨x,t,g,hx2,rfl,_⟩ | ⟨hx2,rfl⟩⟩
 ·refine⟨nofun,((x.2.2.1,t,x.2.2.2.2.1,()),true,()),rfl,fun _=>⟨rfl,?_⟩,nofun⟩
  unfold leg
  rw [hx,hx2]; rfl
 ·refine⟨nofun,((false,⟨none,0,0⟩,(0:Int),()),false,()),rfl,nofun,fun _=>⟨rfl,?_⟩⟩
  unfold leg
  rw [hx,hx2]; rfl
noncomputable def how (p:ByteArray) (l:List DRate) (a b:ByteArray):Int:=by
 classical
 exact if RatesOkP p l∧known a=true∧known b=true then howR p l a b else 0
theorem how_ok {p:ByteArray} {l:List DRate} {a b:ByteArray} (h:RatesOkP p l) (ka:known a=true) (kb:known b=true):how p l a b=howR p l a b:=by
 unfold how; exact if_pos ⟨h,ka,kb⟩
theorem how_no {p:ByteArray} {l:List DRate} {a b:ByteArray} (h:¬ (RatesOkP p l∧known a=true∧known b=true)):how p l a b=0:=by
 unfold how; exact if_neg h
theorem int_ret {k k':Int} (h:k=k'):packed [Value.int .i64 k]=Value.int .i64 k':=by rw [h]; rfl
theorem how_z {p:ByteArray} {l:List DRate} {a b:ByteArray} (h:¬ (RatesOkP p l∧known a=true∧known b=true)):packed [Value.int .i64 0]=Value.int .i64 (how p l a b):=int_ret (how_no h).symm
theorem cI_RateHow {V:Know} (hV:HcI V) (p:ByteArray) (s:SlV) (l:List DRate) (f:List Nat) (h:LR rRate V s l f) (a b:ByteArray) :
  CallX Tryz.prog V 10 [qv3 (p,s,()),.string a,.string b] (fun V' r=>V.le V'∧r=.int .i64 (how p l a b)):=by
 refine CallX.of_fits Tryz.mix (fI_RateHow _ _ _) fun _=>?_
 simp only [tI_RateHow,T.wp]
 refine(cI_RatesOk hV p s l f h).mono ?_
 rintro V1 r ⟨le1,e,rfl,he⟩
 refine⟨nofun,e,rfl,fun hn=>⟨le1,how_z fun k=>by rw [he.2 k.1] at hn; cases hn⟩,fun hy=>?_⟩
 have hok:=he.1 (by simpa using hy)
 refine(kI_CurKnown (hV.le le1) a).mono ?_
 rintro V2 r ⟨le2,rfl⟩
 have l2:=le1.trans le2
 refine⟨nofun,_,rfl,fun hn=>⟨l2,how_z fun k=>by rw [k.2.1] at hn; cases hn⟩,fun hy=>?_⟩
 have ka:known a=true:=by simpa using hy
 refine(kI_CurKnown (hV.le l2) b).mono ?_
 rintro V3 r ⟨le3,rfl⟩
 have l3:=l2.trans le3
 refine⟨nofun,_,rfl,fun hn=>⟨l3,how_z fun k=>by rw [k.2.2] at hn; cases hn⟩,fun hy=>?_⟩
 have kb:known b=true:=by simpa using hy
 rw [how_ok hok ka kb]
 have h3:=h.le l3
 refine⟨fun hy=>⟨l3,int_ret (by rw [howR,if_pos (text_eq.1 hy)])⟩,fun hn=>?_⟩
 have hab:=text_ne.1 hn
 refine(cI_simple V3 p s l f h3 a b).mono ?_
 rintro V4 r ⟨rfl,rfl⟩
 refine⟨nofun,_,rfl,fun hy=>?_,fun hz=>?_⟩
 ·have h0:¬ leg l a b=0:=by simpa using hy
  refine(cI_simple V4 p s l f h3 a b).mono ?_
  rintro V5 r ⟨rfl,rfl⟩
  exact⟨nofun,_,rfl,l3,int_ret (by rw [howR,if_neg hab,if_neg h0])⟩
 have h0:leg l a b=0:=by simpa using hz
 rw [howR,if_neg hab,if_pos h0]
 refine⟨fun hy=>⟨fun hy2=>?_,fun hn=>⟨l3,?_⟩⟩,fun hn=>⟨l3,?_⟩⟩
 rotate_left
 ·exact int_ret (by rw [if_neg fun k=>k.2.1 (text_eq.1 (by simpa using hn))])
 ·exact int_ret (by rw [if_neg fun k=>k.1 (text_eq.1 (by simpa using hn))])
 have hap:a≠p:=text_ne.1 (by simpa using hy)
 have hbp:b≠p:=text_ne.1 (by simpa using hy2)
 refine(cI_simple V4 p s l f h3 a p).mono ?_
 rintro V5 r ⟨rfl,rfl⟩
 refine⟨nofun,_,rfl,fun hy=>?_,fun hz=>⟨l3,?_⟩⟩
 rotate_left
 ·exact int_ret (by rw [if_neg fun k=>k.2.2.1 (by simpa using hz)])
 refine(cI_simple V5 p s l f h3 p b).mono ?_
 rintro V6 r ⟨rfl,rfl⟩
 refine⟨nofun,_,rfl,fun hy2=>⟨l3,?_⟩,fun hz=>⟨l3,?_⟩⟩
 ·exact int_ret (by rw [if_pos ⟨hap,hbp,by simpa using hy,by simpa using hy2⟩])
 ·exact int_ret (by rw [if_neg fun k=>k.2.2.2 (by simpa using hz)])
theorem how_split (p:ByteArray) (l:List DRate) (a b:ByteArray) :
  (a=b∧howR p l a b=1∧rateS p l a b=1∧rateD p l a b=1) ∨
  (a≠b∧∃ r,lkR l a b=some r∧howR p l a b=2∧rateS p l a b=sval r.2.2.1 r.2.2.2.1∧rateD p l a b=ten r.2.2.2.2.1.toNat) ∨
  (a≠b∧∃ r,lkR l a b=none∧lkR l b a=some r∧howR p l a b=3∧rateS p l a b=ten r.2.2.2.2.1.toNat∧rateD p l a b=sval r.2.2.1 r.2.2.2.1) ∨
  (a≠b∧a≠p∧b≠p∧leg l a p≠0∧leg l p b≠0∧howR p l a b=4∧rateS p l a b=stepS l a p*stepS l p b∧rateD p l a b=stepD l a p*stepD l p b) ∨
  howR p l a b=0:=by
 by_cases hab:a=b
 ·exact .inl ⟨hab,by rw [howR,if_pos hab],by rw [rateS,if_pos hab],by rw [rateD,if_pos hab]⟩
 unfold howR rateS rateD
 rw [if_neg hab,if_neg hab,if_neg hab]
 by_cases h0:leg l a b=0
 ·rw [if_pos h0,if_pos h0,if_pos h0]
  split
  ·rename_i k
   exact .inr (.inr (.inr (.inl ⟨hab,k.1,k.2.1,k.2.2.1,k.2.2.2,rfl,rfl,rfl⟩)))
  ·exact .inr (.inr (.inr (.inr rfl)))
 ·rw [if_neg h0,if_neg h0,if_neg h0]
  unfold leg at h0 ⊢
  unfold stepS stepD
  cases h1:lkR l a b with
  | some r=>exact .inr (.inl ⟨hab,r,rfl,rfl,rfl,rfl⟩)
  | none =>
   rw [h1] at h0
   cases h2:lkR l b a with
   | some r=>exact .inr (.inr (.inl ⟨hab,r,rfl,rfl,rfl,rfl,rfl⟩))
   | none=>rw [h2] at h0; exact absurd rfl h0
theorem how_leg {p:ByteArray} {l:List DRate} {a b:ByteArray} (hab:a≠b) (h0:leg l a b≠0):howR p l a b≠0∧howR p l a b≠4∧rateS p l a b=stepS l a b∧rateD p l a b=stepD l a b:=by
 unfold howR rateS rateD
 rw [if_neg hab,if_neg hab,if_neg hab,if_neg h0,if_neg h0,if_neg h0]
 rcases leg_cases l a b with e | e | e
 ·exact absurd e h0
 ·rw [e]; exact⟨by decide,by decide,rfl,rfl⟩
 ·rw [e]; exact⟨by decide,by decide,rfl,rfl⟩
theorem lk_ok {l:List DRate} (h:RatesG l) {a b:ByteArray} {r:DRate} (e:lkR l a b=some r):RateOkP r:=by
 obtain⟨i,hi,rfl⟩:=lkR_mem e
 exact(h i hi).2
theorem one_dec:DecOkP false [((1:Int),())] 0:=one_ok
theorem ratP_fit {V V':Know} {S D:Int} {r:Value} (hD:0<D) (hS:(S.natAbs:Int)<1000000000 ^ 18) (hDb:D<1000000000 ^ 18) (h:RatPost V S D V' r) :
  V.le V'∧∃ c x f,r=.tuple #[qv0 c,.bool true]∧rRat.R V' c x f∧Own V V' f∧RedS S D x true:=by
 obtain⟨le,c,x,e,f,rfl,R,O,hx⟩:=h
 obtain rfl:=redS_fits hD hx hS hDb
 exact⟨le,c,x,f,rfl,R,O,hx⟩
theorem cI_RateOf0 {V:Know} (hV:HcI V) (p:ByteArray) (s:SlV) (l:List DRate) (f:List Nat) (h:LR rRate V s l f) (a b:ByteArray) (hok:RatesOkP p l) (ka:known a=true) (kb:known b=true) (hw:howR p l a b≠0) (hw4:howR p l a b≠4) :
  CallX Tryz.prog V 37 [qv3 (p,s,()),.string a,.string b] (RatPost V (rateS p l a b) (rateD p l a b)):=by
 refine CallX.of_fits Tryz.mix (fI_RateOf _ _ _) fun _=>?_
 simp only [tI_RateOf,T.wp]
 refine(cI_RateHow hV p s l f h a b).mono ?_
 rintro V1 r ⟨le1,rfl⟩
 rw [how_ok hok ka kb]
 have h1:=h.le le1
 refine⟨nofun,_,rfl,fun hy=>?_,fun hn1=>⟨fun hy=>?_,fun hn2=>⟨fun hy=>?_,fun hn3=>⟨fun hy=>absurd (by simpa using hy) hw4,fun hn4=>?_⟩⟩⟩⟩
 ·have e1:howR p l a b=1:=by simpa using hy
  rcases how_split p l a b with ⟨_,_,s1,d1⟩ | ⟨_,_,_,e,_⟩ | ⟨_,_,_,_,e,_⟩ | ⟨_,_,_,_,_,e,_⟩ | e
  ·rw [s1,d1]
   refine(cI_IntOf1 V1).mono ?_
   rintro V2 _ ⟨le2,s2,f2,rfl,L2⟩
   refine⟨nofun,(false,s2,()),rfl,(cI_RatInt V2 false s2 _ f2 L2 oneI_ok).mono ?_⟩
   rintro V3 _ ⟨le3,c3,x3,e3,f3,rfl,R3,O3,hx⟩
   have e:sval false [((1:Int),())]=1:=by unfold sval; simp [valN_one]
   rw [e] at hx
   exact⟨nofun,(c3,e3,()),rfl,(le1.trans le2).trans le3,c3,x3,e3,f3,rfl,R3,O3.pre (le1.trans le2),hx⟩
  all_goals omega
 ·have e2:howR p l a b=2:=by simpa using hy
  rcases how_split p l a b with ⟨_,e,_⟩ | ⟨_,r,hr,_,s1,d1⟩ | ⟨_,_,_,_,e,_⟩ | ⟨_,_,_,_,_,e,_⟩ | e
  ·omega
  ·rw [s1,d1]
   have hrok:=lk_ok (ratesG hok) hr
   refine(cI_listed V1 p s l f h1 a b).mono ?_
   rintro V2 _ ⟨rfl,⟨x,t,g,hx,rfl,L⟩ | ⟨hx,_⟩⟩
   ·rw [hr] at hx
    obtain rfl:=Option.some.inj hx
    refine⟨nofun,((r.2.2.1,t,r.2.2.2.2.1,()),true,()),rfl,(cI_DecRat V2 r.2.2.1 t r.2.2.2.1 g r.2.2.2.2.1 L hrok.2.2.2.1).mono ?_⟩
    rintro V3 _ ⟨le3,c3,x3,f3,rfl,R3,O3,hx3⟩
    exact⟨nofun,c3,rfl,le1.trans le3,c3,x3,true,f3,rfl,R3,O3.pre le1,hx3⟩
   ·rw [hr] at hx; cases hx
  all_goals omega
 ·have e3:howR p l a b=3:=by simpa using hy
  rcases how_split p l a b with ⟨_,e,_⟩ | ⟨_,_,_,e,_⟩ | ⟨_,r,_,hr,_,s1,d1⟩ | ⟨_,_,_,_,_,e,_⟩ | e
  ·omega
  ·omega
  ·rw [s1,d1]
   have hrok:=lk_ok (ratesG hok) hr
   obtain⟨_,np,_,_⟩:=rate_num hrok
   refine(cI_listed V1 p s l f h1 b a).mono ?_
   rintro V2 _ ⟨rfl,⟨x,t,g,hx,rfl,L⟩ | ⟨hx,_⟩⟩
   ·rw [hr] at hx
    obtain rfl:=Option.some.inj hx
    refine⟨nofun,((r.2.2.1,t,r.2.2.2.2.1,()),true,()),rfl,(cI_IntOf1 V2).mono ?_⟩
    rintro V3 _ ⟨le3,s3,f3,rfl,L3⟩
    refine⟨fun _=>le3,(false,s3,()),rfl,(cI_DecRat V3 false s3 _ f3 0 L3 one_dec).mono ?_⟩
    rintro V4 _ ⟨le4,c4,x4,f4,rfl,R4,O4,hx4⟩
    refine⟨fun _=>le4,c4,rfl,(cI_DecRat V4 r.2.2.1 t r.2.2.2.1 g r.2.2.2.2.1 (L.le (le3.trans le4)) hrok.2.2.2.1).mono ?_⟩
    rintro V5 _ ⟨le5,c5,x5,f5,rfl,R5,O5,hx5⟩
    have hS2:0<sval r.2.2.1 r.2.2.2.1:=hrok.2.2.2.2.1
    obtain⟨_,_,k5⟩:=redS_val (ten_pos _) hx5
    have m5:0<x5.2.1.length:=(can_pos (redS_ok (ten_pos _) hx5 rfl).1.1.1).2 (k5 hS2).2
    obtain⟨a4,b4,g4,g4',rfl,A4,B4,rfl⟩:=rat_elim (rRat.le R4 le5)
    obtain⟨a5,b5,g5,g5',rfl,A5,B5,rfl⟩:=rat_elim R5
    refine⟨fun _=>le5,_,rfl,(cI_RatDiv V5 x4.1 a4 b4 x5.1 a5 b5 x4.2.1 x4.2.2.1 x5.2.1 x5.2.2.1 _ _ _ _ A4 B4 A5 B5 (redS_ok (by decide) hx4 rfl) (redS_ok (ten_pos _) hx5 rfl) m5).mono ?_⟩
    rintro V6 _ ⟨le6,c6,x6,e6,f6,rfl,R6,O6,hx6⟩
    have l6:=((le1.trans le3).trans le4).trans le5
    have e:sval false [((1:Int),())]=1:=by unfold sval; simp [valN_one]
    rw [e] at hx4
    have key:=redS_div (by decide) (ten_pos _) hS2 hx4 hx5 hx6
    have t0:ten (0:Int).toNat=1:=rfl
    rw [t0,Int.one_mul,Int.one_mul] at key
    exact⟨fun _=>le6,(c6,e6,()),rfl,l6.trans le6,c6,x6,e6,f6,rfl,R6,O6.pre l6,key⟩
   ·rw [hr] at hx; cases hx
  all_goals omega
 ·exfalso
  have a1:¬ howR p l a b=1:=by simpa using hn1
  have a2:¬ howR p l a b=2:=by simpa using hn2
  have a3:¬ howR p l a b=3:=by simpa using hn3
  rcases how_split p l a b with ⟨_,e,_⟩ | ⟨_,_,_,e,_⟩ | ⟨_,_,_,_,e,_⟩ | ⟨_,_,_,_,_,e,_⟩ | e <;> omega
theorem cI_RateOf {V:Know} (hV:HcI V) (p:ByteArray) (s:SlV) (l:List DRate) (f:List Nat) (h:LR rRate V s l f) (a b:ByteArray) (hok:RatesOkP p l) (ka:known a=true) (kb:known b=true) (hw:howR p l a b≠0) :
  CallX Tryz.prog V 37 [qv3 (p,s,()),.string a,.string b] (RatPost V (rateS p l a b) (rateD p l a b)):=by
 by_cases hw4:howR p l a b=4
 rotate_left
 ·exact cI_RateOf0 hV p s l f h a b hok ka kb hw hw4
 rcases how_split p l a b with ⟨_,e,_⟩ | ⟨_,_,_,e,_⟩ | ⟨_,_,_,_,e,_⟩ | ⟨_,ap,bp,lap,lpb,_,s1,d1⟩ | e
 ·omega
 ·omega
 ·omega
 rotate_left
 ·omega
 refine CallX.of_fits Tryz.mix (fI_RateOf _ _ _) fun _=>?_
 simp only [tI_RateOf,T.wp]
 refine(cI_RateHow hV p s l f h a b).mono ?_
 rintro V1 r ⟨le1,rfl⟩
 rw [how_ok hok ka kb,hw4,s1,d1]
 obtain⟨w1,w1',sa,da⟩:=how_leg (p:=p) ap lap
 obtain⟨w2,w2',sb,db⟩:=how_leg (p:=p) (fun e=>bp e.symm) lpb
 have G:=ratesG hok
 have bd1:=rate_bd G p a p
 have bd2:=rate_bd G p p b
 have e18:(1000000000:Int) ^ 18=1000000000000000000000000000000000000000000000000000000000000000000000000000000000000000000000000000000000000000000000000000000000000000000000000000000000000000000:=by decide
 refine⟨nofun,4,rfl,nofun,fun _=>⟨nofun,fun _=>⟨nofun,fun _=>⟨fun _=>?_,nofun⟩⟩⟩⟩
 refine(cI_RateOf0 (hV.le le1) p s l f (h.le le1) a p hok ka hok.1 w1 w1').mono ?_
 rintro V2 r h2
 obtain⟨le2,c2,x2,f2,rfl,R2,O2,hx2⟩:=ratP_fit bd1.2.1 (by omega) (by omega) h2
 have l2:=le1.trans le2
 refine⟨nofun,(c2,true,()),rfl,(cI_RateOf0 (hV.le l2) p s l f (h.le l2) p b hok hok.1 kb w2 w2').mono ?_⟩
 rintro V3 r h3
 obtain⟨le3,c3,x3,f3,rfl,R3,O3,hx3⟩:=ratP_fit bd2.2.1 (by omega) (by omega) h3
 obtain⟨a4,b4,g4,g4',rfl,A4,B4,rfl⟩:=rat_elim (rRat.le R2 le3)
 obtain⟨a5,b5,g5,g5',rfl,A5,B5,rfl⟩:=rat_elim R3
 refine⟨nofun,(_,true,()),rfl,fun _=>⟨fun _=>?_,nofun⟩,nofun⟩
 refine(cI_RatMul V3 x2.1 a4 b4 x3.1 a5 b5 x2.2.1 x2.2.2.1 x3.2.1 x3.2.2.1 _ _ _ _ A4 B4 A5 B5 (redS_ok bd1.2.1 hx2 rfl) (redS_ok bd2.2.1 hx3 rfl)).mono ?_
 rintro V4 _ ⟨le4,c6,x6,e6,f6,rfl,R6,O6,hx6⟩
 have l4:=l2.trans le3
 have key:=redS_mul bd1.2.1 bd2.2.1 hx2 hx3 hx6
 rw [sa,sb,da,db] at key
 exact⟨nofun,(c6,e6,()),rfl,l4.trans le4,c6,x6,e6,f6,rfl,R6,O6.pre l4,key⟩
theorem pI_CurPlaces {V:Know} (hV:HcI V) (x:ByteArray):CallX Tryz.prog V 40 [.string x] (fun V' r=>V.le V'∧r=.int .i64 (places x)):=by
 refine CallX.of_fits Tryz.mix (fI_CurPlaces _) fun _=>?_
 simp only [tI_CurPlaces,T.wp]
 refine(cI_currencyOf hV x).mono ?_
 rintro V1 _ ⟨rfl,rfl⟩
 exact⟨nofun,(curRowOf x,known x,()),rfl,Know.le.refl _,rfl⟩
theorem places_nat (x:ByteArray):places x=(((places x).toNat:Nat):Int):=by have:=places_bd x; omega
theorem tenP_I {V:Know} (x:ByteArray):CallX Tryz.prog V 39 [.int .i64 (places x)] (fun V' r=>V.le V'∧∃ s f,r=Sc.val .l s∧LR rI V' s (tenL (places x).toNat) f∧Own V V' f):=by
 have:=cI_natTen V (places x).toNat (by have:=places_bd x; omega)
 rwa [← places_nat] at this
theorem tenL_len4 (x:ByteArray):(tenL (places x).toNat).length≤1:=by
 rw [tenL_len]
 have:=places_bd x
 omega
theorem cI_UnitRate {V:Know} (hV:HcI V) (p:ByteArray) (s:SlV) (l:List DRate) (f:List Nat) (h:LR rRate V s l f) (a b:ByteArray) (hok:RatesOkP p l) (ka:known a=true) (kb:known b=true) (hw:howR p l a b≠0) :
  CallX Tryz.prog V 12 [qv3 (p,s,()),.string a,.string b] (RatPost V (unitS p l a b) (unitD p l a b)):=by
 refine CallX.of_fits Tryz.mix (fI_UnitRate _ _ _) fun _=>?_
 simp only [tI_UnitRate,T.wp]
 have bd:=rate_bd (ratesG hok) p a b
 have e18:(1000000000:Int) ^ 18=1000000000000000000000000000000000000000000000000000000000000000000000000000000000000000000000000000000000000000000000000000000000000000000000000000000000000000000:=by decide
 refine(cI_RateOf hV p s l f h a b hok ka kb hw).mono ?_
 rintro V1 r h1
 obtain⟨le1,c1,x1,f1,rfl,R1,O1,hx1⟩:=ratP_fit bd.2.1 (by omega) (by omega) h1
 obtain⟨a4,b4,g4,g4',rfl,A4,B4,rfl⟩:=rat_elim R1
 have ok1:=redS_ok bd.2.1 hx1 rfl
 have z1:=ok1.2.2.2.1
 have z2:=ok1.2.2.2.2.1
 have p1:=(can_pos ok1.2.1.1).1 ok1.2.2.1
 have t1:=tenL_len4 b
 have t2:=tenL_len4 a
 refine⟨nofun,(_,true,()),rfl,nofun,fun _=>(pI_CurPlaces (hV.le le1) b).mono ?_⟩
 rintro V2 _ ⟨le2,rfl⟩
 refine⟨fun _=>le2,_,rfl,(tenP_I b).mono ?_⟩
 rintro V3 _ ⟨le3,s3,f3,rfl,L3,_⟩
 have l3:=le2.trans le3
 refine⟨fun _=>le3,s3,rfl,(cI_natMul V3 a4 s3 _ _ _ _ (A4.le l3) L3 ok1.1.1.1.1 (tenL_can _).1 (by omega) (by omega)).mono ?_⟩
 rintro V4 _ ⟨le4,s4,o4,k4,rfl,N4,_,C4,v4,_⟩
 have n4:=mul_len (tenL_can _) C4 ok1.1.1.1.1 v4
 refine⟨fun _=>le4,s4,rfl,(cI_signed V4 _ s4).mono ?_⟩
 rintro V5 _ ⟨rfl,rfl⟩
 have l4:=l3.trans le4
 refine⟨fun _=>Know.le.refl _,_,rfl,(pI_CurPlaces (hV.le (le1.trans l4)) a).mono ?_⟩
 rintro V6 _ ⟨le6,rfl⟩
 refine⟨fun _=>le6,_,rfl,(tenP_I a).mono ?_⟩
 rintro V7 _ ⟨le7,s7,f7,rfl,L7,_⟩
 have l7:=(l4.trans le6).trans le7
 refine⟨fun _=>le7,s7,rfl,(cI_natMul V7 b4 s7 _ _ _ _ (B4.le l7) L7 ok1.2.1.1.1 (tenL_can _).1 (by omega) (by omega)).mono ?_⟩
 rintro V8 _ ⟨le8,s8,o8,k8,rfl,N8,_,C8,v8,_⟩
 have n8:=mul_len (tenL_can _) C8 ok1.2.1.1.1 v8
 rw [tenL_val] at v4 v8
 have hn4:=N4.lr.1
 have ed:decide ((s4.n:Int) > 0)=decide (0<o4.length):=decide_eq_decide.2 (by omega)
 refine⟨fun _=>le8,s8,rfl,(cI_reduce V8 _ s4 s8 o4 o8 [k4] [k8] (N4.lr.le ((le6.trans le7).trans le8)) N8.lr C4 C8 (by rw [v8]; exact Int.mul_pos p1 (ten_pos _)) (by omega) (by omega)).mono ?_⟩
 rintro V9 _ ⟨le9,c9,x9,e9,f9,rfl,R9,O9,hx⟩
 have l8:=(le1.trans l7).trans le8
 refine⟨fun _=>le9,(c9,e9,()),rfl,l8.trans le9,c9,x9,e9,f9,rfl,R9,O9.pre l8,?_⟩
 rw [ed,(made_ok C4 (by omega)).2] at hx
 have e1:sval x1.1 o4=sval x1.1 x1.2.1*ten (places b).toNat:=by
  unfold sval
  rw [v4]
  split <;> simp [Int.neg_mul]
 rw [e1,v8] at hx
 obtain⟨q1,_,_⟩:=redS_val bd.2.1 hx1
 refine redS_cross (Int.mul_pos p1 (ten_pos _)) (unitD_bd (ratesG hok) p a b).1 ?_ hx
 unfold unitS unitD
 calc sval x1.1 x1.2.1*ten (places b).toNat*(rateD p l a b*ten (places a).toNat)=(sval x1.1 x1.2.1*rateD p l a b)*(ten (places b).toNat*ten (places a).toNat):=by ac_rfl
  _=(rateS p l a b*valN x1.2.2.1)*(ten (places b).toNat*ten (places a).toNat):=by rw [q1]
  _=rateS p l a b*ten (places b).toNat*(valN x1.2.2.1*ten (places a).toNat):=by ac_rfl
theorem cI_Exact {V:Know} (hV:HcI V) (p:ByteArray) (s:SlV) (l:List DRate) (f:List Nat) (h:LR rRate V s l f) (m:DMoney) (t:SlV) (g:List Nat) (hm:LR rI V t m.2.2.1 g) (to:ByteArray) (hok:RatesOkP p l) (mok:MoneyOkP m.1 m.2.1 m.2.2.1) (kb:known to=true) (hw:howR p l m.1 to≠0) :
  CallX Tryz.prog V 16 [qv3 (p,s,()),qv2 (m.1,m.2.1,t,()),.string to] (RatPost V (exS p l m to) (exD p l m to)):=by
 refine CallX.of_fits Tryz.mix (fI_Exact _ _ _) fun _=>?_
 simp only [tI_Exact,T.wp]
 have G:=ratesG hok
 have bS:=unitS_bd G p m.1 to
 have bD:=unitD_bd G p m.1 to
 have e18:(1000000000:Int) ^ 18=1000000000000000000000000000000000000000000000000000000000000000000000000000000000000000000000000000000000000000000000000000000000000000000000000000000000000000000:=by decide
 refine(cI_MoneyOk hV m.1 m.2.1 t m.2.2.1 g hm).mono ?_
 rintro V1 r ⟨le1,e,rfl,he⟩
 obtain rfl:e=true:=he.2 mok
 refine⟨nofun,true,rfl,nofun,fun _=>(cI_UnitRate (hV.le le1) p s l f (h.le le1) m.1 to hok mok.1 kb hw).mono ?_⟩
 rintro V2 r h2
 obtain⟨le2,c2,x2,f2,rfl,R2,O2,hx2⟩:=ratP_fit bD.1 (by omega) (by omega) h2
 have l2:=le1.trans le2
 refine⟨nofun,(c2,true,()),rfl,nofun,fun _=>(cI_MoneyRat (hV.le l2) m.1 m.2.1 t m.2.2.1 g (hm.le l2) mok).mono ?_⟩
 rintro V3 _ ⟨le3,c3,x3,f3,rfl,R3,O3,hx3⟩
 obtain⟨a5,b5,g5,g5',rfl,A5,B5,rfl⟩:=rat_elim (rRat.le R2 le3)
 obtain⟨a6,b6,g6,g6',rfl,A6,B6,rfl⟩:=rat_elim R3
 refine⟨fun _=>le3,_,rfl,(cI_RatMul V3 x3.1 a6 b6 x2.1 a5 b5 x3.2.1 x3.2.2.1 x2.2.1 x2.2.2.1 _ _ _ _ A6 B6 A5 B5 (redS_ok (by decide) hx3 rfl) (redS_ok bD.1 hx2 rfl)).mono ?_⟩
 rintro V4 _ ⟨le4,c4,x4,e4,f4,rfl,R4,O4,hx4⟩
 have l3:=l2.trans le3
 refine⟨fun _=>le4,(c4,e4,()),rfl,l3.trans le4,c4,x4,e4,f4,rfl,R4,O4.pre l3,?_⟩
 have key:=redS_mul (by decide) bD.1 hx3 hx2 hx4
 rw [Int.one_mul] at key
 exact key
end Go.Proofs.YtmppmpceccpdlaaGreatDoor
namespace Go.Proofs.YtmppmpceccpdlaaGreatDoor
open Sx
set_option maxRecDepth 100000
def FormP (p:ByteArray) (l:List DRate) (to:ByteArray) (m:Int):Prop:=RatesOkP p l∧known to=true∧RmP m
def MonsP (ms:List DMoney) (k:Nat):Prop:=∀ (i:Nat) (h:i<ms.length),i<k→MoneyOkP ms[i].1 ms[i].2.1 ms[i].2.2.1
def HowsP (p:ByteArray) (l:List DRate) (ms:List DMoney) (to:ByteArray) (k:Nat):Prop:=∀ (i:Nat) (h:i<ms.length),i<k→how p l ms[i].1 to≠0
def SumStep (p:ByteArray) (l:List DRate) (to:ByteArray) (x:DRat) (m:DMoney) (y:DRat) (e:Bool):Prop :=
 ∃ z,RedS (exS p l m to) (exD p l m to) z true∧RedS (sval x.1 x.2.1*valN z.2.2.1+sval z.1 z.2.1*valN x.2.2.1) (valN x.2.2.1*valN z.2.2.1) y e
def Run (p:ByteArray) (l:List DRate) (to:ByteArray):List DMoney→DRat→DRat→Bool→Prop
 | [],x,y,g=>y=x∧g=true
 | m :: r,x,y,g=>∃ z e,SumStep p l to x m z e∧((e=true∧Run p l to r z y g)∨(e=false∧g=false))
theorem step_ok {p:ByteArray} {l:List DRate} {to:ByteArray} (G:RatesG l) {x:DRat} {m:DMoney} (hx:0<valN x.2.2.1) {y:DRat} (h:SumStep p l to x m y true):RatOkP y.1 y.2.1 y.2.2.1:=by
 obtain⟨z,a,b⟩:=h
 obtain⟨_,zp,_⟩:=redS_val (unitD_bd G p m.1 to).1 a
 exact redS_ok (Int.mul_pos hx zp) b rfl
theorem den_pos {x:DRat} (h:RatOkP x.1 x.2.1 x.2.2.1):0<valN x.2.2.1:=(can_pos h.2.1.1).1 h.2.2.1
theorem run_ok {p:ByteArray} {l:List DRate} {to:ByteArray} (G:RatesG l):∀ {ms:List DMoney} {x y:DRat},RatOkP x.1 x.2.1 x.2.2.1→Run p l to ms x y true→RatOkP y.1 y.2.1 y.2.2.1
 | [],_,_,hx,⟨a,_⟩=>by rw [a]; exact hx
 | m :: r,x,y,hx,⟨z,e,s,h⟩=>by
  rcases h with ⟨rfl,hr⟩ | ⟨_,k⟩
  ·exact run_ok G (step_ok G (den_pos hx) s) hr
  ·cases k
def ConvP (p:ByteArray) (l:List DRate) (ms:List DMoney) (to:ByteArray) (m:Int) (mo:DMoney) (ra:DRat) (code:Int):Prop :=
 (¬ (FormP p l to m∧MonsP ms ms.length)∧mo=zeroM∧ra=zeroR∧code=1) ∨
 ((FormP p l to m∧MonsP ms ms.length)∧¬ HowsP p l ms to ms.length∧mo=zeroM∧ra=zeroR∧code=2) ∨
 ((FormP p l to m∧MonsP ms ms.length)∧HowsP p l ms to ms.length∧∃ x,Run p l to ms nought x true∧∃ ok,OutP to m x mo ra ok∧code=if ok=true then 0 else 3) ∨
 ((FormP p l to m∧MonsP ms ms.length)∧HowsP p l ms to ms.length∧(∃ x,Run p l to ms nought x false)∧mo=zeroM∧ra=zeroR∧code=3)
theorem drop_at {α:Type} {l:List α} {i:Nat} (h:i<l.length):l.drop i=l[i] :: l.drop (i+1):=List.drop_eq_getElem_cons h
theorem ms_end {ms:List DMoney} {i:Nat} {P:Nat→Prop} (hi:i≤ms.length) (hn:¬ i<ms.length) (h:P i):P ms.length:=by
 have:i=ms.length:=by omega
 rwa [← this]
theorem mons_succ {ms:List DMoney} {i:Nat} (hi:i<ms.length) (h:MonsP ms i) (k:MoneyOkP ms[i].1 ms[i].2.1 ms[i].2.2.1):MonsP ms (i+1):=by
 intro j hj hji
 by_cases e:j=i
 ·subst e; exact k
 ·exact h j hj (by omega)
theorem hows_succ {p:ByteArray} {l:List DRate} {to:ByteArray} {ms:List DMoney} {i:Nat} (hi:i<ms.length) (h:HowsP p l ms to i) (k:how p l ms[i].1 to≠0):HowsP p l ms to (i+1):=by
 intro j hj hji
 by_cases e:j=i
 ·subst e; exact k
 ·exact h j hj (by omega)
theorem money_elim {V:Know} {c:Scs [.s,.b,.l]} {x:DMoney} {f:List Nat} (h:rMoney.R V c x f):∃ s g,c=(x.1,x.2.1,s,())∧LR rI V s x.2.2.1 g:=by
 obtain⟨c0,c1,c2,cu⟩:=c
 obtain⟨⟨e0,_⟩,e1,g,r,rfl,hs,_⟩:=h
 replace e0:c0=x.1:=e0
 replace e1:c1=x.2.1:=e1
 subst e0; subst e1
 exact⟨c2,g,rfl,hs⟩
theorem LR.mon {V:Know} {s:SlV} {ms:List DMoney} {f:List Nat} (h:LR rMoney V s ms f) {i:Nat} (hi:i<ms.length):∃ ad t g,s.a=some ad∧loadV V (ad.add (i*3)) 3=some [.string ms[i].1,.bool ms[i].2.1,.slice t.a t.n t.c]∧LR rI V t ms[i].2.2.1 g:=by
 obtain⟨b1,o1,c1,fc,a1,l1,hR,_⟩:=h.at hi
 obtain⟨t,g,rfl,L⟩:=money_elim hR
 exact⟨_,t,g,a1,l1,L⟩
abbrev errT:Nat:=143
abbrev ChkPost (V:Know) (p:ByteArray) (l:List DRate) (ms:List DMoney) (to:ByteArray) (m:Int):Know→Value→Prop:=fun V' r=>V.le V'∧∃ y:Option (Nat × Int),r=Sc.val .e y ∧
 ((¬ (FormP p l to m∧MonsP ms ms.length)∧y=some (errT,1))∨((FormP p l to m∧MonsP ms ms.length)∧¬ HowsP p l ms to ms.length∧y=some (errT,2))∨((FormP p l to m∧MonsP ms ms.length)∧HowsP p l ms to ms.length∧y=none))
theorem cI_checkConversion {V:Know} (hV:HcI V) (p:ByteArray) (s:SlV) (l:List DRate) (f:List Nat) (h:LR rRate V s l f) (t:SlV) (ms:List DMoney) (g:List Nat) (hm:LR rMoney V t ms g) (to:ByteArray) (m:Int) :
  CallX Tryz.prog V 94 [qv3 (p,s,()),Sc.val .l t,.string to,.int .i64 m] (ChkPost V p l ms to m):=by
 refine CallX.of_fits Tryz.mix (fI_checkConversion _ _ _ _) fun _=>?_
 have hn:=hm.1
 have h63:=hm.2.2.1
 simp only [tI_checkConversion,T.wp]
 refine⟨fun y V'=>V.le V'∧((y.1:Bool)=true↔FormP p l to m),?_,?_⟩
 ·refine(cI_RatesOk hV p s l f h).mono ?_
  rintro V1 _ ⟨le1,e,rfl,he⟩
  refine⟨nofun,e,rfl,fun ht=>(kI_CurKnown (hV.le le1) to).mono ?_,fun hf=>⟨_,rfl,(false,()),rfl,le1,nofun,fun k=>?_⟩⟩
  ·rintro V2 _ ⟨le2,rfl⟩
   have l2:=le1.trans le2
   refine⟨nofun,_,rfl,fun ht2=>(rI_isMode V2 m).mono ?_,fun hf=>⟨_,rfl,(false,()),rfl,l2,nofun,fun k=>?_⟩⟩
   ·rintro V3 _ ⟨rfl,rfl⟩
    refine⟨nofun,_,rfl,_,rfl,(_,()),rfl,l2,fun k=>⟨he.1 ht,ht2,(of_decide_eq_true k:0≤m∧m≤6)⟩,fun k=>decide_eq_true (show 0≤m∧m≤6 from k.2.2)⟩
   ·rw [k.2.1] at hf; cases hf
  ·rw [he.2 k.1] at hf; cases hf
 rintro⟨v,u⟩ V1 ⟨le1,hv⟩
 replace hv:v=true↔FormP p l to m:=hv
 refine⟨fun y V'=>V1.le V'∧∃ i:Nat,y.2.1=(i:Int)∧i≤ms.length∧((y.1:Bool)=true↔(FormP p l to m∧MonsP ms i)),fun y=>((ms.length:Int)-(y.2.1:Int)).toNat,⟨(v,(0:Int),()),rfl,Know.le.refl _,0,rfl,by omega,hv.trans ⟨fun k=>⟨k,fun i _ h=>by omega⟩,fun k=>k.1⟩⟩,?_⟩
 rintro⟨w,(i:Int),u2⟩ V2 ⟨le2,k,hk,hkle,hw⟩
 replace hk:i=(k:Int):=hk
 replace hw:w=true↔(FormP p l to m∧MonsP ms k):=hw
 subst hk
 have l2:=le1.trans le2
 refine⟨fun hlt=>?_,fun hge=>?_⟩
 ·have hkl:k<ms.length:=by
   have:(k:Int)<(t.n:Int):=of_decide_eq_true hlt
   omega
  obtain⟨ad,ts,gg,a1,ld,L⟩:=(hm.le l2).mon hkl
  refine⟨ad,a1,(by omega:(0:Int)≤(k:Int)),(by omega:(k:Int)<(t.n:Int)),(ms[k].1,ms[k].2.1,ts,()),ld,fun ht=>(cI_MoneyOk (hV.le l2) ms[k].1 ms[k].2.1 ts ms[k].2.2.1 gg L).mono ?_,fun hf=>?_⟩
  ·rintro V3 _ ⟨le3,e,rfl,he⟩
   refine⟨nofun,e,rfl,_,rfl,(e,((k+1:Nat):Int),()),by rw [nxt hkl (by omega)]; rfl,⟨le2.trans le3,k+1,rfl,hkl,fun he1=>⟨(hw.1 ht).1,mons_succ hkl (hw.1 ht).2 (he.1 he1)⟩,fun kk=>he.2 (kk.2 k hkl (by omega))⟩,?_⟩
   show((ms.length:Int)-((k+1:Nat):Int)).toNat<((ms.length:Int)-(k:Int)).toNat
   omega
  ·refine⟨_,rfl,(false,((k+1:Nat):Int),()),by rw [nxt hkl (by omega)]; rfl,⟨le2,k+1,rfl,hkl,nofun,fun kk=>?_⟩,?_⟩
   ·rw [hw.2 ⟨kk.1,fun j hj hji=>kk.2 j hj (by omega)⟩] at hf; cases hf
   ·show((ms.length:Int)-((k+1:Nat):Int)).toNat<((ms.length:Int)-(k:Int)).toNat
    omega
 have hkl:k=ms.length:=by
  have:¬ (k:Int)<(t.n:Int):=of_decide_eq_false hge
  omega
 subst hkl
 refine⟨fun hb=>⟨l2,some (errT,1),rfl,.inl ⟨fun kk=>?_,rfl⟩⟩,fun hb=>?_⟩
 ·rw [hw.2 kk] at hb; cases hb
 have ok:=hw.1 (by simpa using hb)
 refine⟨fun y V'=>V2.le V'∧∃ i:Nat,y.1=(i:Int)∧i≤ms.length∧HowsP p l ms to i,fun y=>((ms.length:Int)-(y.1:Int)).toNat,⟨((0:Int),()),rfl,Know.le.refl _,0,rfl,by omega,fun i _ h=>by omega⟩,?_⟩
 rintro⟨(i:Int),u3⟩ V3 ⟨le3,k,hk,hkle,hh⟩
 replace hk:i=(k:Int):=hk
 subst hk
 have l3:=l2.trans le3
 refine⟨fun hlt=>?_,fun hge=>?_⟩
 ·have hkl:k<ms.length:=by
   have:(k:Int)<(t.n:Int):=of_decide_eq_true hlt
   omega
  obtain⟨ad,ts,gg,a1,ld,L⟩:=(hm.le l3).mon hkl
  refine⟨ad,a1,(by omega:(0:Int)≤(k:Int)),(by omega:(k:Int)<(t.n:Int)),(ms[k].1,ms[k].2.1,ts,()),ld,(cI_RateHow (hV.le l3) p s l f (h.le l3) ms[k].1 to).mono ?_⟩
  rintro V4 _ ⟨le4,rfl⟩
  refine⟨nofun,_,rfl,fun hz=>⟨l3.trans le4,some (errT,2),rfl,.inr (.inl ⟨ok,fun kk=>kk k hkl hkl (by simpa using hz),rfl⟩)⟩,fun hz=>⟨_,rfl,(((k+1:Nat):Int),()),by rw [nxt hkl (by omega)]; rfl,⟨le3.trans le4,k+1,rfl,hkl,hows_succ hkl hh (by simpa using hz)⟩,?_⟩⟩
  show((ms.length:Int)-((k+1:Nat):Int)).toNat<((ms.length:Int)-(k:Int)).toNat
  omega
 ·have hkl:¬ k<ms.length:=by
   have:¬ (k:Int)<(t.n:Int):=of_decide_eq_false hge
   omega
  exact⟨l3,none,rfl,.inr (.inr ⟨ok,ms_end (P:=HowsP p l ms to) hkle hkl hh,rfl⟩)⟩
abbrev CvtPost (V:Know) (p:ByteArray) (l:List DRate) (ms:List DMoney) (to:ByteArray) (m:Int):Know→Value→Prop:=fun V' r=>V.le V'∧∃ c mo f c' ra g y code,r=.tuple #[qv2 c,qv0 c',Sc.val .e y] ∧
 rMoney.R V' c mo f∧rRat.R V' c' ra g∧Own V V' (f++g)∧ConvP p l ms to m mo ra code∧((y=none∧code=0)∨y=some (errT,code))
theorem zeroIx (V:Know):CallX Tryz.prog V 25 [] (fun V' r=>V.le V'∧∃ c f,r=qv0 c∧rRat.R V' c nought f):=zeroI V
theorem cI_convert {V:Know} (hV:HcI V) (p:ByteArray) (s:SlV) (l:List DRate) (f:List Nat) (h:LR rRate V s l f) (t:SlV) (ms:List DMoney) (g:List Nat) (hm:LR rMoney V t ms g) (to:ByteArray) (m:Int) :
  CallX Tryz.prog V 54 [qv3 (p,s,()),Sc.val .l t,.string to,.int .i64 m] (CvtPost V p l ms to m):=by
 refine CallX.of_fits Tryz.mix (fI_convert _ _ _ _) fun _=>?_
 have hn:=hm.1
 have h63:=hm.2.2.1
 simp only [tI_convert,T.wp]
 refine(cI_checkConversion hV p s l f h t ms g hm to m).mono ?_
 rintro V1 _ ⟨le1,y,rfl,hy⟩
 refine⟨nofun,y,rfl,fun ey=>⟨nofun,fun _=>?_⟩,fun z ez=>⟨fun _=>?_,nofun⟩⟩
 rotate_left
 ·have fin:∀ code,y=some (errT,code)→ConvP p l ms to m zeroM zeroR code→CvtPost V p l ms to m V1 (.tuple #[qv2 (ByteArray.empty,false,⟨none,0,0⟩,()),qv0 (false,⟨none,0,0⟩,⟨none,0,0⟩,()),Sc.val .e y]) :=
   fun code e hc=>⟨le1,_,_,_,_,_,_,y,code,rfl,money_0,rat_0,Own.nil,hc,.inr e⟩
  rcases hy with ⟨k,e⟩ | ⟨k,k2,e⟩ | ⟨_,_,e⟩
  ·have:=fin 1 e (.inl ⟨k,rfl,rfl,rfl⟩)
   rw [ez] at this
   exact this
  ·have:=fin 2 e (.inr (.inl ⟨k,k2,rfl,rfl,rfl⟩))
   rw [ez] at this
   exact this
  ·rw [e] at ez; cases ez
 rcases hy with ⟨_,e⟩ | ⟨_,_,e⟩ | ⟨ok,hw,_⟩
 ·rw [e] at ey; cases ey
 ·rw [e] at ey; cases ey
 have G:=ratesG ok.1.1
 refine(zeroIx V1).mono ?_
 rintro V2 _ ⟨le2,c2,f2,rfl,R2⟩
 refine⟨nofun,c2,rfl,?_⟩
 have l2:=le1.trans le2
 have bad:∀ V',V.le V'→(∃ x,Run p l to ms nought x false)→CvtPost V p l ms to m V' (.tuple #[qv2 (ByteArray.empty,false,⟨none,0,0⟩,()),qv0 (false,⟨none,0,0⟩,⟨none,0,0⟩,()),Sc.val .e (some (errT,3))]) :=
  fun V' le hx=>⟨le,_,_,_,_,_,_,_,3,rfl,money_0,rat_0,Own.nil,.inr (.inr (.inr ⟨ok,hw,hx,rfl,rfl,rfl⟩)),.inr rfl⟩
 refine⟨fun y V'=>V2.le V'∧∃ (i:Nat) (x:DRat) (fx:List Nat),y.1=(i:Int)∧i≤ms.length∧rRat.R V' y.2 x fx∧RatOkP x.1 x.2.1 x.2.2.1∧∀ y g,Run p l to (ms.drop i) x y g→Run p l to ms nought y g,fun y=>((ms.length:Int)-(y.1:Int)).toNat,
  ⟨((0:Int),c2),rfl,Know.le.refl _,0,nought,f2,rfl,by omega,R2,nought_ok,fun y g h=>h⟩,?_⟩
 rintro⟨(i:Int),c3⟩ V3 ⟨le3,k,x,fx,hk,hkle,R3,hx,hr⟩
 replace hk:i=(k:Int):=hk
 replace R3:rRat.R V3 c3 x fx:=R3
 subst hk
 have l3:=l2.trans le3
 refine⟨fun hlt=>?_,fun hge=>?_⟩
 ·have hkl:k<ms.length:=by
   have:(k:Int)<(t.n:Int):=of_decide_eq_true hlt
   omega
  obtain⟨ad,ts,gg,a1,ld,L⟩:=(hm.le l3).mon hkl
  have mok:=ok.2 k hkl hkl
  have hwk:=hw k hkl hkl
  rw [how_ok ok.1.1 mok.1 ok.1.2.1] at hwk
  obtain⟨b1,b2,b3⟩:=ex_bd G p to ms[k] mok
  refine⟨ad,a1,(by omega:(0:Int)≤(k:Int)),(by omega:(k:Int)<(t.n:Int)),(ms[k].1,ms[k].2.1,ts,()),ld,(cI_Exact (hV.le l3) p s l f (h.le l3) ms[k] ts gg L to ok.1.1 mok ok.1.2.1 hwk).mono ?_⟩
  rintro V4 r4 h4
  obtain⟨le4,c4,z,f4,rfl,R4,O4,hz⟩:=ratP_fit b2 b1 b3 h4
  obtain⟨a5,b5,g5,g5',rfl,A5,B5,rfl⟩:=rat_elim (rRat.le R3 le4)
  obtain⟨a6,b6,g6,g6',rfl,A6,B6,rfl⟩:=rat_elim R4
  refine⟨nofun,(_,true,()),rfl,fun _=>(cI_RatAdd V4 x.1 a5 b5 z.1 a6 b6 x.2.1 x.2.2.1 z.2.1 z.2.2.1 _ _ _ _ A5 B5 A6 B6 hx (redS_ok b2 hz rfl)).mono ?_,nofun⟩
  rintro V5 _ ⟨le5,c5,y5,e5,f5,rfl,R5,O5,hy5⟩
  have st:SumStep p l to x ms[k] y5 e5:=⟨z,hz,hy5⟩
  have l5:=(l3.trans le4).trans le5
  refine⟨nofun,(c5,e5,()),rfl,fun hf=>bad V5 l5 ⟨y5,hr _ _ ?_⟩,fun ht=>⟨_,rfl,(((k+1:Nat):Int),c5),by rw [nxt hkl (by omega)]; rfl,⟨(le3.trans le4).trans le5,k+1,y5,f5,rfl,hkl,R5,?_,fun yy gg hrun=>hr _ _ ?_⟩,?_⟩⟩
  ·rw [drop_at hkl]
   exact⟨y5,e5,st,.inr ⟨by simpa using hf,rfl⟩⟩
  ·obtain rfl:e5=true:=by simpa using ht
   exact step_ok G (den_pos hx) st
  ·rw [drop_at hkl]
   exact⟨y5,e5,st,.inl ⟨by simpa using ht,hrun⟩⟩
  ·show((ms.length:Int)-((k+1:Nat):Int)).toNat<((ms.length:Int)-(k:Int)).toNat
   omega
 ·have hkl:k=ms.length:=by
   have:¬ (k:Int)<(t.n:Int):=of_decide_eq_false hge
   omega
  subst hkl
  have hrun:Run p l to ms nought x true:=hr x true (by rw [List.drop_length]; exact⟨rfl,rfl⟩)
  obtain⟨a5,b5,g5,g5',rfl,A5,B5,rfl⟩:=rat_elim R3
  refine(cI_RatMoney (hV.le l3) to x a5 b5 _ _ A5 B5 hx m ok.1.2.2 ok.1.2.1).mono ?_
  rintro V4 _ ⟨le4,c4,mo,f4,c4',ra,g4,e4,rfl,R4,R4',O4,hout⟩
  have l4:=l3.trans le4
  refine⟨nofun,(c4,c4',e4,()),rfl,fun hf=>?_,fun ht=>⟨l4,c4,mo,f4,c4',ra,g4,none,0,rfl,R4,R4',O4.pre l3,.inr (.inr (.inl ⟨ok,hw,x,hrun,e4,hout,by rw [if_pos (by simpa using ht)]⟩)),.inl ⟨rfl,rfl⟩⟩⟩
  have e0:e4=false:=by simpa using hf
  subst e0
  obtain⟨e,q,hq,⟨_,hb,_⟩ | ⟨_,_,hmo,hra⟩⟩:=id hout
  ·cases hb
  subst hmo
  subst hra
  exact⟨l4,_,_,_,_,_,_,_,3,rfl,money_0,rat_0,Own.nil,.inr (.inr (.inl ⟨ok,hw,x,hrun,false,hout,rfl⟩)),.inr rfl⟩
end Go.Proofs.YtmppmpceccpdlaaGreatDoor
namespace Go.Proofs.YtmppmpceccpdlaaGreatDoor
open Sx
set_option maxRecDepth 100000
theorem redS_sum {S1 D1 S2 D2:Int} {x y z:DRat} {e:Bool} (h1:0<D1) (h2:0<D2) (hx:RedS S1 D1 x true) (hy:RedS S2 D2 y true) (hz:RedS (sval x.1 x.2.1*valN y.2.2.1+sval y.1 y.2.1*valN x.2.2.1) (valN x.2.2.1*valN y.2.2.1) z e):RedS (S1*D2+S2*D1) (D1*D2) z e:=by
 obtain⟨v1,p1,_⟩:=redS_val h1 hx
 obtain⟨v2,p2,_⟩:=redS_val h2 hy
 refine redS_cross (Int.mul_pos p1 p2) (Int.mul_pos h1 h2) ?_ hz
 have a1:sval x.1 x.2.1*valN y.2.2.1*(D1*D2)=S1*D2*(valN x.2.2.1*valN y.2.2.1):=by
  calc sval x.1 x.2.1*valN y.2.2.1*(D1*D2)=(sval x.1 x.2.1*D1)*(valN y.2.2.1*D2):=by ac_rfl
   _=(S1*valN x.2.2.1)*(valN y.2.2.1*D2):=by rw [v1]
   _=_:=by ac_rfl
 have a2:sval y.1 y.2.1*valN x.2.2.1*(D1*D2)=S2*D1*(valN x.2.2.1*valN y.2.2.1):=by
  calc sval y.1 y.2.1*valN x.2.2.1*(D1*D2)=(sval y.1 y.2.1*D2)*(valN x.2.2.1*D1):=by ac_rfl
   _=(S2*valN y.2.2.1)*(valN x.2.2.1*D1):=by rw [v2]
   _=_:=by ac_rfl
 rw [Int.add_mul,Int.add_mul,a1,a2]
theorem convP_valid {p:ByteArray} {l:List DRate} {ms:List DMoney} {to:ByteArray} {m:Int} {mo:DMoney} {ra:DRat} (h:ConvP p l ms to m mo ra 0):MoneyOkP mo.1 mo.2.1 mo.2.2.1∧RatOkP ra.1 ra.2.1 ra.2.2.1∧mo.1=to:=by
 rcases h with ⟨_,_,_,k⟩ | ⟨_,_,_,_,k⟩ | ⟨f,w,x,r,ok,o,k⟩ | ⟨_,_,_,_,_,k⟩
 ·exact absurd k (by decide)
 ·exact absurd k (by decide)
 ·have G:=ratesG f.1.1
  have hx:=run_ok G nought_ok r
  cases ok with
  | false=>simp at k
  | true =>
   obtain⟨e,q,hq,⟨hl,_,rfl,hL⟩ | ⟨_,c,_⟩⟩:=o
   ·exact⟨⟨f.1.2.1,(rnd_len hx hq).2.1,hl⟩,redS_ok (den_pos hx) hL rfl,rfl⟩
   ·cases c
 ·exact absurd k (by decide)
theorem convP_code {p:ByteArray} {l:List DRate} {ms:List DMoney} {to:ByteArray} {m:Int} {mo:DMoney} {ra:DRat} {c:Int} (h:ConvP p l ms to m mo ra c):0≤c∧c≤3:=by
 rcases h with ⟨_,_,_,k⟩ | ⟨_,_,_,_,k⟩ | ⟨f,w,x,r,ok,o,k⟩ | ⟨_,_,_,_,_,k⟩
 ·omega
 ·omega
 ·cases ok <;> simp at k <;> omega
 ·omega
end Go.Proofs.YtmppmpceccpdlaaGreatDoor
namespace Go.Proofs.YtmppmpceccpdlaaGreatDoor
open Sx
set_option maxRecDepth 100000
theorem rnd_near {m:Int} {neg:Bool} {n d:Int} (hd:0<d):-d<n-rndN m neg n d*d∧n-rndN m neg n d*d<d:=by
 have e:=Int.mul_ediv_add_emod n d
 have h0:=Int.emod_nonneg n (show d≠0 by omega)
 have h1:=Int.emod_lt_of_pos n hd
 have e2:n / d*d=d*(n / d):=Int.mul_comm _ _
 rcases rnd_cases m neg n d with ⟨q,_⟩ | q
 ·rw [q,Int.add_mul,Int.one_mul,e2]; omega
 ·rw [q,e2]; omega
theorem left_near {m:Int} {x y:DRat} {e:Bool} {q:List Lim} (hx:RatOkP x.1 x.2.1 x.2.2.1) (h:RndP m x e q) (hl:LeftP x e q y):((sval y.1 y.2.1).natAbs:Int)<valN y.2.2.1:=by
 have hd:=den_pos hx
 obtain⟨v,p,_⟩:=redS_val hd hl
 obtain⟨h1,h2⟩:=rnd_near (m:=m) (neg:=x.1) (n:=valN x.2.1) hd
 rw [← h.2.1] at h1 h2
 have h3:(sval x.1 x.2.1-sval e q*valN x.2.2.1).natAbs<valN x.2.2.1:=by
  rw [(rnd_len hx h).2.2]
  unfold sval
  split
  ·rw [Int.neg_mul]; omega
  ·omega
 have h4:=congrArg Int.natAbs v
 rw [Int.natAbs_mul,Int.natAbs_mul] at h4
 have h5:=congrArg (Nat.cast (R:=Int)) h4
 rw [Int.natCast_mul,Int.natCast_mul,Int.natAbs_of_nonneg (show 0≤valN x.2.2.1 by omega),Int.natAbs_of_nonneg (show 0≤valN y.2.2.1 by omega)] at h5
 refine Int.lt_of_mul_lt_mul_right (a:=valN x.2.2.1) ?_ (by omega)
 rw [h5,Int.mul_comm (valN y.2.2.1)]
 exact Int.mul_lt_mul_of_pos_right h3 p
theorem left_sum {S D:Int} {x w y ra:DRat} {e g:Bool} {q:List Lim} (hD:0<D) (hx:RedS S D x true) (hl:LeftP x e q ra) (hw:RedS (sval e q) 1 w true)
  (hy:RedS (sval w.1 w.2.1*valN ra.2.2.1+sval ra.1 ra.2.1*valN w.2.2.1) (valN w.2.2.1*valN ra.2.2.1) y g):y=x∧g=true:=by
 obtain⟨v,p,_⟩:=redS_val hD hx
 have k:=redS_sum (by decide) p hw hl hy
 rw [Int.mul_one,Int.one_mul,show sval e q*valN x.2.2.1+(sval x.1 x.2.1-sval e q*valN x.2.2.1)=sval x.1 x.2.1 by omega] at k
 exact redS_inj hD (redS_cross p hD v k) hx
end Go.Proofs.YtmppmpceccpdlaaGreatDoor
