/-
  Rates between currencies: how a rate is found, and what it is; in the program and in the reference. What a rate between two currencies is, and the exact value of an amount; in the program and in the reference. Rates between smallest units, and the exact value of an amount in another currency; in the program and in the reference.
-/
import Derived.Test.YtagjmmpiglgmhaaGreatDoorFracN
import Derived.Test.YtagjmmpiglgmhaaGreatDoorTotC
namespace Go.Proofs.YtagjmmpiglgmhaaGreatDoor
open Sx
set_option maxRecDepth 100000
def LsPost (V:Know) (l:List DRate) (a b:ByteArray):Know→Value→Prop:=fun V' r=>V'=V∧((∃ x t g,lkR l a b=some x∧r=.tuple #[decV x.2.2.1 t x.2.2.2.2.1,.bool true]∧LR rI V t x.2.2.2.1 g)∨(lkR l a b=none∧r=.tuple #[decV false ⟨none,0,0⟩ 0,.bool false]))
theorem ba_eq {a c:ByteArray}:(a == c)=true↔a=c:=by
 constructor
 ·intro h
  cases a; cases c
  have h':ByteArray.beq _ _=true:=h
  unfold ByteArray.beq at h'
  simp at h'
  simpa using h'
 ·rintro rfl
  show ByteArray.beq _ _=true
  unfold ByteArray.beq
  simp
theorem pair_eq {a b c d:ByteArray}:(a == c && b == d)=true↔(a,b)=(c,d):=by
 rw [Bool.and_eq_true,ba_eq,ba_eq,Prod.mk.injEq]
theorem cI_listed (V:Know) (p:ByteArray) (s:SlV) (l:List DRate) (f:List Nat) (h:LR rRate V s l f) (a b:ByteArray) :
  CallX Tryz.prog V gI_Rates__listed [Sh1.val (.g [.s,.l]) (p,s,()),Sh1.val (.g [.s,.s]) (a,b,())] (LsPost V l a b):=by
 refine CallX.of_fits Tryz.mix (fI_Rates__listed _ _) fun _=>?_
 have hn:=h.1
 have h63:=h.2.2.1
 simp only [tI_Rates__listed,T.wp]
 refine⟨fun y V'=>V'=V∧∃ i:Nat,y.1=(i:Int)∧i≤l.length∧∀ (j:Nat) (hj:j<l.length),j<i→rkey l[j]≠(a,b),fun y=>((l.length:Int)-(y.1:Int)).toNat,⟨((0:Int),()),rfl,rfl,0,rfl,by omega,fun j _ h=>by omega⟩,?_⟩
 rintro⟨(i:Int),u⟩ V' ⟨rfl,k,hk,hkle,hall⟩
 replace hk:i=(k:Int):=hk
 subst hk
 refine⟨fun hlt=>?_,fun hge=>?_⟩
 ·have hkl:k<l.length:=by
   have:(k:Int)<(s.n:Int):=of_decide_eq_true hlt
   omega
  obtain⟨b1,o1,c1,fc,a1,l1,hR,_⟩:=h.at hkl
  obtain⟨c3,g,rfl,hL⟩:=rate_elim hR
  have e0:(k:Int).toNat=k:=by omega
  dsimp only
  rw [e0]
  refine⟨_,a1,by omega,by omega,(l[k].1,l[k].2.1,l[k].2.2.1,c3,l[k].2.2.2.2.1,()),l1,fun h1=>?_,fun h1=>⟨_,rfl,(((k+1:Nat):Int),()),by rw [nxt hkl (by omega)]; rfl,⟨rfl,k+1,rfl,hkl,fun j hj h2=>?_⟩,?_⟩⟩
  ·have hkey:rkey l[k]=(a,b):=pair_eq.1 h1
   exact⟨rfl,.inl ⟨l[k],c3,g,lkR_at hkl hkey hall,rfl,hL⟩⟩
  ·by_cases e:j=k
   ·subst e
    intro hkey
    rw [show((l[j].1 == a && l[j].2.1 == b)=true) from pair_eq.2 hkey] at h1
    cases h1
   ·exact hall j hj (by omega)
  ·show((l.length:Int)-((k+1:Nat):Int)).toNat<((l.length:Int)-(k:Int)).toNat
   omega
 ·have hkl:k=l.length:=by
   have:¬ (k:Int)<(s.n:Int):=of_decide_eq_false hge
   omega
  subst hkl
  exact⟨rfl,.inr ⟨lkR_none fun j hj=>hall j hj hj,rfl⟩⟩
theorem cI_simple (V:Know) (p:ByteArray) (s:SlV) (l:List DRate) (f:List Nat) (h:LR rRate V s l f) (a b:ByteArray) :
  CallX Tryz.prog V gI_Rates__simple [Sh1.val (.g [.s,.l]) (p,s,()),.string a,.string b] (fun V' r=>V'=V∧r=.int .i64 (leg l a b)):=by
 refine CallX.of_fits Tryz.mix (fI_Rates__simple _ _ _) fun _=>?_
 simp only [tI_Rates__simple,T.wp]
 refine(cI_listed V p s l f h a b).mono ?_
 rintro V1 r ⟨rfl,⟨x,t,g,hx,rfl,_⟩ | ⟨hx,rfl⟩⟩
 ·refine⟨nofun,((x.2.2.1,t,x.2.2.2.2.1,()),true,()),rfl,fun _=>⟨rfl,?_⟩,nofun⟩
  unfold leg
  rw [hx]; rfl
 refine⟨nofun,((false,⟨none,0,0⟩,(0:Int),()),false,()),rfl,nofun,fun _=>(cI_listed V1 p s l f h b a).mono ?_⟩
 rintro V2 r ⟨rfl,⟨x,t,g,hx2,rfl,_⟩ | ⟨hx2,rfl⟩⟩
 ·refine⟨nofun,((x.2.2.1,t,x.2.2.2.2.1,()),true,()),rfl,fun _=>⟨rfl,?_⟩,nofun⟩
  unfold leg
  rw [hx,hx2]; rfl
 ·refine⟨nofun,((false,⟨none,0,0⟩,(0:Int),()),false,()),rfl,nofun,fun _=>⟨rfl,?_⟩⟩
  unfold leg
  rw [hx,hx2]; rfl
theorem lk_of_at {l:List DRate} {a b:ByteArray} {k:Int} (h:(∃ (i:Nat) (hi:i<l.length),k=(i:Int)∧rkey l[i]=(a,b)∧∀ (j:Nat) (hj:j<l.length),j<i→rkey l[j]≠(a,b))∨(k=-1∧∀ (j:Nat) (hj:j<l.length),rkey l[j]≠(a,b))) :
  (0≤k∧∃ (i:Nat) (hi:i<l.length),k=(i:Int)∧lkR l a b=some l[i])∨(k<0∧lkR l a b=none):=by
 rcases h with ⟨i,hi,rfl,hk,hf⟩ | ⟨rfl,hn⟩
 ·exact .inl ⟨by omega,i,hi,rfl,lkR_at hi hk hf⟩
 ·exact .inr ⟨by omega,lkR_none hn⟩
theorem cS_l10Leg (V:Know) (p:ByteArray) (s:SlV) (l:List DRate) (f:List Nat) (h:LR rRate V s l f) (a b:ByteArray) :
  CallX Tryz.prog V gS_l10Leg [Sh1.val (.g [.s,.l]) (p,s,()),.string a,.string b] (fun V' r=>V'=V∧r=.int .i64 (leg l a b)):=by
 refine CallX.of_fits Tryz.mix (fS_l10Leg _ _ _) fun _=>?_
 simp only [tS_l10Leg,T.wp]
 refine(cS_l10AtX V s l f h a b).mono ?_
 rintro V1 r ⟨rfl,k,rfl,hk⟩
 refine⟨nofun,k,rfl,fun h1=>⟨rfl,?_⟩,fun h1=>?_⟩
 ·have k1:k≥0:=of_decide_eq_true h1
  rcases lk_of_at hk with ⟨_,i,hi,_,e⟩ | ⟨k2,_⟩
  ·unfold leg; rw [e]; rfl
  ·omega
 have k1:¬ k≥0:=of_decide_eq_false h1
 have hx:lkR l a b=none:=by
  rcases lk_of_at hk with ⟨k2,_⟩ | ⟨_,e⟩
  ·omega
  ·exact e
 refine(cS_l10AtX V1 s l f h b a).mono ?_
 rintro V2 r ⟨rfl,k',rfl,hk'⟩
 refine⟨nofun,k',rfl,fun h1=>⟨rfl,?_⟩,fun h1=>⟨rfl,?_⟩⟩
 ·have k1:k'≥0:=of_decide_eq_true h1
  rcases lk_of_at hk' with ⟨_,i,hi,_,e⟩ | ⟨k2,_⟩
  ·unfold leg; rw [hx,e]; rfl
  ·omega
 ·have k1:¬ k'≥0:=of_decide_eq_false h1
  rcases lk_of_at hk' with ⟨k2,_⟩ | ⟨_,e⟩
  ·omega
  ·unfold leg; rw [hx,e]; rfl
noncomputable def how (p:ByteArray) (l:List DRate) (a b:ByteArray):Int:=by
 classical
 exact if RatesOkP p l∧known a=true∧known b=true then howR p l a b else 0
theorem how_ok {p:ByteArray} {l:List DRate} {a b:ByteArray} (h:RatesOkP p l) (ka:known a=true) (kb:known b=true):how p l a b=howR p l a b:=by
 unfold how; exact if_pos ⟨h,ka,kb⟩
theorem how_no {p:ByteArray} {l:List DRate} {a b:ByteArray} (h:¬ (RatesOkP p l∧known a=true∧known b=true)):how p l a b=0:=by
 unfold how; exact if_neg h
theorem int_ret {k k':Int} (h:k=k'):packed [Value.int .i64 k]=Value.int .i64 k':=by rw [h]; rfl
theorem how_z {p:ByteArray} {l:List DRate} {a b:ByteArray} (h:¬ (RatesOkP p l∧known a=true∧known b=true)):packed [Value.int .i64 0]=Value.int .i64 (how p l a b):=int_ret (how_no h).symm
theorem cI_RateHow {V:Know} (hV:HcI V) (p:ByteArray) (s:SlV) (l:List DRate) (f:List Nat) (h:LR rRate V s l f) (a b:ByteArray) :
  CallX Tryz.prog V gI_RateHow [Sh1.val (.g [.s,.l]) (p,s,()),.string a,.string b] (fun V' r=>V.le V'∧r=.int .i64 (how p l a b)):=by
 refine CallX.of_fits Tryz.mix (fI_RateHow _ _ _) fun _=>?_
 simp only [tI_RateHow,T.wp]
 refine(cI_RatesOk hV p s l f h).mono ?_
 rintro V1 r ⟨le1,e,rfl,he⟩
 refine⟨nofun,e,rfl,fun hn=>⟨le1,how_z fun k=>by rw [he.2 k.1] at hn; cases hn⟩,fun hy=>?_⟩
 have hok:=he.1 (by simpa using hy)
 refine(kI_CurKnown (hV.le le1) a).mono ?_
 rintro V2 r ⟨le2,rfl⟩
 have l2:=le1.trans le2
 refine⟨nofun,_,rfl,fun hn=>⟨l2,how_z fun k=>by rw [k.2.1] at hn; cases hn⟩,fun hy=>?_⟩
 have ka:known a=true:=by simpa using hy
 refine(kI_CurKnown (hV.le l2) b).mono ?_
 rintro V3 r ⟨le3,rfl⟩
 have l3:=l2.trans le3
 refine⟨nofun,_,rfl,fun hn=>⟨l3,how_z fun k=>by rw [k.2.2] at hn; cases hn⟩,fun hy=>?_⟩
 have kb:known b=true:=by simpa using hy
 rw [how_ok hok ka kb]
 have h3:=h.le l3
 refine⟨fun hy=>⟨l3,int_ret (by rw [howR,if_pos (text_eq.1 hy)])⟩,fun hn=>?_⟩
 have hab:=text_ne.1 hn
 refine(cI_simple V3 p s l f h3 a b).mono ?_
 rintro V4 r ⟨rfl,rfl⟩
 refine⟨nofun,_,rfl,fun hy=>?_,fun hz=>?_⟩
 ·have h0:¬ leg l a b=0:=by simpa using hy
  refine(cI_simple V4 p s l f h3 a b).mono ?_
  rintro V5 r ⟨rfl,rfl⟩
  exact⟨nofun,_,rfl,l3,int_ret (by rw [howR,if_neg hab,if_neg h0])⟩
 have h0:leg l a b=0:=by simpa using hz
 rw [howR,if_neg hab,if_pos h0]
 refine⟨fun hy=>⟨fun hy2=>?_,fun hn=>⟨l3,?_⟩⟩,fun hn=>⟨l3,?_⟩⟩
 rotate_left
 ·exact int_ret (by rw [if_neg fun k=>k.2.1 (text_eq.1 (by simpa using hn))])
 ·exact int_ret (by rw [if_neg fun k=>k.1 (text_eq.1 (by simpa using hn))])
 have hap:a≠p:=text_ne.1 (by simpa using hy)
 have hbp:b≠p:=text_ne.1 (by simpa using hy2)
 refine(cI_simple V4 p s l f h3 a p).mono ?_
 rintro V5 r ⟨rfl,rfl⟩
 refine⟨nofun,_,rfl,fun hy=>?_,fun hz=>⟨l3,?_⟩⟩
 rotate_left
 ·exact int_ret (by rw [if_neg fun k=>k.2.2.1 (by simpa using hz)])
 refine(cI_simple V5 p s l f h3 p b).mono ?_
 rintro V6 r ⟨rfl,rfl⟩
 refine⟨nofun,_,rfl,fun hy2=>⟨l3,?_⟩,fun hz=>⟨l3,?_⟩⟩
 ·exact int_ret (by rw [if_pos ⟨hap,hbp,by simpa using hy,by simpa using hy2⟩])
 ·exact int_ret (by rw [if_neg fun k=>k.2.2.2 (by simpa using hz)])
theorem cS_RateHow {V:Know} (hV:HcS V) (p:ByteArray) (s:SlV) (l:List DRate) (f:List Nat) (h:LR rRate V s l f) (a b:ByteArray) :
  CallX Tryz.prog V gS_RateHow [Sh1.val (.g [.s,.l]) (p,s,()),.string a,.string b] (fun V' r=>V.le V'∧r=.int .i64 (how p l a b)):=by
 refine CallX.of_fits Tryz.mix (fS_RateHow _ _ _) fun _=>?_
 simp only [tS_RateHow,T.wp]
 refine(cS_RatesOk p s l f h).mono ?_
 rintro V1 r ⟨le1,e,rfl,he⟩
 refine⟨nofun,e,rfl,fun hn=>⟨le1,how_z fun k=>by rw [he.2 k.1] at hn; cases hn⟩,fun hy=>?_⟩
 have hok:=he.1 (by simpa using hy)
 refine(kS_CurKnown (hV.le le1) a).mono ?_
 rintro V2 r ⟨le2,rfl⟩
 have l2:=le1.trans le2
 refine⟨nofun,_,rfl,fun hn=>⟨l2,how_z fun k=>by rw [k.2.1] at hn; cases hn⟩,fun hy=>?_⟩
 have ka:known a=true:=by simpa using hy
 refine(kS_CurKnown (hV.le l2) b).mono ?_
 rintro V3 r ⟨le3,rfl⟩
 have l3:=l2.trans le3
 refine⟨nofun,_,rfl,fun hn=>⟨l3,how_z fun k=>by rw [k.2.2] at hn; cases hn⟩,fun hy=>?_⟩
 have kb:known b=true:=by simpa using hy
 rw [how_ok hok ka kb]
 have h3:=h.le l3
 refine⟨fun hy=>⟨l3,int_ret (by rw [howR,if_pos (text_eq.1 hy)])⟩,fun hn=>?_⟩
 have hab:=text_ne.1 hn
 refine(cS_l10Leg V3 p s l f h3 a b).mono ?_
 rintro V4 r ⟨rfl,rfl⟩
 refine⟨nofun,_,rfl,fun hy=>?_,fun hz=>?_⟩
 ·have h0:¬ leg l a b=0:=by simpa using hy
  exact⟨l3,int_ret (by rw [howR,if_neg hab,if_neg h0])⟩
 have h0:leg l a b=0:=by simpa using hz
 rw [howR,if_neg hab,if_pos h0]
 refine⟨fun hy=>⟨fun hy2=>?_,fun hn=>⟨l3,?_⟩⟩,fun hn=>⟨l3,?_⟩⟩
 rotate_left
 ·exact int_ret (by rw [if_neg fun k=>k.2.1 (text_eq.1 (by simpa using hn))])
 ·exact int_ret (by rw [if_neg fun k=>k.1 (text_eq.1 (by simpa using hn))])
 have hap:a≠p:=text_ne.1 (by simpa using hy)
 have hbp:b≠p:=text_ne.1 (by simpa using hy2)
 refine(cS_l10Leg V4 p s l f h3 a p).mono ?_
 rintro V5 r ⟨rfl,rfl⟩
 refine⟨nofun,_,rfl,fun hy=>?_,fun hz=>⟨l3,?_⟩⟩
 rotate_left
 ·exact int_ret (by rw [if_neg fun k=>k.2.2.1 (by simpa using hz)])
 refine(cS_l10Leg V5 p s l f h3 p b).mono ?_
 rintro V6 r ⟨rfl,rfl⟩
 refine⟨nofun,_,rfl,fun hy2=>⟨l3,?_⟩,fun hz=>⟨l3,?_⟩⟩
 ·exact int_ret (by rw [if_pos ⟨hap,hbp,by simpa using hy,by simpa using hy2⟩])
 ·exact int_ret (by rw [if_neg fun k=>k.2.2.2 (by simpa using hz)])
theorem how_split (p:ByteArray) (l:List DRate) (a b:ByteArray) :
  (a=b∧howR p l a b=1∧rateS p l a b=1∧rateD p l a b=1) ∨
  (a≠b∧∃ r,lkR l a b=some r∧howR p l a b=2∧rateS p l a b=sval r.2.2.1 r.2.2.2.1∧rateD p l a b=ten r.2.2.2.2.1.toNat) ∨
  (a≠b∧∃ r,lkR l a b=none∧lkR l b a=some r∧howR p l a b=3∧rateS p l a b=ten r.2.2.2.2.1.toNat∧rateD p l a b=sval r.2.2.1 r.2.2.2.1) ∨
  (a≠b∧a≠p∧b≠p∧leg l a p≠0∧leg l p b≠0∧howR p l a b=4∧rateS p l a b=stepS l a p*stepS l p b∧rateD p l a b=stepD l a p*stepD l p b) ∨
  howR p l a b=0:=by
 by_cases hab:a=b
 ·exact .inl ⟨hab,by rw [howR,if_pos hab],by rw [rateS,if_pos hab],by rw [rateD,if_pos hab]⟩
 unfold howR rateS rateD
 rw [if_neg hab,if_neg hab,if_neg hab]
 by_cases h0:leg l a b=0
 ·rw [if_pos h0,if_pos h0,if_pos h0]
  split
  ·rename_i k
   exact .inr (.inr (.inr (.inl ⟨hab,k.1,k.2.1,k.2.2.1,k.2.2.2,rfl,rfl,rfl⟩)))
  ·exact .inr (.inr (.inr (.inr rfl)))
 ·rw [if_neg h0,if_neg h0,if_neg h0]
  unfold leg at h0 ⊢
  unfold stepS stepD
  cases h1:lkR l a b with
  | some r=>exact .inr (.inl ⟨hab,r,rfl,rfl,rfl,rfl⟩)
  | none =>
   rw [h1] at h0
   cases h2:lkR l b a with
   | some r=>exact .inr (.inr (.inl ⟨hab,r,rfl,rfl,rfl,rfl,rfl⟩))
   | none=>rw [h2] at h0; exact absurd rfl h0
theorem how_leg {p:ByteArray} {l:List DRate} {a b:ByteArray} (hab:a≠b) (h0:leg l a b≠0):howR p l a b≠0∧howR p l a b≠4∧rateS p l a b=stepS l a b∧rateD p l a b=stepD l a b:=by
 unfold howR rateS rateD
 rw [if_neg hab,if_neg hab,if_neg hab,if_neg h0,if_neg h0,if_neg h0]
 rcases leg_cases l a b with e | e | e
 ·exact absurd e h0
 ·rw [e]; exact⟨by decide,by decide,rfl,rfl⟩
 ·rw [e]; exact⟨by decide,by decide,rfl,rfl⟩
theorem lk_ok {l:List DRate} (h:RatesG l) {a b:ByteArray} {r:DRate} (e:lkR l a b=some r):RateOkP r:=by
 obtain⟨i,hi,rfl⟩:=lkR_mem e
 exact(h i hi).2
theorem one_dec:DecOkP false [((1:Int),())] 0:=one_ok
theorem ratP_fit {V V':Know} {S D:Int} {r:Value} (hD:0<D) (hS:(S.natAbs:Int)<1000000000 ^ 18) (hDb:D<1000000000 ^ 18) (h:RatPost V S D V' r) :
  V.le V'∧∃ c x f,r=.tuple #[Sh1.val (.g [.b,.l,.l]) c,.bool true]∧rRat.R V' c x f∧Own V V' f∧RedS S D x true:=by
 obtain⟨le,c,x,e,f,rfl,R,O,hx⟩:=h
 obtain rfl:=redS_fits hD hx hS hDb
 exact⟨le,c,x,f,rfl,R,O,hx⟩
theorem int_red {n:Bool} {m:List Lim} (h:IntOkP n m) (hl:m.length≤18):RedS (sval n m) 1 (n,m,[((1:Int),())],()) true:=by
 have h0:=valN_nonneg h.1.1.1
 refine⟨m,[(1,())],⟨h.1.1,oneI_ok.1.1,?_,by rw [valN_one,Int.gcd_one]; rfl⟩,.inl ⟨hl,by simp,rfl,?_⟩⟩
 ·rw [Int.gcd_one,sval_abs h.1.1.1]; simp
 ·have:decide (sval n m<0)=n:=by
   unfold sval
   cases n with
   | false=>simp; omega
   | true =>
    have:=(can_pos h.1.1).1 (h.2 rfl)
    simp; omega
  rw [this]
abbrev LegPost (V:Know) (S D:Int):Know→Value→Prop:=fun V' r=>V.le V'∧∃ c x f,r=Sh1.val (.g [.b,.l,.l]) c∧rRat.R V' c x f∧Own V V' f∧RedS S D x true
theorem cI_RateOf0 {V:Know} (hV:HcI V) (p:ByteArray) (s:SlV) (l:List DRate) (f:List Nat) (h:LR rRate V s l f) (a b:ByteArray) (hok:RatesOkP p l) (ka:known a=true) (kb:known b=true) (hw:howR p l a b≠0) (hw4:howR p l a b≠4) :
  CallX Tryz.prog V gI_RateOf [Sh1.val (.g [.s,.l]) (p,s,()),.string a,.string b] (RatPost V (rateS p l a b) (rateD p l a b)):=by
 refine CallX.of_fits Tryz.mix (fI_RateOf _ _ _) fun _=>?_
 simp only [tI_RateOf,T.wp]
 refine(cI_RateHow hV p s l f h a b).mono ?_
 rintro V1 r ⟨le1,rfl⟩
 rw [how_ok hok ka kb]
 have h1:=h.le le1
 refine⟨nofun,_,rfl,fun hy=>?_,fun hn1=>⟨fun hy=>?_,fun hn2=>⟨fun hy=>?_,fun hn3=>⟨fun hy=>absurd (by simpa using hy) hw4,fun hn4=>?_⟩⟩⟩⟩
 ·have e1:howR p l a b=1:=by simpa using hy
  rcases how_split p l a b with ⟨_,_,s1,d1⟩ | ⟨_,_,_,e,_⟩ | ⟨_,_,_,_,e,_⟩ | ⟨_,_,_,_,_,e,_⟩ | e
  ·rw [s1,d1]
   refine(cI_IntOf1 V1).mono ?_
   rintro V2 _ ⟨le2,s2,f2,rfl,L2⟩
   refine⟨nofun,(false,s2,()),rfl,(cI_RatInt V2 false s2 _ f2 L2 oneI_ok).mono ?_⟩
   rintro V3 _ ⟨le3,c3,x3,e3,f3,rfl,R3,O3,hx⟩
   have e:sval false [((1:Int),())]=1:=by unfold sval; simp [valN_one]
   rw [e] at hx
   exact⟨nofun,(c3,e3,()),rfl,(le1.trans le2).trans le3,c3,x3,e3,f3,rfl,R3,O3.pre (le1.trans le2),hx⟩
  all_goals omega
 ·have e2:howR p l a b=2:=by simpa using hy
  rcases how_split p l a b with ⟨_,e,_⟩ | ⟨_,r,hr,_,s1,d1⟩ | ⟨_,_,_,_,e,_⟩ | ⟨_,_,_,_,_,e,_⟩ | e
  ·omega
  ·rw [s1,d1]
   have hrok:=lk_ok (ratesG hok) hr
   refine(cI_listed V1 p s l f h1 a b).mono ?_
   rintro V2 _ ⟨rfl,⟨x,t,g,hx,rfl,L⟩ | ⟨hx,_⟩⟩
   ·rw [hr] at hx
    obtain rfl:=Option.some.inj hx
    refine⟨nofun,((r.2.2.1,t,r.2.2.2.2.1,()),true,()),rfl,(cI_DecRat V2 r.2.2.1 t r.2.2.2.1 g r.2.2.2.2.1 L hrok.2.2.2.1).mono ?_⟩
    rintro V3 _ ⟨le3,c3,x3,f3,rfl,R3,O3,hx3⟩
    exact⟨nofun,c3,rfl,le1.trans le3,c3,x3,true,f3,rfl,R3,O3.pre le1,hx3⟩
   ·rw [hr] at hx; cases hx
  all_goals omega
 ·have e3:howR p l a b=3:=by simpa using hy
  rcases how_split p l a b with ⟨_,e,_⟩ | ⟨_,_,_,e,_⟩ | ⟨_,r,_,hr,_,s1,d1⟩ | ⟨_,_,_,_,_,e,_⟩ | e
  ·omega
  ·omega
  ·rw [s1,d1]
   have hrok:=lk_ok (ratesG hok) hr
   obtain⟨_,np,_,_⟩:=rate_num hrok
   refine(cI_listed V1 p s l f h1 b a).mono ?_
   rintro V2 _ ⟨rfl,⟨x,t,g,hx,rfl,L⟩ | ⟨hx,_⟩⟩
   ·rw [hr] at hx
    obtain rfl:=Option.some.inj hx
    refine⟨nofun,((r.2.2.1,t,r.2.2.2.2.1,()),true,()),rfl,(cI_IntOf1 V2).mono ?_⟩
    rintro V3 _ ⟨le3,s3,f3,rfl,L3⟩
    refine⟨fun _=>le3,(false,s3,()),rfl,(cI_DecRat V3 false s3 _ f3 0 L3 one_dec).mono ?_⟩
    rintro V4 _ ⟨le4,c4,x4,f4,rfl,R4,O4,hx4⟩
    refine⟨fun _=>le4,c4,rfl,(cI_DecRat V4 r.2.2.1 t r.2.2.2.1 g r.2.2.2.2.1 (L.le (le3.trans le4)) hrok.2.2.2.1).mono ?_⟩
    rintro V5 _ ⟨le5,c5,x5,f5,rfl,R5,O5,hx5⟩
    have hS2:0<sval r.2.2.1 r.2.2.2.1:=hrok.2.2.2.2.1
    obtain⟨_,_,k5⟩:=redS_val (ten_pos _) hx5
    have m5:0<x5.2.1.length:=(can_pos (redS_ok (ten_pos _) hx5 rfl).1.1.1).2 (k5 hS2).2
    obtain⟨a4,b4,g4,g4',rfl,A4,B4,rfl⟩:=rat_elim (rRat.le R4 le5)
    obtain⟨a5,b5,g5,g5',rfl,A5,B5,rfl⟩:=rat_elim R5
    refine⟨fun _=>le5,_,rfl,(cI_RatDiv V5 x4.1 a4 b4 x5.1 a5 b5 x4.2.1 x4.2.2.1 x5.2.1 x5.2.2.1 _ _ _ _ A4 B4 A5 B5 (redS_ok (by decide) hx4 rfl) (redS_ok (ten_pos _) hx5 rfl) m5).mono ?_⟩
    rintro V6 _ ⟨le6,c6,x6,e6,f6,rfl,R6,O6,hx6⟩
    have l6:=((le1.trans le3).trans le4).trans le5
    have e:sval false [((1:Int),())]=1:=by unfold sval; simp [valN_one]
    rw [e] at hx4
    have key:=redS_div (by decide) (ten_pos _) hS2 hx4 hx5 hx6
    have t0:ten (0:Int).toNat=1:=rfl
    rw [t0,Int.one_mul,Int.one_mul] at key
    exact⟨fun _=>le6,(c6,e6,()),rfl,l6.trans le6,c6,x6,e6,f6,rfl,R6,O6.pre l6,key⟩
   ·rw [hr] at hx; cases hx
  all_goals omega
 ·exfalso
  have a1:¬ howR p l a b=1:=by simpa using hn1
  have a2:¬ howR p l a b=2:=by simpa using hn2
  have a3:¬ howR p l a b=3:=by simpa using hn3
  rcases how_split p l a b with ⟨_,e,_⟩ | ⟨_,_,_,e,_⟩ | ⟨_,_,_,_,e,_⟩ | ⟨_,_,_,_,_,e,_⟩ | e <;> omega
theorem cI_RateOf {V:Know} (hV:HcI V) (p:ByteArray) (s:SlV) (l:List DRate) (f:List Nat) (h:LR rRate V s l f) (a b:ByteArray) (hok:RatesOkP p l) (ka:known a=true) (kb:known b=true) (hw:howR p l a b≠0) :
  CallX Tryz.prog V gI_RateOf [Sh1.val (.g [.s,.l]) (p,s,()),.string a,.string b] (RatPost V (rateS p l a b) (rateD p l a b)):=by
 by_cases hw4:howR p l a b=4
 rotate_left
 ·exact cI_RateOf0 hV p s l f h a b hok ka kb hw hw4
 rcases how_split p l a b with ⟨_,e,_⟩ | ⟨_,_,_,e,_⟩ | ⟨_,_,_,_,e,_⟩ | ⟨_,ap,bp,lap,lpb,_,s1,d1⟩ | e
 ·omega
 ·omega
 ·omega
 rotate_left
 ·omega
 refine CallX.of_fits Tryz.mix (fI_RateOf _ _ _) fun _=>?_
 simp only [tI_RateOf,T.wp]
 refine(cI_RateHow hV p s l f h a b).mono ?_
 rintro V1 r ⟨le1,rfl⟩
 rw [how_ok hok ka kb,hw4,s1,d1]
 obtain⟨w1,w1',sa,da⟩:=how_leg (p:=p) ap lap
 obtain⟨w2,w2',sb,db⟩:=how_leg (p:=p) (fun e=>bp e.symm) lpb
 have G:=ratesG hok
 have bd1:=rate_bd G p a p
 have bd2:=rate_bd G p p b
 have e18:(1000000000:Int) ^ 18=1000000000000000000000000000000000000000000000000000000000000000000000000000000000000000000000000000000000000000000000000000000000000000000000000000000000000000000:=by decide
 refine⟨nofun,4,rfl,nofun,fun _=>⟨nofun,fun _=>⟨nofun,fun _=>⟨fun _=>?_,nofun⟩⟩⟩⟩
 refine(cI_RateOf0 (hV.le le1) p s l f (h.le le1) a p hok ka hok.1 w1 w1').mono ?_
 rintro V2 r h2
 obtain⟨le2,c2,x2,f2,rfl,R2,O2,hx2⟩:=ratP_fit bd1.2.1 (by omega) (by omega) h2
 have l2:=le1.trans le2
 refine⟨nofun,(c2,true,()),rfl,(cI_RateOf0 (hV.le l2) p s l f (h.le l2) p b hok hok.1 kb w2 w2').mono ?_⟩
 rintro V3 r h3
 obtain⟨le3,c3,x3,f3,rfl,R3,O3,hx3⟩:=ratP_fit bd2.2.1 (by omega) (by omega) h3
 obtain⟨a4,b4,g4,g4',rfl,A4,B4,rfl⟩:=rat_elim (rRat.le R2 le3)
 obtain⟨a5,b5,g5,g5',rfl,A5,B5,rfl⟩:=rat_elim R3
 refine⟨nofun,(_,true,()),rfl,fun _=>⟨fun _=>?_,nofun⟩,nofun⟩
 refine(cI_RatMul V3 x2.1 a4 b4 x3.1 a5 b5 x2.2.1 x2.2.2.1 x3.2.1 x3.2.2.1 _ _ _ _ A4 B4 A5 B5 (redS_ok bd1.2.1 hx2 rfl) (redS_ok bd2.2.1 hx3 rfl)).mono ?_
 rintro V4 _ ⟨le4,c6,x6,e6,f6,rfl,R6,O6,hx6⟩
 have l4:=l2.trans le3
 have key:=redS_mul bd1.2.1 bd2.2.1 hx2 hx3 hx6
 rw [sa,sb,da,db] at key
 exact⟨nofun,(c6,e6,()),rfl,l4.trans le4,c6,x6,e6,f6,rfl,R6,O6.pre l4,key⟩
theorem cS_l10Step (V:Know) (p:ByteArray) (s:SlV) (l:List DRate) (f:List Nat) (h:LR rRate V s l f) (a b:ByteArray) (G:RatesG l) (hl:leg l a b≠0) :
  CallX Tryz.prog V gS_l10Step [Sh1.val (.g [.s,.l]) (p,s,()),.string a,.string b] (LegPost V (stepS l a b) (stepD l a b)):=by
 refine CallX.of_fits Tryz.mix (fS_l10Step _ _ _) fun _=>?_
 simp only [tS_l10Step,T.wp]
 have hn:=h.1
 have part:∀ V':Know,V.le V'→∀ (i:Nat) (_:i<l.length),∃ ad t g,s.a=some ad∧loadV V' ((ad.add (i*5)).add 2) 3=some [.bool l[i].2.2.1,.slice t.a t.n t.c,.int .i64 l[i].2.2.2.2.1]∧LR rI V' t l[i].2.2.2.1 g:=by
  intro V' hle i hi
  obtain⟨b1,a1,c,fc,e1,hp,hR,_⟩:=(h.le hle).part hi
  obtain⟨t,g,rfl,L⟩:=rate_elim hR
  exact⟨_,t,g,e1,hp 2 3 _ rfl,L⟩
 refine(cS_l10AtX V s l f h a b).mono ?_
 rintro V1 r ⟨rfl,k,rfl,hk⟩
 refine⟨nofun,k,rfl,fun h1=>?_,fun h1=>?_⟩
 ·have k1:k≥0:=of_decide_eq_true h1
  rcases lk_of_at hk with ⟨_,i,hi,rfl,e⟩ | ⟨k2,_⟩
  ·obtain⟨ad,t,g,e1,ld,L⟩:=part V1 (Know.le.refl _) i hi
   have hrok:=lk_ok G e
   refine⟨ad,e1,k1,by omega,(l[i].2.2.1,t,l[i].2.2.2.2.1,()),ld,(cS_DecRat V1 l[i].2.2.1 t l[i].2.2.2.1 g l[i].2.2.2.2.1 L hrok.2.2.2.1).mono ?_⟩
   rintro V3 _ ⟨le3,c3,x3,f3,rfl,R3,O3,hx3⟩
   refine⟨nofun,c3,rfl,le3,c3,x3,f3,rfl,R3,O3,?_⟩
   unfold stepS stepD
   rw [e]; exact hx3
  ·omega
 have k1:¬ k≥0:=of_decide_eq_false h1
 have hx:lkR l a b=none:=by
  rcases lk_of_at hk with ⟨k2,_⟩ | ⟨_,e⟩
  ·omega
  ·exact e
 obtain⟨r,hr⟩:∃ r,lkR l b a=some r:=by
  unfold leg at hl
  rw [hx] at hl
  cases h2:lkR l b a with
  | some r=>exact⟨r,rfl⟩
  | none=>rw [h2] at hl; exact absurd rfl hl
 have hrok:=lk_ok G hr
 refine(cS_IntOf1 V1).mono ?_
 rintro V2 _ ⟨le2,s2,f2,rfl,L2⟩
 refine⟨nofun,(false,s2,()),rfl,(cS_RatInt V2 false s2 _ f2 L2 oneI_ok).mono ?_⟩
 have e1:sval false [((1:Int),())]=1:=by unfold sval; simp [valN_one]
 rintro V3 r3 h3
 rw [e1] at h3
 obtain⟨le3,c3,x3,f3,rfl,R3,O3,hx3⟩:=ratP_fit (by decide) (by decide) (by decide) h3
 have l3:=le2.trans le3
 refine⟨nofun,(c3,true,()),rfl,(cS_l10AtX V3 s l f (h.le l3) b a).mono ?_⟩
 rintro V4 _ ⟨rfl,k',rfl,hk'⟩
 rcases lk_of_at hk' with ⟨_,i,hi,rfl,e⟩ | ⟨_,e⟩
 rotate_left
 ·rw [hr] at e; cases e
 rw [hr] at e
 obtain rfl:=Option.some.inj e
 obtain⟨ad,t,g,ea,ld,L⟩:=part V4 l3 i hi
 refine⟨fun _=>Know.le.refl _,_,rfl,ad,ea,by omega,by omega,(l[i].2.2.1,t,l[i].2.2.2.2.1,()),ld,(cS_DecRat V4 l[i].2.2.1 t l[i].2.2.2.1 g l[i].2.2.2.2.1 L hrok.2.2.2.1).mono ?_⟩
 rintro V5 _ ⟨le5,c5,x5,f5,rfl,R5,O5,hx5⟩
 have hS2:0<sval l[i].2.2.1 l[i].2.2.2.1:=hrok.2.2.2.2.1
 obtain⟨_,_,k5⟩:=redS_val (ten_pos _) hx5
 have m5:0<x5.2.1.length:=(can_pos (redS_ok (ten_pos _) hx5 rfl).1.1.1).2 (k5 hS2).2
 obtain⟨a4,b4,g4,g4',rfl,A4,B4,rfl⟩:=rat_elim (rRat.le R3 le5)
 obtain⟨a5,b5,g5,g5',rfl,A5,B5,rfl⟩:=rat_elim R5
 refine⟨fun _=>le5,_,rfl,(cS_RatDiv V5 x3.1 a4 b4 x5.1 a5 b5 x3.2.1 x3.2.2.1 x5.2.1 x5.2.2.1 _ _ _ _ A4 B4 A5 B5 (redS_ok (by decide) hx3 rfl) (redS_ok (ten_pos _) hx5 rfl) m5).mono ?_⟩
 rintro V6 r6 h6
 have bd:=step_bd G a b
 have e18:(1000000000:Int) ^ 18=1000000000000000000000000000000000000000000000000000000000000000000000000000000000000000000000000000000000000000000000000000000000000000000000000000000000000000000:=by decide
 obtain⟨le6,c6,x6,e6,f6,rfl,R6,O6,hx6⟩:=h6
 have key:=redS_div (by decide) (ten_pos _) hS2 hx3 hx5 hx6
 rw [Int.one_mul,Int.one_mul] at key
 have eS:stepS l a b=ten l[i].2.2.2.2.1.toNat:=by unfold stepS; rw [hx,hr]
 have eD:stepD l a b=sval l[i].2.2.1 l[i].2.2.2.1:=by unfold stepD; rw [hx,hr]
 rw [← eS,← eD] at key
 obtain rfl:=redS_fits bd.2.2.1 key (by omega) (by omega)
 have l6:=l3.trans le5
 exact⟨fun _=>le6,(c6,true,()),rfl,l6.trans le6,c6,x6,f6,rfl,R6,O6.pre l6,key⟩
theorem cS_RateOf {V:Know} (hV:HcS V) (p:ByteArray) (s:SlV) (l:List DRate) (f:List Nat) (h:LR rRate V s l f) (a b:ByteArray) (hok:RatesOkP p l) (ka:known a=true) (kb:known b=true) (hw:howR p l a b≠0) :
  CallX Tryz.prog V gS_RateOf [Sh1.val (.g [.s,.l]) (p,s,()),.string a,.string b] (RatPost V (rateS p l a b) (rateD p l a b)):=by
 refine CallX.of_fits Tryz.mix (fS_RateOf _ _ _) fun _=>?_
 simp only [tS_RateOf,T.wp]
 refine(cS_RateHow hV p s l f h a b).mono ?_
 rintro V1 r ⟨le1,rfl⟩
 rw [how_ok hok ka kb]
 have h1:=h.le le1
 have G:=ratesG hok
 have one:leg l a b≠0→a≠b→CallX Tryz.prog V1 gS_l10Step [Sh1.val (.g [.s,.l]) (p,s,()),.string a,.string b] (LegPost V1 (rateS p l a b) (rateD p l a b)):=by
  intro k kab
  obtain⟨_,_,s1,d1⟩:=how_leg (p:=p) kab k
  rw [s1,d1]
  exact cS_l10Step V1 p s l f h1 a b G k
 refine⟨nofun,_,rfl,fun hy=>?_,fun hn1=>⟨fun hy=>?_,fun hn2=>⟨fun hy=>?_,fun hn3=>⟨fun hy=>?_,fun hn4=>?_⟩⟩⟩⟩
 ·have e1:howR p l a b=1:=by simpa using hy
  rcases how_split p l a b with ⟨_,_,s1,d1⟩ | ⟨_,_,_,e,_⟩ | ⟨_,_,_,_,e,_⟩ | ⟨_,_,_,_,_,e,_⟩ | e
  ·rw [s1,d1]
   refine(cS_IntOf1 V1).mono ?_
   rintro V2 _ ⟨le2,s2,f2,rfl,L2⟩
   refine⟨nofun,(false,s2,()),rfl,(cS_RatInt V2 false s2 _ f2 L2 oneI_ok).mono ?_⟩
   rintro V3 _ ⟨le3,c3,x3,e3,f3,rfl,R3,O3,hx⟩
   have e:sval false [((1:Int),())]=1:=by unfold sval; simp [valN_one]
   rw [e] at hx
   exact⟨nofun,(c3,e3,()),rfl,(le1.trans le2).trans le3,c3,x3,e3,f3,rfl,R3,O3.pre (le1.trans le2),hx⟩
  all_goals omega
 ·have e2:howR p l a b=2:=by simpa using hy
  rcases how_split p l a b with ⟨_,e,_⟩ | ⟨kab,r,hr,_⟩ | ⟨_,_,_,_,e,_⟩ | ⟨_,_,_,_,_,e,_⟩ | e
  ·omega
  ·refine(one (by unfold leg; rw [hr]; exact(by decide:(2:Int)≠0)) kab).mono ?_
   rintro V2 _ ⟨le2,c2,x2,f2,rfl,R2,O2,hx2⟩
   exact⟨nofun,c2,rfl,le1.trans le2,c2,x2,true,f2,rfl,R2,O2.pre le1,hx2⟩
  all_goals omega
 ·have e3:howR p l a b=3:=by simpa using hy
  rcases how_split p l a b with ⟨_,e,_⟩ | ⟨_,_,_,e,_⟩ | ⟨kab,r,hr0,hr,_⟩ | ⟨_,_,_,_,_,e,_⟩ | e
  ·omega
  ·omega
  ·refine(one (by unfold leg; rw [hr0,hr]; exact(by decide:(3:Int)≠0)) kab).mono ?_
   rintro V2 _ ⟨le2,c2,x2,f2,rfl,R2,O2,hx2⟩
   exact⟨nofun,c2,rfl,le1.trans le2,c2,x2,true,f2,rfl,R2,O2.pre le1,hx2⟩
  all_goals omega
 ·have e4:howR p l a b=4:=by simpa using hy
  rcases how_split p l a b with ⟨_,e,_⟩ | ⟨_,_,_,e,_⟩ | ⟨_,_,_,_,e,_⟩ | ⟨_,ap,bp,lap,lpb,_,s1,d1⟩ | e
  ·omega
  ·omega
  ·omega
  rotate_left
  ·omega
  rw [s1,d1]
  have bd1:=step_bd G a p
  have bd2:=step_bd G p b
  refine(cS_l10Step V1 p s l f h1 a p G lap).mono ?_
  rintro V2 _ ⟨le2,c2,x2,f2,rfl,R2,O2,hx2⟩
  refine⟨fun _=>le2,c2,rfl,(cS_l10Step V2 p s l f (h1.le le2) p b G lpb).mono ?_⟩
  rintro V3 _ ⟨le3,c3,x3,f3,rfl,R3,O3,hx3⟩
  obtain⟨a4,b4,g4,g4',rfl,A4,B4,rfl⟩:=rat_elim (rRat.le R2 le3)
  obtain⟨a5,b5,g5,g5',rfl,A5,B5,rfl⟩:=rat_elim R3
  refine⟨fun _=>le3,_,rfl,(cS_RatMul V3 x2.1 a4 b4 x3.1 a5 b5 x2.2.1 x2.2.2.1 x3.2.1 x3.2.2.1 _ _ _ _ A4 B4 A5 B5 (redS_ok bd1.2.2.1 hx2 rfl) (redS_ok bd2.2.2.1 hx3 rfl)).mono ?_⟩
  rintro V4 _ ⟨le4,c6,x6,e6,f6,rfl,R6,O6,hx6⟩
  have l4:=(le1.trans le2).trans le3
  exact⟨fun _=>le4,(c6,e6,()),rfl,l4.trans le4,c6,x6,e6,f6,rfl,R6,O6.pre l4,redS_mul bd1.2.2.1 bd2.2.2.1 hx2 hx3 hx6⟩
 ·exfalso
  have a1:¬ howR p l a b=1:=by simpa using hn1
  have a2:¬ howR p l a b=2:=by simpa using hn2
  have a3:¬ howR p l a b=3:=by simpa using hn3
  have a4:¬ howR p l a b=4:=by simpa using hn4
  rcases how_split p l a b with ⟨_,e,_⟩ | ⟨_,_,_,e,_⟩ | ⟨_,_,_,_,e,_⟩ | ⟨_,_,_,_,_,e,_⟩ | e <;> omega
theorem pS_CurPlaces {V:Know} (_:HcS V) (x:ByteArray):CallX Tryz.prog V gS_CurPlaces [.string x] (fun V' r=>V.le V'∧r=.int .i64 (places x)):=by
 refine CallX.of_fits Tryz.mix (fS_CurPlaces _) fun _=>?_
 simp only [tS_CurPlaces,T.wp]
 refine(cS_l08Find V x).mono ?_
 rintro V1 _ ⟨le1,rfl⟩
 exact⟨nofun,curRowOf x,rfl,le1,rfl⟩
theorem pI_CurPlaces {V:Know} (hV:HcI V) (x:ByteArray):CallX Tryz.prog V gI_CurPlaces [.string x] (fun V' r=>V.le V'∧r=.int .i64 (places x)):=by
 refine CallX.of_fits Tryz.mix (fI_CurPlaces _) fun _=>?_
 simp only [tI_CurPlaces,T.wp]
 refine(cI_currencyOf hV x).mono ?_
 rintro V1 _ ⟨rfl,rfl⟩
 exact⟨nofun,(curRowOf x,known x,()),rfl,Know.le.refl _,rfl⟩
theorem places_nat (x:ByteArray):places x=(((places x).toNat:Nat):Int):=by have:=places_bd x; omega
theorem tenP_I {V:Know} (x:ByteArray):CallX Tryz.prog V gI_natTen [.int .i64 (places x)] (fun V' r=>V.le V'∧∃ s f,r=Sc.val .l s∧LR rI V' s (tenL (places x).toNat) f∧Own V V' f):=by
 have:=cI_natTen V (places x).toNat (by have:=places_bd x; omega)
 rwa [← places_nat] at this
theorem tenL_len4 (x:ByteArray):(tenL (places x).toNat).length≤1:=by
 rw [tenL_len]
 have:=places_bd x
 omega
theorem tenL_rat (x:ByteArray):RatOkP false (tenL (places x).toNat) [((1:Int),())]:=by
 have h1:=tenL_len4 x
 refine⟨⟨⟨tenL_can _,by omega⟩,nofun⟩,oneI_ok.1,by simp,by simp,by omega,?_⟩
 rw [valN_one,Int.gcd_one]
theorem cI_UnitRate {V:Know} (hV:HcI V) (p:ByteArray) (s:SlV) (l:List DRate) (f:List Nat) (h:LR rRate V s l f) (a b:ByteArray) (hok:RatesOkP p l) (ka:known a=true) (kb:known b=true) (hw:howR p l a b≠0) :
  CallX Tryz.prog V gI_UnitRate [Sh1.val (.g [.s,.l]) (p,s,()),.string a,.string b] (RatPost V (unitS p l a b) (unitD p l a b)):=by
 refine CallX.of_fits Tryz.mix (fI_UnitRate _ _ _) fun _=>?_
 simp only [tI_UnitRate,T.wp]
 have bd:=rate_bd (ratesG hok) p a b
 have e18:(1000000000:Int) ^ 18=1000000000000000000000000000000000000000000000000000000000000000000000000000000000000000000000000000000000000000000000000000000000000000000000000000000000000000000:=by decide
 refine(cI_RateOf hV p s l f h a b hok ka kb hw).mono ?_
 rintro V1 r h1
 obtain⟨le1,c1,x1,f1,rfl,R1,O1,hx1⟩:=ratP_fit bd.2.1 (by omega) (by omega) h1
 obtain⟨a4,b4,g4,g4',rfl,A4,B4,rfl⟩:=rat_elim R1
 have ok1:=redS_ok bd.2.1 hx1 rfl
 have z1:=ok1.2.2.2.1
 have z2:=ok1.2.2.2.2.1
 have p1:=(can_pos ok1.2.1.1).1 ok1.2.2.1
 have t1:=tenL_len4 b
 have t2:=tenL_len4 a
 refine⟨nofun,(_,true,()),rfl,nofun,fun _=>(pI_CurPlaces (hV.le le1) b).mono ?_⟩
 rintro V2 _ ⟨le2,rfl⟩
 refine⟨fun _=>le2,_,rfl,(tenP_I b).mono ?_⟩
 rintro V3 _ ⟨le3,s3,f3,rfl,L3,_⟩
 have l3:=le2.trans le3
 refine⟨fun _=>le3,s3,rfl,(cI_natMul V3 a4 s3 _ _ _ _ (A4.le l3) L3 ok1.1.1.1.1 (tenL_can _).1 (by omega) (by omega)).mono ?_⟩
 rintro V4 _ ⟨le4,s4,o4,k4,rfl,N4,_,C4,v4,_⟩
 have n4:=mul_len (tenL_can _) C4 ok1.1.1.1.1 v4
 refine⟨fun _=>le4,s4,rfl,(cI_signed V4 _ s4).mono ?_⟩
 rintro V5 _ ⟨rfl,rfl⟩
 have l4:=l3.trans le4
 refine⟨fun _=>Know.le.refl _,_,rfl,(pI_CurPlaces (hV.le (le1.trans l4)) a).mono ?_⟩
 rintro V6 _ ⟨le6,rfl⟩
 refine⟨fun _=>le6,_,rfl,(tenP_I a).mono ?_⟩
 rintro V7 _ ⟨le7,s7,f7,rfl,L7,_⟩
 have l7:=(l4.trans le6).trans le7
 refine⟨fun _=>le7,s7,rfl,(cI_natMul V7 b4 s7 _ _ _ _ (B4.le l7) L7 ok1.2.1.1.1 (tenL_can _).1 (by omega) (by omega)).mono ?_⟩
 rintro V8 _ ⟨le8,s8,o8,k8,rfl,N8,_,C8,v8,_⟩
 have n8:=mul_len (tenL_can _) C8 ok1.2.1.1.1 v8
 rw [tenL_val] at v4 v8
 have hn4:=N4.lr.1
 have ed:decide ((s4.n:Int) > 0)=decide (0<o4.length):=decide_eq_decide.2 (by omega)
 refine⟨fun _=>le8,s8,rfl,(cI_reduce V8 _ s4 s8 o4 o8 [k4] [k8] (N4.lr.le ((le6.trans le7).trans le8)) N8.lr C4 C8 (by rw [v8]; exact Int.mul_pos p1 (ten_pos _)) (by omega) (by omega)).mono ?_⟩
 rintro V9 _ ⟨le9,c9,x9,e9,f9,rfl,R9,O9,hx⟩
 have l8:=(le1.trans l7).trans le8
 refine⟨fun _=>le9,(c9,e9,()),rfl,l8.trans le9,c9,x9,e9,f9,rfl,R9,O9.pre l8,?_⟩
 rw [ed,(made_ok C4 (by omega)).2] at hx
 have e1:sval x1.1 o4=sval x1.1 x1.2.1*ten (places b).toNat:=by
  unfold sval
  rw [v4]
  split <;> simp [Int.neg_mul]
 rw [e1,v8] at hx
 obtain⟨q1,_,_⟩:=redS_val bd.2.1 hx1
 refine redS_cross (Int.mul_pos p1 (ten_pos _)) (unitD_bd (ratesG hok) p a b).1 ?_ hx
 unfold unitS unitD
 calc sval x1.1 x1.2.1*ten (places b).toNat*(rateD p l a b*ten (places a).toNat)=(sval x1.1 x1.2.1*rateD p l a b)*(ten (places b).toNat*ten (places a).toNat):=by ac_rfl
  _=(rateS p l a b*valN x1.2.2.1)*(ten (places b).toNat*ten (places a).toNat):=by rw [q1]
  _=rateS p l a b*ten (places b).toNat*(valN x1.2.2.1*ten (places a).toNat):=by ac_rfl
theorem cS_CurUnit {V:Know} (hV:HcS V) (x:ByteArray) (k:known x=true):CallX Tryz.prog V gS_CurUnit [.string x]
  (fun V' r=>V.le V'∧∃ s s' f f',r=Sh1.val (.g [.b,.l,.l]) (false,s,s',())∧LR rI V' s (tenL (places x).toNat) f∧LR rI V' s' [((1:Int),())] f'):=by
 refine CallX.of_fits Tryz.mix (fS_CurUnit _) fun _=>?_
 simp only [tS_CurUnit,T.wp]
 refine(kS_CurKnown hV x).mono ?_
 rintro V1 r ⟨le1,rfl⟩
 refine⟨nofun,_,rfl,fun hn=>?_,fun _=>(pS_CurPlaces (hV.le le1) x).mono ?_⟩
 ·rw [k] at hn; cases hn
 rintro V2 r ⟨le2,rfl⟩
 have key:=cS_l07Ten V2 (places x).toNat (by have:=places_bd x; omega)
 rw [← places_nat] at key
 refine⟨nofun,_,rfl,key.mono ?_⟩
 rintro V3 _ ⟨le3,s3,f3,rfl,L3,_⟩
 refine⟨nofun,(false,s3,()),rfl,fun b c sp hb hc _=>?_⟩
 have hc':1≤c:=hc
 have nw:=newI (V:=V3) (b:=b) (cap:=c) (o:=[((1:Int),())]) (spare:=sp) (t:=3) hb hc' (by decide)
 exact⟨((le1.trans le2).trans le3).trans (kset_le hb),s3,_,f3,[b],rfl,L3.le (kset_le hb),nw.1⟩
theorem cS_UnitRate {V:Know} (hV:HcS V) (p:ByteArray) (s:SlV) (l:List DRate) (f:List Nat) (h:LR rRate V s l f) (a b:ByteArray) (hok:RatesOkP p l) (ka:known a=true) (kb:known b=true) (hw:howR p l a b≠0) :
  CallX Tryz.prog V gS_UnitRate [Sh1.val (.g [.s,.l]) (p,s,()),.string a,.string b] (RatPost V (unitS p l a b) (unitD p l a b)):=by
 refine CallX.of_fits Tryz.mix (fS_UnitRate _ _ _) fun _=>?_
 simp only [tS_UnitRate,T.wp]
 have bd:=rate_bd (ratesG hok) p a b
 have e18:(1000000000:Int) ^ 18=1000000000000000000000000000000000000000000000000000000000000000000000000000000000000000000000000000000000000000000000000000000000000000000000000000000000000000000:=by decide
 refine(cS_RateOf hV p s l f h a b hok ka kb hw).mono ?_
 rintro V1 r h1
 obtain⟨le1,c1,x1,f1,rfl,R1,O1,hx1⟩:=ratP_fit bd.2.1 (by omega) (by omega) h1
 refine⟨nofun,(c1,true,()),rfl,nofun,fun _=>(cS_CurUnit (hV.le le1) b kb).mono ?_⟩
 rintro V2 _ ⟨le2,s2,s2',f2,f2',rfl,A2,B2⟩
 refine⟨nofun,_,rfl,(cS_CurUnit (hV.le (le1.trans le2)) a ka).mono ?_⟩
 rintro V3 _ ⟨le3,s3,s3',f3,f3',rfl,A3,B3⟩
 have l3:=le2.trans le3
 have ua:=unit_bd a
 have ub:=unit_bd b
 refine⟨nofun,_,rfl,(cS_RatDiv V3 false s2 s2' false s3 s3' _ _ _ _ _ _ _ _ (A2.le le3) (B2.le le3) A3 B3 (tenL_rat b) (tenL_rat a) (by rw [tenL_len]; omega)).mono ?_⟩
 rintro V4 r h4
 have e1:sv (false != false) (valN (tenL (places b).toNat)*valN [((1:Int),())])=ten (places b).toNat:=by
  rw [tenL_val,valN_one]
  unfold sv; simp
 have e2:valN [((1:Int),())]*valN (tenL (places a).toNat)=ten (places a).toNat:=by rw [tenL_val,valN_one,Int.one_mul]
 rw [e1,e2] at h4
 obtain⟨le4,c4,x4,f4,rfl,R4,O4,hx4⟩:=ratP_fit ua.1 (by omega) (by omega) h4
 have l4:=l3.trans le4
 obtain⟨a5,b5,g5,g5',rfl,A5,B5,rfl⟩:=rat_elim (rRat.le R1 l4)
 obtain⟨a6,b6,g6,g6',rfl,A6,B6,rfl⟩:=rat_elim R4
 refine⟨nofun,(_,true,()),rfl,(cS_RatMul V4 x1.1 a5 b5 x4.1 a6 b6 x1.2.1 x1.2.2.1 x4.2.1 x4.2.2.1 _ _ _ _ A5 B5 A6 B6 (redS_ok bd.2.1 hx1 rfl) (redS_ok ua.1 hx4 rfl)).mono ?_⟩
 rintro V5 _ ⟨le5,c5,x5,e5,f5,rfl,R5,O5,hx5⟩
 have l5:=le1.trans l4
 exact⟨nofun,(c5,e5,()),rfl,l5.trans le5,c5,x5,e5,f5,rfl,R5,O5.pre l5,redS_mul bd.2.1 ua.1 hx1 hx4 hx5⟩
theorem cI_MoneyRat {V:Know} (hV:HcI V) (c:ByteArray) (n:Bool) (s:SlV) (m:List Lim) (f:List Nat) (h:LR rI V s m f) (ok:MoneyOkP c n m) :
  CallX Tryz.prog V gI_MoneyRat [Sh1.val (.g [.s,.b,.l]) (c,n,s,())] (LegPost V (sval n m) 1):=by
 refine CallX.of_fits Tryz.mix (fI_MoneyRat _) fun _=>?_
 simp only [tI_MoneyRat,T.wp]
 refine(cI_MoneyOk hV c n s m f h).mono ?_
 rintro V1 r ⟨le1,e,rfl,he⟩
 obtain rfl:e=true:=he.2 ok
 have l4:=ok.2.2
 refine⟨nofun,true,rfl,nofun,fun _=>?_⟩
 have hc:CallX Tryz.prog V1 gI_intCopy [Sh1.val (.g [.b,.l]) (n,s,())] (fun V' r=>V1.le V'∧∃ s' f',r=Sh1.val (.g [.b,.l]) (n,s',())∧LR rI V' s' m f'∧Own V1 V' f'):=by
  refine CallX.of_fits Tryz.mix (fI_intCopy _) fun _=>?_
  simp only [tI_intCopy,T.wp]
  refine(cI_natCopy V1 s m f (h.le le1) (by omega)).mono ?_
  rintro V2 _ ⟨le2,s2,f2,rfl,L2,O2⟩
  exact⟨fun _=>le2,s2,rfl,le2,s2,f2,rfl,L2,O2⟩
 refine hc.mono ?_
 rintro V2 _ ⟨le2,s2,f2,rfl,L2,O2⟩
 refine⟨nofun,(n,s2,()),rfl,fun b cp sp hb hcp _=>?_⟩
 have hc':1≤cp:=hcp
 have nw:=newI (V:=V2) (b:=b) (cap:=cp) (o:=[((1:Int),())]) (spare:=sp) (t:=3) hb hc' (by decide)
 have kl:=kset_le (x:=([((1:Int),())].map cellI++sp,((3:TypeId),((0,0):Nat × Nat)))) hb
 exact⟨(le1.trans le2).trans kl,_,_,_,rfl,rat_mk (L2.le kl) nw.1,Own.append (O2.pre le1) (Own.append nw.2 Own.nil kl (Know.le.refl _)) (le1.trans le2) kl,int_red ok.2.1 (by omega)⟩
theorem cS_MoneyRat {V:Know} (c:ByteArray) (n:Bool) (s:SlV) (m:List Lim) (f:List Nat) (h:LR rI V s m f) (ok:MoneyOkP c n m) :
  CallX Tryz.prog V gS_MoneyRat [Sh1.val (.g [.s,.b,.l]) (c,n,s,())] (LegPost V (sval n m) 1):=by
 refine CallX.of_fits Tryz.mix (fS_MoneyRat _) fun _=>?_
 simp only [tS_MoneyRat,T.wp]
 refine(cS_MoneyOk c n s m f h).mono ?_
 rintro V1 r ⟨le1,e,rfl,he⟩
 obtain rfl:e=true:=he.2 ok
 have l4:=ok.2.2
 refine⟨nofun,true,rfl,nofun,fun _=>(cS_RatInt V1 n s m f (h.le le1) ok.2.1).mono ?_⟩
 rintro V2 _ ⟨le2,c2,x2,e2,f2,rfl,R2,O2,hx2⟩
 obtain⟨ex,ee⟩:=redS_inj (by decide) hx2 (int_red ok.2.1 (by omega))
 subst ee
 exact⟨nofun,(c2,true,()),rfl,le1.trans le2,c2,x2,f2,rfl,R2,O2.pre le1,hx2⟩
theorem cI_Exact {V:Know} (hV:HcI V) (p:ByteArray) (s:SlV) (l:List DRate) (f:List Nat) (h:LR rRate V s l f) (m:DMoney) (t:SlV) (g:List Nat) (hm:LR rI V t m.2.2.1 g) (to:ByteArray) (hok:RatesOkP p l) (mok:MoneyOkP m.1 m.2.1 m.2.2.1) (kb:known to=true) (hw:howR p l m.1 to≠0) :
  CallX Tryz.prog V gI_Exact [Sh1.val (.g [.s,.l]) (p,s,()),Sh1.val (.g [.s,.b,.l]) (m.1,m.2.1,t,()),.string to] (RatPost V (exS p l m to) (exD p l m to)):=by
 refine CallX.of_fits Tryz.mix (fI_Exact _ _ _) fun _=>?_
 simp only [tI_Exact,T.wp]
 have G:=ratesG hok
 have bS:=unitS_bd G p m.1 to
 have bD:=unitD_bd G p m.1 to
 have e18:(1000000000:Int) ^ 18=1000000000000000000000000000000000000000000000000000000000000000000000000000000000000000000000000000000000000000000000000000000000000000000000000000000000000000000:=by decide
 refine(cI_MoneyOk hV m.1 m.2.1 t m.2.2.1 g hm).mono ?_
 rintro V1 r ⟨le1,e,rfl,he⟩
 obtain rfl:e=true:=he.2 mok
 refine⟨nofun,true,rfl,nofun,fun _=>(cI_UnitRate (hV.le le1) p s l f (h.le le1) m.1 to hok mok.1 kb hw).mono ?_⟩
 rintro V2 r h2
 obtain⟨le2,c2,x2,f2,rfl,R2,O2,hx2⟩:=ratP_fit bD.1 (by omega) (by omega) h2
 have l2:=le1.trans le2
 refine⟨nofun,(c2,true,()),rfl,nofun,fun _=>(cI_MoneyRat (hV.le l2) m.1 m.2.1 t m.2.2.1 g (hm.le l2) mok).mono ?_⟩
 rintro V3 _ ⟨le3,c3,x3,f3,rfl,R3,O3,hx3⟩
 obtain⟨a5,b5,g5,g5',rfl,A5,B5,rfl⟩:=rat_elim (rRat.le R2 le3)
 obtain⟨a6,b6,g6,g6',rfl,A6,B6,rfl⟩:=rat_elim R3
 refine⟨fun _=>le3,_,rfl,(cI_RatMul V3 x3.1 a6 b6 x2.1 a5 b5 x3.2.1 x3.2.2.1 x2.2.1 x2.2.2.1 _ _ _ _ A6 B6 A5 B5 (redS_ok (by decide) hx3 rfl) (redS_ok bD.1 hx2 rfl)).mono ?_⟩
 rintro V4 _ ⟨le4,c4,x4,e4,f4,rfl,R4,O4,hx4⟩
 have l3:=l2.trans le3
 refine⟨fun _=>le4,(c4,e4,()),rfl,l3.trans le4,c4,x4,e4,f4,rfl,R4,O4.pre l3,?_⟩
 have key:=redS_mul (by decide) bD.1 hx3 hx2 hx4
 rw [Int.one_mul] at key
 exact key
theorem cS_Exact {V:Know} (hV:HcS V) (p:ByteArray) (s:SlV) (l:List DRate) (f:List Nat) (h:LR rRate V s l f) (m:DMoney) (t:SlV) (g:List Nat) (hm:LR rI V t m.2.2.1 g) (to:ByteArray) (hok:RatesOkP p l) (mok:MoneyOkP m.1 m.2.1 m.2.2.1) (kb:known to=true) (hw:howR p l m.1 to≠0) :
  CallX Tryz.prog V gS_Exact [Sh1.val (.g [.s,.l]) (p,s,()),Sh1.val (.g [.s,.b,.l]) (m.1,m.2.1,t,()),.string to] (RatPost V (exS p l m to) (exD p l m to)):=by
 refine CallX.of_fits Tryz.mix (fS_Exact _ _ _) fun _=>?_
 simp only [tS_Exact,T.wp]
 have G:=ratesG hok
 have bS:=unitS_bd G p m.1 to
 have bD:=unitD_bd G p m.1 to
 have e18:(1000000000:Int) ^ 18=1000000000000000000000000000000000000000000000000000000000000000000000000000000000000000000000000000000000000000000000000000000000000000000000000000000000000000000:=by decide
 refine(cS_UnitRate hV p s l f h m.1 to hok mok.1 kb hw).mono ?_
 rintro V1 r h1
 obtain⟨le1,c2,x2,f2,rfl,R2,O2,hx2⟩:=ratP_fit bD.1 (by omega) (by omega) h1
 refine⟨nofun,(c2,true,()),rfl,nofun,fun _=>(cS_MoneyOk m.1 m.2.1 t m.2.2.1 g (hm.le le1)).mono ?_⟩
 rintro V2 r ⟨le2,e,rfl,he⟩
 obtain rfl:e=true:=he.2 mok
 have l2:=le1.trans le2
 refine⟨nofun,true,rfl,nofun,fun _=>(cS_MoneyRat m.1 m.2.1 t m.2.2.1 g (hm.le l2) mok).mono ?_⟩
 rintro V3 _ ⟨le3,c3,x3,f3,rfl,R3,O3,hx3⟩
 obtain⟨a5,b5,g5,g5',rfl,A5,B5,rfl⟩:=rat_elim (rRat.le R2 (le2.trans le3))
 obtain⟨a6,b6,g6,g6',rfl,A6,B6,rfl⟩:=rat_elim R3
 refine⟨fun _=>le3,_,rfl,(cS_RatMul V3 x3.1 a6 b6 x2.1 a5 b5 x3.2.1 x3.2.2.1 x2.2.1 x2.2.2.1 _ _ _ _ A6 B6 A5 B5 (redS_ok (by decide) hx3 rfl) (redS_ok bD.1 hx2 rfl)).mono ?_⟩
 rintro V4 _ ⟨le4,c4,x4,e4,f4,rfl,R4,O4,hx4⟩
 have l3:=l2.trans le3
 refine⟨fun _=>le4,(c4,e4,()),rfl,l3.trans le4,c4,x4,e4,f4,rfl,R4,O4.pre l3,?_⟩
 have key:=redS_mul (by decide) bD.1 hx3 hx2 hx4
 rw [Int.one_mul] at key
 exact key
end Go.Proofs.YtagjmmpiglgmhaaGreatDoor
